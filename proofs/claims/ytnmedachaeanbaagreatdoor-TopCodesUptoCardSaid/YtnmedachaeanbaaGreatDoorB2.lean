/- Merged texts. -/
import Derived.Test.YtnmedachaeanbaaGreatDoorB1
import Derived.Deep.LoopGhost
import Derived.Deep.DeepMust
import Derived.Maps.OwnOps
import Derived.MapKept
import Derived.Laws.Externs
import Derived.Laws.BitsAllLaws
import Ieee.Arith
import GoSem.Core.Float
import Derived.Laws.FloatBits
namespace Go.Proofs.YtnmedachaeanbaaGreatDoor
set_option maxRecDepth 100000
set_option maxHeartbeats 400000
open Go.RowKit
open Go.Lib (hid)
theorem Z4E (a b:ByteArray):(a.toList=b.toList)↔a=b:=by
 constructor
 ·intro h
  rw [ByteArray.toList_eq,ByteArray.toList_eq] at h
  obtain ⟨⟨x⟩⟩:=a
  obtain ⟨⟨y⟩⟩:=b
  simp at h
  rw [h]
 ·intro h;rw [h]
theorem Y6w (w:World) (d:Nat) (k n f k' n' f':Int) (s s':ByteArray) :
 (Op.equalIn (d+2) 73 (.agg #[.int .u8 k,.int .i64 n,.int .u64 f,.string s]) (.agg #[.int .u8 k',.int .i64 n',.int .u64 f',.string s'])).run Tryz.prog w =
  .ok (decide ((⟨k,n,f,s⟩:V)=⟨k',n',f',s'⟩)) w:=by
 go_simp
 by_cases h1:k=k'<;>by_cases h2:n=n'<;>by_cases h3:f=f'<;>by_cases h4:s=s'<;>simp [h1,h2,h3,h4,Z4E]
theorem Y2M (w:World) (d:Nat) (q k n f q' k' n' f':Int) (s s':ByteArray) :
 (Op.equalIn (d+3) 108 (.agg #[.int .i64 q,.int .u8 k,.int .i64 n,.int .u64 f,.string s]) (.agg #[.int .i64 q',.int .u8 k',.int .i64 n',.int .u64 f',.string s'])).run Tryz.prog w =
  .ok (decide ((⟨q,⟨k,n,f,s⟩⟩:At)=⟨q',⟨k',n',f',s'⟩⟩)) w:=by
 go_simp
 by_cases h1:k=k'<;>by_cases h2:n=n'<;>by_cases h3:f=f'<;>by_cases h4:s=s'<;>by_cases h5:q=q'<;>simp [h1,h2,h3,h4,h5,Z4E]
theorem Y2N (w:World) (d:Nat) (q k n f q' k' n' f':Int) (g g':Bool) (s s':ByteArray) :
 (Op.equalIn (d+3) 75 (.agg #[.int .i64 q,.bool g,.int .u8 k,.int .i64 n,.int .u64 f,.string s]) (.agg #[.int .i64 q',.bool g',.int .u8 k',.int .i64 n',.int .u64 f',.string s'])).run Tryz.prog w =
  .ok (decide ((⟨q,g,⟨k,n,f,s⟩⟩:Ch)=⟨q',g',⟨k',n',f',s'⟩⟩)) w:=by
 go_simp
 by_cases h1:k=k'<;>by_cases h2:n=n'<;>by_cases h3:f=f'<;>by_cases h4:s=s'<;>by_cases h5:q=q'<;>by_cases h6:g=g'<;>simp [h1,h2,h3,h4,h5,h6,Z4E]
def beqV (a b:V):Bool:=decide (a=b)
def Y4M (a b:At):Bool:=decide (a=b)
def Y4N (a b:Ch):Bool:=decide (a=b)
theorem Y0t {a b:At} (h:a=b):Y4M a b=true:=decide_eq_true h
theorem Y0u {a b:At} (h:¬ a=b):Y4M a b=false:=decide_eq_false h
theorem Y0v {a b:Ch} (h:a=b):Y4N a b=true:=decide_eq_true h
theorem Y0w {a b:Ch} (h:¬ a=b):Y4N a b=false:=decide_eq_false h
section
variable (w:World) (q k n f q' k' n' f':Int) (g g':Bool) (s s':ByteArray)
@[go_sem high] theorem eql_v:(binOp .eql 73 (.agg #[.int .u8 k,.int .i64 n,.int .u64 f,.string s]) (.agg #[.int .u8 k',.int .i64 n',.int .u64 f',.string s'])).run Tryz.prog w =
 .ok (.bool (beqV ⟨k,n,f,s⟩ ⟨k',n',f',s'⟩)) w:=by rw [run_eql_struct,Y6w];rfl
@[go_sem high] theorem neq_v:(binOp .neq 73 (.agg #[.int .u8 k,.int .i64 n,.int .u64 f,.string s]) (.agg #[.int .u8 k',.int .i64 n',.int .u64 f',.string s'])).run Tryz.prog w =
 .ok (.bool (!beqV ⟨k,n,f,s⟩ ⟨k',n',f',s'⟩)) w:=by rw [run_neq_struct,Y6w];rfl
@[go_sem high] theorem eql_at:(binOp .eql 108 (.agg #[.int .i64 q,.int .u8 k,.int .i64 n,.int .u64 f,.string s]) (.agg #[.int .i64 q',.int .u8 k',.int .i64 n',.int .u64 f',.string s'])).run Tryz.prog w =
 .ok (.bool (Y4M ⟨q,⟨k,n,f,s⟩⟩ ⟨q',⟨k',n',f',s'⟩⟩)) w:=by rw [run_eql_struct,Y2M];rfl
@[go_sem high] theorem neq_at:(binOp .neq 108 (.agg #[.int .i64 q,.int .u8 k,.int .i64 n,.int .u64 f,.string s]) (.agg #[.int .i64 q',.int .u8 k',.int .i64 n',.int .u64 f',.string s'])).run Tryz.prog w =
 .ok (.bool (!Y4M ⟨q,⟨k,n,f,s⟩⟩ ⟨q',⟨k',n',f',s'⟩⟩)) w:=by rw [run_neq_struct,Y2M];rfl
@[go_sem high] theorem eql_ch:(binOp .eql 75 (.agg #[.int .i64 q,.bool g,.int .u8 k,.int .i64 n,.int .u64 f,.string s]) (.agg #[.int .i64 q',.bool g',.int .u8 k',.int .i64 n',.int .u64 f',.string s'])).run Tryz.prog w =
 .ok (.bool (Y4N ⟨q,g,⟨k,n,f,s⟩⟩ ⟨q',g',⟨k',n',f',s'⟩⟩)) w:=by rw [run_eql_struct,Y2N];rfl
@[go_sem high] theorem neq_ch:(binOp .neq 75 (.agg #[.int .i64 q,.bool g,.int .u8 k,.int .i64 n,.int .u64 f,.string s]) (.agg #[.int .i64 q',.bool g',.int .u8 k',.int .i64 n',.int .u64 f',.string s'])).run Tryz.prog w =
 .ok (.bool (!Y4N ⟨q,g,⟨k,n,f,s⟩⟩ ⟨q',g',⟨k',n',f',s'⟩⟩)) w:=by rw [run_neq_struct,Y2N];rfl
end
open Go.RowKit
set_option linter.unusedVariables false
set_option linter.unusedSimpArgs false
def Z8f (v:Value) (w:World) (e:Ending) (w':World):Prop:=e=.returned v∧∃ d,w'=w.drewN d
theorem Z0e {a b:Bool} (h:a=b):Ending.returned (.bool a)=Ending.returned (.bool b):=by rw [h]
theorem Z0k {k:IntKind} {a b:Int} (h:a=b):Ending.returned (.int k a)=Ending.returned (.int k b):=by rw [h]
def rise:List Int→Bool
 | a::b::t=>decide (a<b)&&rise (b::t)
 | _=>true
def Z4b (l:List At):Bool:=rise (l.map (·.key))
def Z3Y (l:List Ch):Bool:=rise (l.map (·.key))
theorem Z6R {α:Type} (f:α→Int) (l:List α) (m:Nat) (h:l.length≤m+1):rise ((l.drop m).map f)=true:=by
 have:(l.drop m).length≤1:=by rw [List.length_drop];omega
 match hd:l.drop m with
 | []=>rfl
 | [a]=>rfl
 | a::b::t=>rw [hd] at this;simp at this
theorem Z9x (A:Option Addr) (n c:Nat) (l:List At) (w:World) (hn:n=l.length) (h:RdAt w w.heap.size A l) (hb:n≤140737488355328) :
 Calls Tryz.prog 178 #[.slice A n c] w (Z8f (.bool (Z4b l)) w):=by
 have N:=hid hn
 generalize hR:Z4b l=R
 have HR:=hid hR
 clear hn hR
 go_enter Tryz.func178,Tryz.ntmps178
 go_wp2_with (fail)
 go_loopg [3] n (fun g iv wr => ∃ m:Nat,(m+1≤n∨m=0)∧g=n-m∧iv=.int .i64 ((m:Int)+1)∧(∃ d,wr=w.drewN d)∧Hid (rise ((l.drop m).map (·.key))=R))
 case atStart=>exact ⟨0,by omega,rfl,rfl,⟨0,rfl⟩,hid (by rw [List.drop_zero];exact HR.out)⟩
 case round=>
  obtain ⟨m,hm,hg,rfl,⟨d,rfl⟩,HI⟩:=hrel
  have HG:=hid hg
  clear hg HR
  by_cases hlt:m+1<n
  ·have hl1:m<l.length:=by have:=N.out;omega
   have hl2:m+1<l.length:=by have:=N.out;omega
   obtain ⟨ad,x,rfl,_,hd1,_,hc1⟩:=h.el hl1
   obtain ⟨ad',y,e,_,hd2,_,hc2⟩:=h.el hl2
   injection e with e;subst e
   have HI':Hid (rise (x.key::y.key::(l.drop (m+2)).map (·.key))=R):=hid (by rw [←HI.out,hd1,hd2];rfl)
   have HI2:Hid (rise (y.key::(l.drop (m+2)).map (·.key))=rise ((l.drop (m+1)).map (·.key))):=hid (by rw [hd2];rfl)
   clear HI hd1 hd2
   obtain ⟨x1,x2,x3,x4,x5⟩:=x
   obtain ⟨y1,y2,y3,y4,y5⟩:=y
   obtain ⟨r0,-⟩:=Z0P hc1
   obtain ⟨s0,-⟩:=Z0P hc2
   have hmn:m<n:=by omega
   have hw:IntKind.i64.wrap (m:Int)=m:=IntWalk.i64_in _ (by omega)
   have hw2:IntKind.i64.wrap ((m:Int)+1)=(m:Int)+1:=IntWalk.i64_in _ (by omega)
   by_cases hle:y1≤x1
   ·go_wp2_with (go_quiet (fail))
    go_ret
    have:¬ x1<y1:=by omega
    exact ⟨Z0e (by rw [←HI'.out];simp [rise,this]),_,rfl⟩
   ·clear hw
    go_wp2_with (go_quiet (fail))
    go_roundg (n-(m+1))
    case measure=>have:=HG.out;omega
    case rel=>exact ⟨m+1,by omega,rfl,by go_num,⟨_,rfl⟩,hid (by rw [←HI'.out,←HI2.out];have:x1<y1:=by omega
                                                                simp [rise,this])⟩
  ·go_wp2_with (fail)
   go_ret
   exact ⟨Z0e (by rw [←HI.out,Z6R _ _ _ (by have:=N.out;omega)]),_,rfl⟩
theorem Z9y (A:Option Addr) (n c:Nat) (l:List Ch) (w:World) (hn:n=l.length) (h:RdCh w w.heap.size A l) (hb:n≤140737488355328) :
 Calls Tryz.prog 31 #[.slice A n c] w (Z8f (.bool (Z3Y l)) w):=by
 have N:=hid hn
 generalize hR:Z3Y l=R
 have HR:=hid hR
 clear hn hR
 go_enter Tryz.func31,Tryz.ntmps31
 go_wp2_with (fail)
 go_loopg [3] n (fun g iv wr => ∃ m:Nat,(m+1≤n∨m=0)∧g=n-m∧iv=.int .i64 ((m:Int)+1)∧(∃ d,wr=w.drewN d)∧Hid (rise ((l.drop m).map (·.key))=R))
 case atStart=>exact ⟨0,by omega,rfl,rfl,⟨0,rfl⟩,hid (by rw [List.drop_zero];exact HR.out)⟩
 case round=>
  obtain ⟨m,hm,hg,rfl,⟨d,rfl⟩,HI⟩:=hrel
  have HG:=hid hg
  clear hg HR
  by_cases hlt:m+1<n
  ·have hl1:m<l.length:=by have:=N.out;omega
   have hl2:m+1<l.length:=by have:=N.out;omega
   obtain ⟨ad,x,rfl,_,hd1,_,hc1⟩:=h.el hl1
   obtain ⟨ad',y,e,_,hd2,_,hc2⟩:=h.el hl2
   injection e with e;subst e
   have HI':Hid (rise (x.key::y.key::(l.drop (m+2)).map (·.key))=R):=hid (by rw [←HI.out,hd1,hd2];rfl)
   have HI2:Hid (rise (y.key::(l.drop (m+2)).map (·.key))=rise ((l.drop (m+1)).map (·.key))):=hid (by rw [hd2];rfl)
   clear HI hd1 hd2
   obtain ⟨x1,x6,x2,x3,x4,x5⟩:=x
   obtain ⟨y1,y6,y2,y3,y4,y5⟩:=y
   obtain ⟨r0,-⟩:=Z0I hc1
   obtain ⟨s0,-⟩:=Z0I hc2
   have hmn:m<n:=by omega
   have hw:IntKind.i64.wrap (m:Int)=m:=IntWalk.i64_in _ (by omega)
   have hw2:IntKind.i64.wrap ((m:Int)+1)=(m:Int)+1:=IntWalk.i64_in _ (by omega)
   by_cases hle:y1≤x1
   ·go_wp2_with (go_quiet (fail))
    go_ret
    have:¬ x1<y1:=by omega
    exact ⟨Z0e (by rw [←HI'.out];simp [rise,this]),_,rfl⟩
   ·clear hw
    go_wp2_with (go_quiet (fail))
    go_roundg (n-(m+1))
    case measure=>have:=HG.out;omega
    case rel=>exact ⟨m+1,by omega,rfl,by go_num,⟨_,rfl⟩,hid (by rw [←HI'.out,←HI2.out];have:x1<y1:=by omega
                                                                simp [rise,this])⟩
  ·go_wp2_with (fail)
   go_ret
   exact ⟨Z0e (by rw [←HI.out,Z6R _ _ _ (by have:=N.out;omega)]),_,rfl⟩
theorem Z8g (A B:Option Addr) (n m c d:Nat) (l k:List At) (w:World) (hn:n=l.length) (hm:m=k.length) (h1:RdAt w w.heap.size A l) (h2:RdAt w w.heap.size B k) (hb:n≤140737488355328) (hb2:m≤140737488355328) :
 Calls Tryz.prog 14 #[.slice A n c,.slice B m d] w (Z8f (.bool (decide (l=k))) w):=by
 have N:=hid hn
 have M:=hid hm
 generalize hR:decide (l=k)=R
 have HR:=hid hR
 clear hn hR hm
 by_cases hnm:(n:Int)=m
 ·have hnm':n=m:=by omega
  subst hnm'
  clear hnm
  go_enter Tryz.func14,Tryz.ntmps14
  go_wp2_with (fail)
  go_loopg [5] n (fun g iv wr => ∃ i:Nat,i≤n∧g=n-i∧iv=.int .i64 (i:Int)∧(∃ d,wr=w.drewN d)∧Hid (decide (l.drop i=k.drop i)=R))
  case atStart=>exact ⟨0,by omega,rfl,rfl,⟨0,rfl⟩,hid (by rw [List.drop_zero,List.drop_zero];exact HR.out)⟩
  case round=>
   obtain ⟨i,hi,hg,rfl,⟨q,rfl⟩,HI⟩:=hrel
   have HG:=hid hg
   clear hg HR
   by_cases hlt:i<n
   ·have hl1:i<l.length:=by have:=N.out;omega
    have hl2:i<k.length:=by have:=M.out;omega
    obtain ⟨ad,x,rfl,_,hd1,_,hc1⟩:=h1.el hl1
    obtain ⟨ad2,y,rfl,_,hd2,_,hc2⟩:=h2.el hl2
    have HI':Hid (decide (x::l.drop (i+1)=y::k.drop (i+1))=R):=hid (by rw [←HI.out,hd1,hd2])
    clear HI hd1 hd2
    obtain ⟨x1,x2,x3,x4,x5⟩:=x
    obtain ⟨y1,y2,y3,y4,y5⟩:=y
    obtain ⟨r0,r1,r2,r3,r4⟩:=Z0P hc1
    obtain ⟨s0,s1,s2,s3,s4⟩:=Z0P hc2
    by_cases hxy:(⟨x1,⟨x2,x3,x4,x5⟩⟩:At)=⟨y1,⟨y2,y3,y4,y5⟩⟩
    ·have hq:=Y0t hxy
     have HXY:=hid hxy
     clear hxy
     go_wp2_with (go_quiet (fail))
     go_roundg (n-(i+1))
     case measure=>have:=HG.out;omega
     case rel=>exact ⟨i+1,by omega,rfl,by go_num,⟨_,rfl⟩,hid (by rw [←HI'.out];simp only [List.cons.injEq,HXY.out,true_and])⟩
    ·have hq:=Y0u hxy
     have HXY:=hid hxy
     clear hxy
     go_wp2_with (go_quiet (fail))
     go_ret
     exact ⟨Z0e (by rw [←HI'.out];exact (decide_eq_false fun e=>HXY.out (List.cons.inj e).1).symm),_,World.drewN_drewN _ _ _⟩
   ·go_wp2_with (fail)
    go_ret
    exact ⟨Z0e (by rw [←HI.out,List.drop_eq_nil_of_le (by have:=N.out;omega),List.drop_eq_nil_of_le (by have:=M.out;omega)];rfl),_,rfl⟩
 ·have hne:((n:Int)==m)=false:=beq_eq_false_iff_ne.2 hnm
  go_enter Tryz.func14,Tryz.ntmps14
  go_wp2_with (fail)
  go_ret
  refine ⟨Z0e ?_,0,rfl⟩
  rw [←HR.out]
  refine (decide_eq_false fun e=>?_).symm
  have h3:=N.out
  have h4:=M.out
  rw [e] at h3
  omega
theorem Y1C (A B:Option Addr) (n m c d:Nat) (l k:List Ch) (w:World) (hn:n=l.length) (hm:m=k.length) (h1:RdCh w w.heap.size A l) (h2:RdCh w w.heap.size B k) (hb:n≤140737488355328) (hb2:m≤140737488355328) :
 Calls Tryz.prog 227 #[.slice A n c,.slice B m d] w (Z8f (.bool (decide (l=k))) w):=by
 have N:=hid hn
 have M:=hid hm
 generalize hR:decide (l=k)=R
 have HR:=hid hR
 clear hn hR hm
 by_cases hnm:(n:Int)=m
 ·have hnm':n=m:=by omega
  subst hnm'
  clear hnm
  go_enter Tryz.func227,Tryz.ntmps227
  go_wp2_with (fail)
  go_loopg [13] n (fun g iv wr => ∃ i:Nat,i≤n∧g=n-i∧iv=.int .i64 (i:Int)∧(∃ d,wr=w.drewN d)∧Hid (decide (l.drop i=k.drop i)=R))
  case atStart=>exact ⟨0,by omega,rfl,rfl,⟨0,rfl⟩,hid (by rw [List.drop_zero,List.drop_zero];exact HR.out)⟩
  case round=>
   obtain ⟨i,hi,hg,rfl,⟨q,rfl⟩,HI⟩:=hrel
   have HG:=hid hg
   clear hg HR
   by_cases hlt:i<n
   ·have hl1:i<l.length:=by have:=N.out;omega
    have hl2:i<k.length:=by have:=M.out;omega
    obtain ⟨ad,x,rfl,_,hd1,_,hc1⟩:=h1.el hl1
    obtain ⟨ad2,y,rfl,_,hd2,_,hc2⟩:=h2.el hl2
    have HI':Hid (decide (x::l.drop (i+1)=y::k.drop (i+1))=R):=hid (by rw [←HI.out,hd1,hd2])
    clear HI hd1 hd2
    obtain ⟨x1,x6,x2,x3,x4,x5⟩:=x
    obtain ⟨y1,y6,y2,y3,y4,y5⟩:=y
    obtain ⟨r0,r1,r2,r3,r4,r5⟩:=Z0I hc1
    obtain ⟨s0,s1,s2,s3,s4,s5⟩:=Z0I hc2
    by_cases hxy:(⟨x1,x6,⟨x2,x3,x4,x5⟩⟩:Ch)=⟨y1,y6,⟨y2,y3,y4,y5⟩⟩
    ·have hq:=Y0v hxy
     have HXY:=hid hxy
     clear hxy
     go_wp2_with (go_quiet (fail))
     go_roundg (n-(i+1))
     case measure=>have:=HG.out;omega
     case rel=>exact ⟨i+1,by omega,rfl,by go_num,⟨_,rfl⟩,hid (by rw [←HI'.out];simp only [List.cons.injEq,HXY.out,true_and])⟩
    ·have hq:=Y0w hxy
     have HXY:=hid hxy
     clear hxy
     go_wp2_with (go_quiet (fail))
     go_ret
     exact ⟨Z0e (by rw [←HI'.out];exact (decide_eq_false fun e=>HXY.out (List.cons.inj e).1).symm),_,World.drewN_drewN _ _ _⟩
   ·go_wp2_with (fail)
    go_ret
    exact ⟨Z0e (by rw [←HI.out,List.drop_eq_nil_of_le (by have:=N.out;omega),List.drop_eq_nil_of_le (by have:=M.out;omega)];rfl),_,rfl⟩
 ·have hne:((n:Int)==m)=false:=beq_eq_false_iff_ne.2 hnm
  go_enter Tryz.func227,Tryz.ntmps227
  go_wp2_with (fail)
  go_ret
  refine ⟨Z0e ?_,0,rfl⟩
  rw [←HR.out]
  refine (decide_eq_false fun e=>?_).symm
  have h3:=N.out
  have h4:=M.out
  rw [e] at h3
  omega
theorem Z5P (A B:Option Addr) (n m c d:Nat) (l k:List Ch) (w:World) (hn:n=l.length) (hm:m=k.length) (h1:RdCh w w.heap.size A l) (h2:RdCh w w.heap.size B k) (hb:n≤140737488355328) (hb2:m≤140737488355328) :
 Calls Tryz.prog 141 #[.slice A n c,.slice B m d] w (Z8f (.bool (decide (l=k))) w):=by
 have N:=hid hn
 have M:=hid hm
 clear hn hm
 go_enter Tryz.func141,Tryz.ntmps141
 go_wp2_with (go_at_call 227;refine (Y1C A B n m c d l k _ N.out M.out h1 h2 hb hb2).mono ?_;rintro e w' ⟨rfl,q,rfl⟩)
 go_ret
 exact ⟨rfl,_,rfl⟩
open Go.RowKit Go.MapKept
structure Ky where
 id:Int
 block:Bool
 kind:Int
 after:Bool
 before:Bool
 group:Int
deriving DecidableEq
def Ky.enc (k:Ky):List Value:=[.int .i64 k.id,.bool k.block,.int .u8 k.kind,.bool k.after,.bool k.before,.int .i64 k.group]
def Ky.val (k:Ky):Value:=.agg #[.int .i64 k.id,.bool k.block,.int .u8 k.kind,.bool k.after,.bool k.before,.int .i64 k.group]
def Ky.zero:Ky:=⟨0,false,0,false,false,0⟩
theorem Ky.enc_len (k:Ky):k.enc.length=6:=rfl
theorem Ky.enc_one (k:Ky):∀ u∈k.enc,u.oneCell'=true:=by intro u hu;simp [Ky.enc] at hu;rcases hu with rfl|rfl|rfl|rfl|rfl|rfl<;>rfl
abbrev RdKy:=@Rd Ky Ky.enc 6
abbrev OwKy:=@Ow Ky Ky.enc 6 78
theorem Tryz.infoKy:(Tryz.prog.info? 78).map (fun i=>(i.zero,i.size,i.bytes))=some (some (Ky.val Ky.zero),6,24):=by kernel_rfl
theorem Tryz.slKy:Tryz.prog.underlying 22=some (.slice 78):=by kernel_rfl
theorem Tryz.mpKy:Tryz.prog.underlying 91=some (.map 3 78):=by kernel_rfl
theorem Tryz.mpInt:Tryz.prog.underlying 3=some (.int .i64):=by kernel_rfl
theorem Tryz.zeroKy (w:World):(zeroValue 78).run Tryz.prog w=.ok (Ky.val Ky.zero) w:=by kernel_rfl
section
variable {w:World} {p:Addr}
theorem Y0x {i g n:Int} {b a f:Bool} (h:CellsAt w p (Ky.enc ⟨i,b,n,a,f,g⟩)) :
 w.cell? p=some (.int .i64 i)∧w.cell? { block:=p.block,off:=p.off+1 }=some (.bool b)∧w.cell? { block:=p.block,off:=p.off+2 }=some (.int .u8 n)∧w.cell? { block:=p.block,off:=p.off+3 }=some (.bool a)∧w.cell? { block:=p.block,off:=p.off+4 }=some (.bool f)∧w.cell? { block:=p.block,off:=p.off+5 }=some (.int .i64 g):=by
 have h0:=h 0 _ rfl
 rw [Z0n] at h0
 exact ⟨h0,Z0s h 0 rfl,Z0s h 1 rfl,Z0s h 2 rfl,Z0s h 3 rfl,Z0s h 4 rfl⟩
theorem Z6S {b:Nat} {t:TypeId} {c0 c1 c2 c3 c4 c5:Value} (h:w.heap[b]? = some (.cells #[c0,c1,c2,c3,c4,c5] t (0,0))) :
 w.cell? ⟨b,0,none⟩=some c0∧w.cell? ⟨b,1,none⟩=some c1∧w.cell? ⟨b,2,none⟩=some c2∧w.cell? ⟨b,3,none⟩=some c3∧w.cell? ⟨b,4,none⟩=some c4∧w.cell? ⟨b,5,none⟩=some c5:=by
 simp [World.cell?,h]
theorem Y1D {b:Nat} {t:TypeId} {c0 c1:Value} (h:w.heap[b]? = some (.cells #[c0,c1] t (0,0))):w.cell? ⟨b,0,none⟩=some c0∧w.cell? ⟨b,1,none⟩=some c1:=by
 simp [World.cell?,h]
theorem Z2n {b:Nat} {t:TypeId} {c0:Value} (h:w.heap[b]? = some (.cells #[c0] t (0,0))):w.cell? ⟨b,0,none⟩=some c0:=by
 simp [World.cell?,h]
end
section
variable {ops:Array Oper} {rest:List Oper} {o:Oper} {a:Act} {Q:Exit→Act→World→Prop} {w:World} {base:Nat} {v:Value}
theorem Y7Z {l m:List Ky} (hgd:o.guard=none) (s x:Operand)
 (ho:o.op=.call { callee:=.builtin .append,args:=#[s,x],argTypes:=#[22,22] })
 (hsv:a.eval s=v) (hown:OwKy w base v l) (B:Nat) (A:Option Addr) (c n:Nat) (hx:a.eval x=.slice A n c) (hn:n=m.length) (hr:RdKy w B A m)
 (hb:l.length+m.length≤2000000000000) (hbase:base≤w.heap.size)
 (h:∀ v' w',OwKy w' base v' (l++m)→w.grownBy w' (wb v)→(v'=v∧w'=w∨wb v'=wb v∨wb v'=some w.heap.size)→wpList Tryz.prog ops Q rest (a.put o.dst v') w'):wpList Tryz.prog ops Q (o::rest) a w:=by
 obtain ⟨i0,hi0,hz0,hz1,hz2⟩:=info_parts Tryz.infoKy
 exact Z1K hgd s x _ ho i0 _ 24 Tryz.slKy hi0 hz0 hz1 hz2 rfl (by omega) Ky.enc_len Ky.enc_one hsv hown B A c n hx hn hr (by simp only [maxLen];omega) (by omega) hbase h
end
def NewKy (r:List Ky) (w:World) (e:Ending) (w':World):Prop:=
 ∃ A c,e=.returned (.slice A r.length c)∧OwKy w' w.heap.size (.slice A r.length c) r∧Below w.heap.size w w'
def Z0O (l:List Ky) (id:Int):Option Ky:=l.find? (fun k=>decide (k.id=id))
def kvOf (k:Ky):Value×Value:=(.int .i64 k.id,k.val)
def MapK (w:World) (b:Nat) (l:List Ky):Prop := ∃ es clock,w.heap[b]? = some (.map es clock)∧es.toList.map (fun e=>(e.key,e.val))=l.map kvOf
theorem Z3m (id:Int):∀ (l:List Ky) (es:List MapEntry) (i:Nat),es.map (fun e=>(e.key,e.val))=l.map kvOf →
 ∃ r,Instr.findNow (.int .i64) (.int .i64 id) es i=some r∧r.map (·.2)=(Z0O l id).map Ky.val
 | [],[],i,_=>⟨none,rfl,rfl⟩
 | [],e::es,i,h=>by simp at h
 | k::l,[],i,h=>by simp at h
 | k::l,e::es,i,h=>by
   simp only [List.map_cons,List.cons.injEq,kvOf,Prod.mk.injEq] at h
   obtain ⟨⟨h1,h2⟩,h3⟩:=h
   by_cases hk:k.id=id
   ·refine ⟨some (i,e.val),?_,?_⟩
    ·simp [Instr.findNow,Instr.sameNow,h1,hk]
    ·simp [Z0O,hk,h2]
   ·obtain ⟨r,hr,he⟩:=Z3m id l es (i+1) h3
    refine ⟨r,?_,?_⟩
    ·have:(id==k.id)=false:=by simp;omega
     simp [Instr.findNow,Instr.sameNow,h1,this,hr]
    ·rw [he];simp [Z0O,hk]
theorem MapK.look {w:World} {b:Nat} {l:List Ky} (h:MapK w b l) (id:Int) :
 (Instr.lookup 91 (.map (some b)) (.int .i64 id) true).run Tryz.prog w=.ok (.tuple #[((Z0O l id).getD Ky.zero).val,.bool (Z0O l id).isSome]) w:=by
 obtain ⟨es,clock,hb,he⟩:=h
 obtain ⟨r,hr,hv⟩:=Z3m id l es.toList 0 he
 have hf:=run_findKey (P:=Tryz.prog) (w:=w) Tryz.mpInt hr
 have hc:=fun e=>run_checkKey (P:=Tryz.prog) (w:=w) (k:=.int .i64 id) Tryz.mpInt (by simp [IsKey]) e 9999
 cases r with
 | none=>
   have:Z0O l id=none:=by cases hq:Z0O l id with
    | none=>rfl
    | some k=>rw [hq] at hv;simp at hv
   simp [Instr.lookup,run_underlying Tryz.mpKy,MapKept.run_getObj_map hb,hc,hf,Tryz.zeroKy,Result.andThen,this];rfl
 | some q=>
   obtain ⟨i,v⟩:=q
   cases hq:Z0O l id with
   | none=>rw [hq] at hv;simp at hv
   | some k=>
     rw [hq] at hv
     simp at hv
     simp [Instr.lookup,run_underlying Tryz.mpKy,MapKept.run_getObj_map hb,hc,hf,Result.andThen,hv]
theorem MapK.store {w:World} {b:Nat} {l:List Ky} (h:MapK w b l) (k:Ky) (hn:Z0O l k.id=none) :
 ∃ w',(Instr.mapUpdate 91 (.map (some b)) (.int .i64 k.id) k.val).run Tryz.prog w=.ok () w'∧MapK w' b (l++[k])∧(∀ j,j≠b→w'.heap[j]? = w.heap[j]?)∧w'.heap.size=w.heap.size∧w'.os=w.os∧w'.tape=w.tape∧w'.output=w.output:=by
 obtain ⟨es,clock,hb,he⟩:=h
 obtain ⟨r,hr,hv⟩:=Z3m k.id l es.toList 0 he
 have hf:=run_findKey (P:=Tryz.prog) (w:=w) Tryz.mpInt hr
 have hc:=fun e=>run_checkKey (P:=Tryz.prog) (w:=w) (k:=.int .i64 k.id) Tryz.mpInt (by simp [IsKey]) e 9999
 rw [hn] at hv
 cases r with
 | some q=>simp at hv
 | none=>
   obtain ⟨h1,h2⟩:=heap_set (o':=.map (es.push ⟨.int .i64 k.id,k.val,clock⟩) (clock+1)) hb
   refine ⟨{ w with heap:=w.heap.setIfInBounds b (.map (es.push ⟨.int .i64 k.id,k.val,clock⟩) (clock+1)) },?_,⟨_,_,h1,?_⟩,h2,by simp,rfl,rfl,rfl⟩
   ·simp [Instr.mapUpdate,run_underlying Tryz.mpKy,MapKept.run_getObj_map hb,hc,hf,MapKept.run_setObj_map _ hb,Result.andThen]
   ·rw [Array.toList_push,List.map_append,he];simp [kvOf]
theorem MapK.keep {w w':World} {b:Nat} {l:List Ky} (h:MapK w b l) (e:w'.heap[b]? = w.heap[b]?):MapK w' b l:=by
 obtain ⟨es,clock,hb,he⟩:=h
 exact ⟨es,clock,e.trans hb,he⟩
open Go.RowKit
set_option linter.unusedVariables false
set_option linter.unusedSimpArgs false
def nanF (f:Int):Bool:=decide (9218868437227405312<f % 9223372036854775808)
def Z3n (f:Int):V:=⟨3,0,if nanF f=true then 9221120237041090560 else f,⟨#[]⟩⟩
def Y4O (b:Bool):V:=⟨1,if b=true then 1 else 0,0,⟨#[]⟩⟩
def intV (n:Int):V:=⟨2,n,0,⟨#[]⟩⟩
def Y70 (s:ByteArray):V:=⟨4,0,0,s⟩
@[go_sem high] theorem run_frombits (n:Int) (w:World):(callFunc 217 #[.int .u64 n]).run Tryz.prog w=.ok (.value (.float .f64 n.toNat)) w:=by
  rw [run_callFunc_extern (fn:=Tryz.f217) (e:=Extern.MathFloatBits.float64frombits) Tryz.func217 (by kernel_rfl) (by kernel_rfl) (by kernel_rfl) (by kernel_rfl)]
  rfl
@[go_sem high] theorem run_bits (n:Nat) (w:World):(callFunc 287 #[.float .f64 n]).run Tryz.prog w=.ok (.value (.int .u64 (n:Int))) w:=by
  rw [run_callFunc_extern (fn:=Tryz.f287) (e:=Extern.MathFloatBits.float64bits) Tryz.func287 (by kernel_rfl) (by kernel_rfl) (by kernel_rfl) (by kernel_rfl)]
  rfl
theorem Y4P (b:Bool) (w:World):Calls Tryz.prog 214 #[.bool b] w fun e w'=>e=.returned (.agg #[.int .u8 1,.int .i64 (if b=true then 1 else 0),.int .u64 0,.string ⟨#[]⟩])∧Below w.heap.size w w':=by
 cases b
 ·go_enter Tryz.func214,Tryz.ntmps214
  go_wp2_with (fail)
  refine bodyPost_ret (v:=.agg #[.int .u8 1,.int .i64 0,.int .u64 0,.string ⟨#[]⟩]) (by simp [results,Tryz.results214,go_sem]) rfl ?_
  exact ⟨rfl,Z0a (Z0b w _) (Z0b _ _)⟩
 ·go_enter Tryz.func214,Tryz.ntmps214
  go_wp2_with (fail)
  refine bodyPost_ret (v:=.agg #[.int .u8 1,.int .i64 1,.int .u64 0,.string ⟨#[]⟩]) (by simp [results,Tryz.results214,go_sem]) rfl ?_
  exact ⟨rfl,Z0a (Z0b w _) (Z0b _ _)⟩
theorem Y6R (n:Int) (w:World):Calls Tryz.prog 215 #[.int .i64 n] w fun e w'=>e=.returned (.agg #[.int .u8 2,.int .i64 n,.int .u64 0,.string ⟨#[]⟩])∧Below w.heap.size w w':=by
 go_enter Tryz.func215,Tryz.ntmps215
 go_wp2_with (fail)
 refine bodyPost_ret (v:=.agg #[.int .u8 2,.int .i64 n,.int .u64 0,.string ⟨#[]⟩]) (by simp [results,Tryz.results215,go_sem]) rfl ?_
 exact ⟨rfl,Z0b w _⟩
open Ieee
theorem Z9z (w:Nat):Ieee.double.read w =
 if w % 9223372036854775808<4503599627370496 then .number (w / 9223372036854775808 % 2==1) (w % 9223372036854775808) (-1074)
 else if w % 9223372036854775808<9218868437227405312 then
  .number (w / 9223372036854775808 % 2==1) (4503599627370496+w % 9223372036854775808 % 4503599627370496) (-1074+(w % 9223372036854775808 / 4503599627370496-1:Nat))
 else if w % 9223372036854775808=9218868437227405312 then .infinity (w / 9223372036854775808 % 2==1)
 else .nan (w / 9223372036854775808 % 2==1) (w % 9223372036854775808-9218868437227405312):=rfl
def magF (r:Nat):Nat:=if r<4503599627370496 then r else (4503599627370496+r % 4503599627370496)*2 ^ (r / 4503599627370496-1)
theorem Z8h (r:Nat):magF r<magF (r+1):=by
 unfold magF
 by_cases h:r+1<4503599627370496
 ·rw [if_pos h,if_pos (by omega)];omega
 ·by_cases h2:r<4503599627370496
  ·have e:r=4503599627370495:=by omega
   subst e
   decide
  ·rw [if_neg h2,if_neg h]
   by_cases h3:(r+1) % 4503599627370496=0
   ·have e1:r % 4503599627370496=4503599627370495:=by omega
    have e2:(r+1) / 4503599627370496-1=(r / 4503599627370496-1)+1:=by omega
    rw [h3,e1,e2,Nat.pow_succ]
    have hp:0<2 ^ (r / 4503599627370496-1):=Nat.two_pow_pos _
    generalize 2 ^ (r / 4503599627370496-1)=p at *
    omega
   ·have e1:(r+1) % 4503599627370496=r % 4503599627370496+1:=by omega
    have e2:(r+1) / 4503599627370496=r / 4503599627370496:=by omega
    rw [e1,e2]
    exact Nat.mul_lt_mul_of_pos_right (by omega) (Nat.two_pow_pos _)
theorem Y2O {a b:Nat} (h:a<b):magF a<magF b:=by
 obtain ⟨k,rfl⟩:∃ k,b=a+1+k:=⟨b-(a+1),by omega⟩
 clear h
 induction k with
 | zero=>exact Z8h a
 | succ k ih=>exact Nat.lt_trans ih (Z8h _)
theorem Y2P:magF 0=0:=rfl
def sgn (s:Bool) (m:Nat):Int:=if s then -(m:Int) else (m:Int)
theorem Z8i (s:Bool) (m u:Nat):signed s m u=sgn s (m*2 ^ u):=by
 unfold signed sgn
 rw [Nat.shiftLeft_eq]
theorem Y2Q (s:Bool) (m c:Nat):sgn s (m*c)=sgn s m*c:=by
 unfold sgn
 cases s<;>simp [Int.neg_mul]
theorem Y6S {x y:Int} {c:Nat} (h:0<c):compare (x*c) (y*c)=compare x y:=by
 have hc:(0:Int)<c:=by omega
 rcases Int.lt_trichotomy x y with hx|hx|hx
 ·rw [Int.compare_eq_lt.2 hx,Int.compare_eq_lt.2 (Int.mul_lt_mul_of_pos_right hx hc)]
 ·subst hx;simp
 ·rw [Int.compare_eq_gt.2 hx,Int.compare_eq_gt.2 (Int.mul_lt_mul_of_pos_right hx hc)]
theorem Y4Q (s t:Bool) (a b:Nat):compare (sgn s (magF a)) (sgn t (magF b))=compare (sgn s a) (sgn t b):=by
 have key:∀ x y:Nat,(magF x<magF y↔x<y)∧(magF x=magF y↔x=y):=fun x y=>by
  rcases Nat.lt_trichotomy x y with h|h|h
  ·have:=Y2O h;constructor<;>constructor<;>intro _<;>omega
  ·subst h;simp
  ·have:=Y2O h;constructor<;>constructor<;>intro _<;>omega
 have k0:=key a b
 have ka:=key 0 a
 have kb:=key 0 b
 rw [Y2P] at ka kb
 generalize magF a=ma at *
 generalize magF b=mb at *
 have hh:∀ x y x' y':Int,(x<y↔x'<y')→(x=y↔x'=y')→compare x y=compare x' y':=fun x y x' y' h1 h2=>by
  rcases Int.lt_trichotomy x y with h|h|h
  ·rw [Int.compare_eq_lt.2 h,Int.compare_eq_lt.2 (h1.1 h)]
  ·rw [Int.compare_eq_eq.2 h,Int.compare_eq_eq.2 (h2.1 h)]
  ·have h3:¬ x'<y':=fun c=>by have:=h1.2 c;omega
   have h4:¬ x'=y':=fun c=>by have:=h2.2 c;omega
   rw [Int.compare_eq_gt.2 h,Int.compare_eq_gt.2 (by omega)]
 apply hh<;>cases s<;>cases t<;>simp only [sgn,Bool.false_eq_true,if_false,if_true]<;>constructor<;>intro _<;>omega
theorem Z5p {w:Nat} (h:w % 9223372036854775808<9218868437227405312) :
 ∃ m p,Ieee.double.read w=.number (w / 9223372036854775808 % 2==1) m p ∧ -1074≤p∧m*2 ^ (p+1074).toNat=magF (w % 9223372036854775808):=by
 rw [Z9z]
 unfold magF
 by_cases h1:w % 9223372036854775808<4503599627370496
 ·rw [if_pos h1,if_pos h1]
  exact ⟨_,_,rfl,by omega,by simp⟩
 ·rw [if_neg h1,if_neg h1,if_pos h]
  refine ⟨_,_,rfl,by omega,?_⟩
  congr 2
  omega
def keyF (w:Nat):Int:=sgn (w / 9223372036854775808 % 2==1) (w % 9223372036854775808)
def Z3o (w:Nat):Bool:=decide (9218868437227405312<w % 9223372036854775808)
theorem Y2R {a b:Nat} (h:Z3o a=true∨Z3o b=true):Ieee.double.order a b=none:=by
 have hn:∀ w,Z3o w=true→∃ s t,Ieee.double.read w=.nan s t:=fun w hw=>by
  have:=of_decide_eq_true hw
  rw [Z9z,if_neg (by omega),if_neg (by omega),if_neg (by omega)]
  exact ⟨_,_,rfl⟩
 unfold Format.order
 rcases h with h|h
 ·obtain ⟨s,t,e⟩:=hn a h
  rw [e]
  cases Ieee.double.read b<;>rfl
 ·obtain ⟨s,t,e⟩:=hn b h
  rw [e]
  cases Ieee.double.read a<;>rfl
theorem Z7t {w:Nat} (h:w % 9223372036854775808=9218868437227405312):Ieee.double.read w=.infinity (w / 9223372036854775808 % 2==1):=by
 rw [Z9z,if_neg (by omega),if_neg (by omega),if_pos h]
theorem Y2S {a b:Nat} (ha:Z3o a=false) (hb:Z3o b=false):Ieee.double.order a b=some (compare (keyF a) (keyF b)):=by
 have ha:=of_decide_eq_false ha
 have hb:=of_decide_eq_false hb
 unfold Format.order keyF
 generalize hs:(a / 9223372036854775808 % 2==1)=s
 generalize ht:(b / 9223372036854775808 % 2==1)=t
 by_cases ia:a % 9223372036854775808=9218868437227405312
 ·rw [Z7t ia,hs,ia]
  by_cases ib:b % 9223372036854775808=9218868437227405312
  ·rw [Z7t ib,ht,ib]
   cases s<;>cases t<;>rfl
  ·obtain ⟨m,p,e,_,_⟩:=Z5p (w:=b) (by omega)
   rw [e]
   generalize b % 9223372036854775808=r at *
   simp only [Datum.order]
   cases s
   ·simp only [Bool.false_eq_true,if_false]
    rw [Int.compare_eq_gt.2 (by unfold sgn;cases t<;>simp<;>omega)]
   ·simp only [if_true]
    rw [Int.compare_eq_lt.2 (by unfold sgn;cases t<;>simp<;>omega)]
 ·by_cases ib:b % 9223372036854775808=9218868437227405312
  ·obtain ⟨m,p,e,_,_⟩:=Z5p (w:=a) (by omega)
   rw [Z7t ib,ht,ib,e]
   generalize a % 9223372036854775808=r at *
   simp only [Datum.order]
   cases t
   ·simp only [Bool.false_eq_true,if_false]
    rw [Int.compare_eq_lt.2 (by unfold sgn;cases s<;>simp<;>omega)]
   ·simp only [if_true]
    rw [Int.compare_eq_gt.2 (by unfold sgn;cases s<;>simp<;>omega)]
  ·obtain ⟨m,p,e,hp,hm⟩:=Z5p (w:=a) (by omega)
   obtain ⟨n,q,e2,hq,hn⟩:=Z5p (w:=b) (by omega)
   rw [e,e2,hs,ht]
   simp only [Datum.order]
   congr 1
   rw [Z8i,Z8i,←Y4Q s t (a % 9223372036854775808) (b % 9223372036854775808),←hm,←hn]
   have hb1:(p+1074).toNat=(p-min p q).toNat+(min p q+1074).toNat:=by omega
   have hb2:(q+1074).toNat=(q-min p q).toNat+(min p q+1074).toNat:=by omega
   rw [hb1,hb2,Nat.pow_add,Nat.pow_add,←Nat.mul_assoc,←Nat.mul_assoc,Y2Q s (m*2 ^ (p-min p q).toNat) (2 ^ (min p q+1074).toNat),Y2Q t (n*2 ^ (q-min p q).toNat) (2 ^ (min p q+1074).toNat),Y6S (Nat.two_pow_pos _)]
theorem Y1E (a:Nat):(Ieee.double.order a a != some .eq)=Z3o a:=by
 cases h:Z3o a with
 | true=>rw [Y2R (.inl h)];rfl
 | false=>
   rw [Y2S h h,Int.compare_eq_eq.2 rfl]
   rfl
/-! ### whole numbers -/
theorem Z5Q {a b:Bool} (h:a=b):Ending.returned (.bool a)=Ending.returned (.bool b):=by rw [h]
def Y71 (v:Value) (w:World) (e:Ending) (w':World):Prop:=e=.returned v∧∃ d,w'=w.drewN d
def nlR (l:List Int):Nat:=l.countP (fun r=>r==10)
theorem Y4R {l:List Int} {i:Nat} {r:Int} (h:l[i]? = some r):nlR (l.take (i+1))=nlR (l.take i)+(if r=10 then 1 else 0):=by
 obtain ⟨hi,he⟩:=List.getElem?_eq_some_iff.1 h
 rw [List.take_succ_eq_append_getElem hi,he]
 simp [nlR,List.countP_append,List.countP_cons]
theorem Y72 (l:List Int) (i:Nat):nlR (l.take i)≤l.length:=by
 have h1:=List.countP_le_length (p:=fun r=>r==(10:Int)) (l:=l.take i)
 have h2:=List.length_take (i:=i) (l:=l)
 unfold nlR
 omega
theorem Z47 (A:Option Addr) (n c:Nat) (l:List Int) (w:World) (hn:n=l.length) (h:Z11 w w.heap.size A l) (hb:n≤9223372036854775806) :
 Calls Tryz.prog 259 #[.slice A n c] w fun e w'=>e=.returned (.int .i64 (nlR l:Nat))∧w=w':=by
 have N:=hid hn
 clear hn
 go_enter Tryz.func259,Tryz.ntmps259
 go_wp2_with (fail)
 go_loopg [3,8] n (fun g kv iv wr => ∃ i k:Nat,i≤n∧g=n-i∧kv=.int .i64 (k:Int)∧iv=.int .i64 (i:Int)∧w=wr∧Hid (nlR (l.take i)=k))
 case atStart=>exact ⟨0,0,by omega,rfl,rfl,rfl,rfl,hid rfl⟩
 case round=>
  obtain ⟨i,k,hi,hg,rfl,rfl,rfl,HK⟩:=hrel
  have HG:=hid hg
  clear hg
  by_cases hlt:i<n
  ·obtain ⟨ad,r,rfl,_,_,hri,hc1⟩:=h.el (i:=i) (by have:=N.out;omega)
   have r0:w.cell? (ad.add (i*1))=some (.int .i32 r):=by have:=hc1 0 _ rfl;rwa [Z0n] at this
   rw [Nat.mul_one] at r0
   have hk1:=Y4R hri
   have hk2:=Y72 l i
   rw [HK.out] at hk1 hk2
   have hkb:k≤n:=by rw [N.out];exact hk2
   clear hk2 hri hc1
   by_cases h10:r=10
   ·rw [if_pos h10] at hk1
    subst h10
    have HK1:=hid hk1
    clear hk1
    go_wp2_with (fail)
    go_roundg (n-(i+1))
    case measure=>have:=HG.out;omega
    case rel=>exact ⟨i+1,k+1,by omega,rfl,by go_num,by go_num,rfl,HK1⟩
   ·rw [if_neg h10] at hk1
    have HK1:=hid hk1
    clear hk1
    go_wp2_with (fail)
    go_roundg (n-(i+1))
    case measure=>have:=HG.out;omega
    case rel=>exact ⟨i+1,k,by omega,rfl,rfl,by go_num,rfl,HK1⟩
  ·have hl:nlR l=k:=by rw [←HK.out,List.take_of_length_le (by have:=N.out;omega)]
   have HL:=hid hl
   clear hl
   go_wp2_with (fail)
   go_ret
   exact ⟨by rw [HL.out];rfl,rfl⟩
theorem Z5R (A B:Option Addr) (n m c d:Nat) (l k:List Int) (w:World) (hn:n=l.length) (hm:m=k.length) (h1:Z11 w w.heap.size A l) (h2:Z11 w w.heap.size B k) (hb:n≤140737488355328) (hb2:m≤140737488355328) :
 Calls Tryz.prog 94 #[.slice A n c,.slice B m d] w (Y71 (.bool (decide (l=k))) w):=by
 have N:=hid hn
 have M:=hid hm
 generalize hR:decide (l=k)=R
 have HR:=hid hR
 clear hn hR hm
 by_cases hnm:(n:Int)=m
 ·have hnm':n=m:=by omega
  subst hnm'
  clear hnm
  go_enter Tryz.func94,Tryz.ntmps94
  go_wp2_with (fail)
  go_loopg [5] n (fun g iv wr => ∃ i:Nat,i≤n∧g=n-i∧iv=.int .i64 (i:Int)∧(∃ d,wr=w.drewN d)∧Hid (decide (l.drop i=k.drop i)=R))
  case atStart=>exact ⟨0,by omega,rfl,rfl,⟨0,rfl⟩,hid (by rw [List.drop_zero,List.drop_zero];exact HR.out)⟩
  case round=>
   obtain ⟨i,hi,hg,rfl,⟨q,rfl⟩,HI⟩:=hrel
   have HG:=hid hg
   clear hg HR
   by_cases hlt:i<n
   ·have hl1:i<l.length:=by have:=N.out;omega
    have hl2:i<k.length:=by have:=M.out;omega
    obtain ⟨ad,x,rfl,_,hd1,_,hc1⟩:=h1.el hl1
    obtain ⟨ad2,y,rfl,_,hd2,_,hc2⟩:=h2.el hl2
    have HI':Hid (decide (x::l.drop (i+1)=y::k.drop (i+1))=R):=hid (by rw [←HI.out,hd1,hd2])
    clear HI hd1 hd2
    have r0:w.cell? (ad.add (i*1))=some (.int .i32 x):=by have:=hc1 0 _ rfl;rwa [Z0n] at this
    have s0:w.cell? (ad2.add (i*1))=some (.int .i32 y):=by have:=hc2 0 _ rfl;rwa [Z0n] at this
    rw [Nat.mul_one] at r0 s0
    clear hc1 hc2
    by_cases hxy:x=y
    ·subst hxy
     go_wp2_with (go_quiet (fail))
     go_roundg (n-(i+1))
     case measure=>have:=HG.out;omega
     case rel=>exact ⟨i+1,by omega,rfl,by go_num,⟨_,rfl⟩,hid (by rw [←HI'.out];simp only [List.cons.injEq,true_and])⟩
    ·go_wp2_with (go_quiet (fail))
     go_ret
     exact ⟨Z5Q (by rw [←HI'.out];exact (decide_eq_false fun e=>hxy (List.cons.inj e).1).symm),_,World.drewN_drewN _ _ _⟩
   ·go_wp2_with (fail)
    go_ret
    exact ⟨Z5Q (by rw [←HI.out,List.drop_eq_nil_of_le (by have:=N.out;omega),List.drop_eq_nil_of_le (by have:=M.out;omega)];rfl),_,rfl⟩
 ·have hne:((n:Int)==m)=false:=beq_eq_false_iff_ne.2 hnm
  go_enter Tryz.func94,Tryz.ntmps94
  go_wp2_with (fail)
  go_ret
  refine ⟨Z5Q ?_,0,rfl⟩
  rw [←HR.out]
  refine (decide_eq_false fun e=>?_).symm
  have h3:=N.out
  have h4:=M.out
  rw [e] at h3
  omega
def okR (l:List Int):Bool:=l.all mayR
def Z0D (l:List Int):List Int:=l.flatMap encR
theorem Z3G (r:Int):1≤(encR r).length∧(encR r).length≤4:=by
 unfold encR
 split
 ·simp
 ·split
  ·simp
  ·split<;>simp
theorem Z2C {r:Int} (h:mayR r=true):0≤r∧r≤1114111:=by have:=of_decide_eq_true h;omega
theorem Z9A {l:List Int} {i:Nat} {r:Int} (h:l[i]? = some r):Z0D (l.take (i+1))=Z0D (l.take i)++encR r:=by
 obtain ⟨hi,he⟩:=List.getElem?_eq_some_iff.1 h
 rw [List.take_succ_eq_append_getElem hi,he]
 simp [Z0D]
theorem Y4S {l:List Int} {i:Nat} {r:Int} (h:l[i]? = some r):okR (l.take (i+1))=(okR (l.take i)&&mayR r):=by
 obtain ⟨hi,he⟩:=List.getElem?_eq_some_iff.1 h
 rw [List.take_succ_eq_append_getElem hi,he]
 simp [okR,List.all_append]
theorem Z6T (l:List Int):(Z0D l).length≤4*l.length:=by
 induction l with
 | nil=>simp [Z0D]
 | cons r l ih=>
   have:=(Z3G r).2
   have e:Z0D (r::l)=encR r++Z0D l:=rfl
   rw [e,List.length_append,List.length_cons]
   omega
theorem Y6T {l:List Int} {i:Nat} {r:Int} (h:l[i]? = some r) (hr:mayR r=false):okR l=false:=by
 unfold okR
 rw [List.all_eq_false]
 exact ⟨r,List.mem_of_getElem? h,by simp [hr]⟩
def Y0y (l:List Int) (w:World) (e:Ending) (w':World):Prop:=
 ∃ v,e=.returned (.tuple #[v,.int .i64 (if okR l=true then 0 else 3)])∧OwU8 w' w.heap.size v (if okR l=true then Z0D l else [])∧Below w.heap.size w w'
end Go.Proofs.YtnmedachaeanbaaGreatDoor
