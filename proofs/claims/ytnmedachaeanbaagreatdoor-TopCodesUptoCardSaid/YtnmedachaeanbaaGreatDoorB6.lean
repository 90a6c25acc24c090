/- Merged texts. -/
import Derived.Test.YtnmedachaeanbaaGreatDoorB5
namespace Go.Proofs.YtnmedachaeanbaaGreatDoor
set_option maxRecDepth 100000
set_option maxHeartbeats 1600000
open Go.RowKit
open Go.Lib (hid Utf8Tabs)
set_option linter.unusedVariables false
set_option linter.unusedSimpArgs false
theorem Y4Y (f:Int) (w:World) (hf0:0≤f) (hf1:f<18446744073709551616):Calls Tryz.prog 98 #[.int .u64 f] w fun e w'=>e=.returned (.bool (nanF f))∧w=w':=by
 cases hN:nanF f with
 | true=>
   have h:=of_decide_eq_true hN
   have h':decide (9218868437227405312<f % 9223372036854775808)=true:=hN
   clear hN
   go_enter Tryz.func98,Tryz.ntmps98
   go_wp2_with (fail)
   go_ret
   exact ⟨rfl,rfl⟩
 | false=>
   have h:=of_decide_eq_false hN
   have h':decide (9218868437227405312<f % 9223372036854775808)=false:=hN
   clear hN
   go_enter Tryz.func98,Tryz.ntmps98
   go_wp2_with (fail)
   go_ret
   exact ⟨rfl,rfl⟩
theorem Y8a (n f:Int) (s:ByteArray):mayV ⟨1,n,f,s⟩=(beqV ⟨1,n,f,s⟩ ⟨1,n,0,⟨#[]⟩⟩&&((n==0) || (n==1))):=by
 show beqV ⟨1,n,f,s⟩ (Y4O (decide (n=1)))=_
 unfold beqV Y4O
 by_cases h:n=1
 ·subst h;simp
 ·by_cases h0:n=0
  ·subst h0;simp
  ·simp [h,h0]
theorem Y8b (n f:Int) (s:ByteArray):mayV ⟨3,n,f,s⟩=(beqV ⟨3,n,f,s⟩ ⟨3,0,f,⟨#[]⟩⟩&&(!(nanF f) || (f==9221120237041090560))):=by
 show beqV ⟨3,n,f,s⟩ (Z3n f)=_
 unfold beqV Z3n
 cases h:nanF f with
 | true=>
   by_cases h0:f=9221120237041090560
   ·rw [if_pos rfl,h0];simp
   ·rw [if_pos rfl];simp [h0]
 | false=>simp
theorem Z30 (k n f:Int) (s:ByteArray) (w:World) (hf0:0≤f) (hf1:f<18446744073709551616) (hs:s.size≤100000000) (hT:Utf8Tabs 0 1 w) :
 Calls Tryz.prog 32 #[.agg #[.int .u8 k,.int .i64 n,.int .u64 f,.string s]] w (Y0I ⟨k,n,f,s⟩ w):=by
 obtain ⟨R,hR⟩:∃ X,mayV ⟨k,n,f,s⟩=X:=⟨_,rfl⟩
 unfold Y0I
 rw [hR]
 have y1:Below w.heap.size w (w.alloc (.cells #[.int .u8 k,.int .i64 n,.int .u64 f,.string s] 73)):=Z0b w _
 have HBX:=hid (heap_alloc_new w (.cells #[.int .u8 k,.int .i64 n,.int .u64 f,.string s] 73))
 by_cases h1:k=1
 ·subst h1
  rw [Y8a] at hR
  obtain ⟨q,hq⟩:∃ X,beqV ⟨1,n,f,s⟩ ⟨1,n,0,⟨#[]⟩⟩=X:=⟨_,rfl⟩
  rw [hq] at hR
  obtain ⟨z,hz⟩:∃ X,(n==0)=X:=⟨_,rfl⟩
  obtain ⟨o,ho⟩:∃ X,(n==1)=X:=⟨_,rfl⟩
  rw [hz,ho] at hR
  subst hR
  cases q<;>cases z<;>cases o
  all_goals
   go_enter Tryz.func32,Tryz.ntmps32
   go_wp2_with (fail)
   go_ret
   exact ⟨rfl,y1⟩
 ·by_cases h2:k=2
  ·subst h2
   rw [show mayV ⟨2,n,f,s⟩=beqV ⟨2,n,f,s⟩ ⟨2,n,0,⟨#[]⟩⟩ from rfl] at hR
   have HR:=hid hR
   clear hR h1
   go_enter Tryz.func32,Tryz.ntmps32
   go_wp2_with (fail)
   go_ret
   exact ⟨Z19 HR.out,y1⟩
  ·by_cases h3:k=3
   ·subst h3
    rw [Y8b] at hR
    obtain ⟨q,hq⟩:∃ X,beqV ⟨3,n,f,s⟩ ⟨3,0,f,⟨#[]⟩⟩=X:=⟨_,rfl⟩
    rw [hq] at hR
    obtain ⟨z,hz⟩:∃ X,nanF f=X:=⟨_,rfl⟩
    obtain ⟨o,ho⟩:∃ X,(f==9221120237041090560)=X:=⟨_,rfl⟩
    rw [hz,ho] at hR
    subst hR
    have HZ:=hid hz
    clear hz h1 h2
    cases q<;>cases z<;>cases o
    all_goals
     go_enter Tryz.func32,Tryz.ntmps32
     go_wp2_with (go_at_call 98;refine (Y4Y f _ hf0 hf1).mono ?_;rintro e w1 ⟨rfl,rfl⟩;rw [HZ.out])
     go_ret
     exact ⟨rfl,y1⟩
   ·by_cases h4:k=4
    ·subst h4
     rw [show mayV ⟨4,n,f,s⟩=(decide (s.size≤64∧Z2q s=true)&&beqV ⟨4,n,f,s⟩ ⟨4,0,0,s⟩) from rfl] at hR
     have hcv:=Z4F s
     go_enter Tryz.func32,Tryz.ntmps32
     go_wp2_with (go_at_call 99;refine Hid.out ?_)
     clear hcv
     refine hid ?_
     have hsz:(w.alloc (.cells #[.int .u8 4,.int .i64 n,.int .u64 f,.string s] 73)).heap.size=w.heap.size+1:=by simp
     generalize w.alloc (.cells #[.int .u8 4,.int .i64 n,.int .u64 f,.string s] 73)=w1 at *
     have hbw:=Z3Z s w1
     have r2:=Z7y s w1
     rw [hsz] at r2
     have hcap:=grownCap_ge w1 s.size 0 5
     generalize grownCap w1 s.size 0 5=c at *
     have x2:=Z0a y1 hbw
     have hlt:w.heap.size<w1.heap.size:=(Array.getElem?_eq_some_iff.1 HBX.out).1
     have HB2:=hid ((hbw.block w.heap.size hlt).trans HBX.out)
     have hlt2:w.heap.size<(Lib.bytesWorld w1 5 s).heap.size:=by rw [Lib.bytesWorld_size];omega
     generalize Lib.bytesWorld w1 5 s=w2 at *
     refine (Z9C (some ⟨w.heap.size+1,0,none⟩) s.size c (strI s) w2 (Z1l s).symm hcap r2 (by omega) (Z3I _)).mono ?_
     rintro e w3 ⟨v,rfl,_,y3⟩
     obtain ⟨b0,b1,b2,b3⟩:=Z1Y ((y3.block w.heap.size hlt2).trans HB2.out)
     have x3:=Z0a x2 y3
     obtain ⟨q,hq⟩:∃ X,beqV ⟨4,n,f,s⟩ ⟨4,0,0,s⟩=X:=⟨_,rfl⟩
     rw [hq] at hR
     rw [show (Z1f (strI s)).isSome=Z2q s from rfl]
     clear hsz hbw r2 hcap x2 hlt hlt2 y3 y1 h1 h2 h3
     by_cases h64:s.size≤64
     ·have hz:(s.size:Int)≤64:=by omega
      cases ht:Z2q s with
      | true=>
        rw [ht,decide_eq_true (⟨h64,rfl⟩:s.size≤64∧true=true)] at hR
        simp only [Bool.true_and] at hR
        subst hR
        clear ht
        cases q
        all_goals
         go_wp2_with (fail)
         go_ret
         exact ⟨rfl,x3⟩
      | false=>
        rw [ht,decide_eq_false (fun h:s.size≤64∧false=true=>by cases h.2)] at hR
        simp only [Bool.false_and] at hR
        subst hR
        clear ht
        cases q
        all_goals
         go_wp2_with (fail)
         go_ret
         exact ⟨rfl,x3⟩
     ·have hz:¬ ((s.size:Int)≤64):=by omega
      rw [decide_eq_false (fun h:s.size≤64∧Z2q s=true=>h64 h.1)] at hR
      simp only [Bool.false_and] at hR
      subst hR
      generalize (if Z2q s=true then (0:Int) else 3)=E
      cases q
      all_goals
       go_wp2_with (fail)
       go_ret
       exact ⟨rfl,x3⟩
    ·have e:mayV ⟨k,n,f,s⟩=false:=by unfold mayV;simp only;rw [if_neg h1,if_neg h2,if_neg h3,if_neg h4]
     rw [e] at hR
     subst hR
     clear e
     have z1:(k==1)=false:=beq_eq_false_iff_ne.2 h1
     have z2:(k==2)=false:=beq_eq_false_iff_ne.2 h2
     have z3:(k==3)=false:=beq_eq_false_iff_ne.2 h3
     have z4:(k==4)=false:=beq_eq_false_iff_ne.2 h4
     clear h1 h2 h3 h4
     go_enter Tryz.func32,Tryz.ntmps32
     go_wp2_with (fail)
     go_ret
     exact ⟨rfl,y1⟩
def okV (v:V):Prop:=0≤v.k∧v.k≤255 ∧ -9223372036854775808≤v.n∧v.n≤9223372036854775807∧0≤v.f∧v.f≤18446744073709551615
theorem okV.f0 {v:V} (h:okV v):0≤v.f:=h.2.2.2.2.1
theorem okV.f1 {v:V} (h:okV v):v.f<18446744073709551616:=by have:=h.2.2.2.2.2;omega
theorem Z4G {w v W:World} {a b:Nat} (hT:Utf8Tabs a b w) (h:Below w.heap.size w v) (e:W.heap=v.heap):Utf8Tabs a b W:=by
 have h2:=Utf8Tabs_below hT h
 have hc:∀ p,W.cell? p=v.cell? p:=fun p=>by simp only [World.cell?,e]
 exact ⟨fun c hc'=>by rw [hc];exact h2.1 c hc',fun i hi=>by rw [hc,hc];exact h2.2 i hi⟩
theorem Z2r {w v W w':World} (h:Below w.heap.size w v) (y:Below W.heap.size W w') (e1:W.heap=v.heap) (e2:W.os=v.os) (e3:W.tape=v.tape) (e4:W.output=v.output):Below w.heap.size w w':=by
 have y1:Below v.heap.size v w':=⟨by rw [←e2];exact y.os,by rw [←e3];exact y.tape,by rw [←e4];exact y.output,by rw [←e1];exact y.size,fun k hk=>by rw [←e1];exact y.block k (by rw [e1];exact hk)⟩
 exact Z0a h y1
theorem Y4Z {v W w':World} {b0:Nat} {O0:Obj} (h0:v.heap[b0]? = some O0) (y:Below W.heap.size W w') (e:W.heap=v.heap):w'.heap[b0]? = some O0:=by
 have hlt:=(Array.getElem?_eq_some_iff.1 h0).1
 rw [y.block b0 (by rw [e];exact hlt),e]
 exact h0
theorem kept2 {v W w':World} {b0 b1:Nat} {O0 O1:Obj} (h0:v.heap[b0]? = some O0) (h1:v.heap[b1]? = some O1) (y:Below W.heap.size W w') (e:W.heap=v.heap):w'.heap[b0]? = some O0∧w'.heap[b1]? = some O1:=⟨Y4Z h0 y e,Y4Z h1 y e⟩
def mayK (k:Ky):Bool:=
 decide (1≤k.id∧k.id≤1000∧1≤k.kind∧k.kind≤4)&&(if k.block=true then !k.before&&decide (0≤k.group∧k.group≤8) else decide (k.group=0))
theorem Y40 (i g n:Int) (b a f:Bool) (w:World) :
 Calls Tryz.prog 44 #[.agg #[.int .i64 i,.bool b,.int .u8 n,.bool a,.bool f,.int .i64 g]] w fun e w'=>e=.returned (.bool (mayK ⟨i,b,n,a,f,g⟩))∧Below w.heap.size w w':=by
 obtain ⟨R,hR⟩:∃ X,mayK ⟨i,b,n,a,f,g⟩=X:=⟨_,rfl⟩
 rw [hR]
 unfold mayK at hR
 have HR:=hid hR
 clear hR
 by_cases h1:i<1
 ·go_enter Tryz.func44,Tryz.ntmps44
  go_wp2_with (fail)
  go_ret
  exact ⟨Z0e (by rw [←HR.out];simp;omega),Z0b w _⟩
 by_cases h2:1000<i
 ·go_enter Tryz.func44,Tryz.ntmps44
  go_wp2_with (fail)
  go_ret
  exact ⟨Z0e (by rw [←HR.out];simp;omega),Z0b w _⟩
 by_cases h3:n<1
 ·go_enter Tryz.func44,Tryz.ntmps44
  go_wp2_with (fail)
  go_ret
  exact ⟨Z0e (by rw [←HR.out];simp;omega),Z0b w _⟩
 by_cases h4:4<n
 ·go_enter Tryz.func44,Tryz.ntmps44
  go_wp2_with (fail)
  go_ret
  exact ⟨Z0e (by rw [←HR.out];simp;omega),Z0b w _⟩
 have E4:=hid (show decide (1≤i∧i≤1000∧1≤n∧n≤4)=true by simp;omega)
 cases b with
 | false=>
   go_enter Tryz.func44,Tryz.ntmps44
   go_wp2_with (fail)
   go_ret
   exact ⟨Z0e (by have h:=HR.out;rw [E4.out] at h;rw [←h];simp;rfl),Z0b w _⟩
 | true=>
   cases f with
   | true=>
     go_enter Tryz.func44,Tryz.ntmps44
     go_wp2_with (fail)
     go_ret
     exact ⟨Z0e (by have h:=HR.out;rw [E4.out] at h;rw [←h];simp),Z0b w _⟩
   | false=>
     by_cases h5:0≤g
     ·go_enter Tryz.func44,Tryz.ntmps44
      go_wp2_with (fail)
      go_ret
      exact ⟨Z0e (by have h:=HR.out;rw [E4.out] at h;rw [←h];simp [h5]<;>omega),Z0b w _⟩
     ·go_enter Tryz.func44,Tryz.ntmps44
      go_wp2_with (fail)
      go_ret
      exact ⟨Z0e (by have h:=HR.out;rw [E4.out] at h;rw [←h];simp [h5]<;>omega),Z0b w _⟩
def Sch (w:World) (s:Nat) (l:List Ky):Prop:=
 ∃ bm A n c ls,w.heap[s]? = some (.cells #[.slice A n c,.map (some bm)] 93 (0,0))∧MapK w bm l∧n=ls.length∧ls.Perm l∧ls.Pairwise (fun a b=>a.id≤b.id)∧RdKy w w.heap.size A ls
theorem Z0c {w:World} {b:Nat} {o:Obj} (h:w.heap[b]? = some o):b<w.heap.size:=(Array.getElem?_eq_some_iff.1 h).1
theorem MapK.ext {w w':World} {b:Nat} {l:List Ky} (h:MapK w b l) (y:Below w.heap.size w w'):MapK w' b l:=by
 obtain ⟨es,clock,he,hk⟩:=h
 exact ⟨es,clock,(y.block b (Z0c he)).trans he,hk⟩
theorem Sch.ext {w w':World} {s:Nat} {l:List Ky} (h:Sch w s l) (y:Below w.heap.size w w'):Sch w' s l:=by
 obtain ⟨bm,A,n,c,ls,hb,hm,hn,hp,hs,hr⟩:=h
 exact ⟨bm,A,n,c,ls,(y.block s (Z0c hb)).trans hb,hm.ext y,hn,hp,hs,hr.ext y⟩
theorem Sch.parts {w:World} {s:Nat} {l:List Ky} (h:Sch w s l):∃ bm sl,w.heap[s]? = some (.cells #[sl,.map (some bm)] 93 (0,0))∧MapK w bm l:=by
 obtain ⟨bm,A,n,c,ls,hb,hm,_⟩:=h
 exact ⟨bm,_,hb,hm⟩
section
variable {ops:Array Oper} {rest:List Oper} {o:Oper} {a:Act} {Q:Exit→Act→World→Prop} {w:World}
theorem Z7z (hg:o.guard=none) (m x:Operand) (hop:o.op=Op.lookup 91 m x true) (b:Nat) (l:List Ky) (hm:a.eval m=.map (some b)) (hM:MapK w b l) (id:Int) (hx:a.eval x=.int .i64 id)
 (hK:∀ i c n d f g q,(Z0O l id).getD Ky.zero=⟨i,c,n,d,f,g⟩→(Z0O l id).isSome=q→wpList Tryz.prog ops Q rest (a.put o.dst (.tuple #[.agg #[.int .i64 i,.bool c,.int .u8 n,.bool d,.bool f,.int .i64 g],.bool q])) w):wpList Tryz.prog ops Q (o::rest) a w:=by
 refine wpList_plain hg fun K' hK'=>?_
 unfold Oper.wp
 simp [execOp,hop,hm,hx,hM.look id,Result.andThen]
 have h:=hK ((Z0O l id).getD Ky.zero).id _ _ _ _ _ _ rfl rfl
 exact hK' _ _ h
end
def Z7A (l:List Ky) (id:Int) (w:World) (e:Ending) (w':World):Prop:=
 ∃ i c n d f g q,e=.returned (.tuple #[.agg #[.int .i64 i,.bool c,.int .u8 n,.bool d,.bool f,.int .i64 g],.bool q])∧(Z0O l id).getD Ky.zero=⟨i,c,n,d,f,g⟩∧(Z0O l id).isSome=q∧Below w.heap.size w w'
theorem Z4e (s:Nat) (l:List Ky) (id:Int) (w:World) (h:Sch w s l) :
 Calls Tryz.prog 127 #[.pointer (some ⟨s,0,none⟩),.int .i64 id] w (Z7A l id w):=by
 obtain ⟨bm,sl,hb,hm⟩:=h.parts
 have y:=Z0b w (.cells #[.int .i64 0,.bool false,.int .u8 0,.bool false,.bool false,.int .i64 0] 78)
 have hb':=(y.block s (Z0c hb)).trans hb
 obtain ⟨es,clock,he,hk⟩:=hm
 have hm':MapK (w.alloc (.cells #[.int .i64 0,.bool false,.int .u8 0,.bool false,.bool false,.int .i64 0] 78)) bm l:=⟨es,clock,(y.block bm (Z0c he)).trans he,hk⟩
 obtain ⟨c0,c1⟩:=Y1D hb'
 have HM:=hid hm'
 clear hb hb' he hk hm'
 go_enter Tryz.func127,Tryz.ntmps127
 go_wp2_with (at_lookup;refine Z7z rfl _ _ rfl bm l rfl HM.out id rfl ?_;intro i c n d f g q hq1 hq2;have HQ1:=hid hq1;have HQ2:=hid hq2;clear hq1 hq2)
 refine bodyPost_ret (v:=.tuple #[.agg #[.int .i64 i,.bool c,.int .u8 n,.bool d,.bool f,.int .i64 g],.bool q]) (by simp [results,Tryz.results127,go_sem]) rfl ?_
 exact ⟨i,c,n,d,f,g,q,rfl,HQ1.out,HQ2.out,by first|exact Z0a (Z0b w _) (Z0b _ _)|trace_state⟩
def Z2o (l:List Ky) (id:Int) (v:V):Bool:=
 match Z0O l id with
 | none=>false
 | some k=>decide (k.kind=v.k)&&mayV v
theorem Z4f (s:Nat) (l:List Ky) (id k n f:Int) (t:ByteArray) (w:World) (h:Sch w s l) (h0:0≤f) (h1:f<18446744073709551616)
 (hT:Utf8Tabs 0 1 w) :
 Calls Tryz.prog 123 #[.pointer (some ⟨s,0,none⟩),.int .i64 id,.agg #[.int .u8 k,.int .i64 n,.int .u64 f,.string t]] w fun e w'=>e=.returned (.bool (Z2o l id ⟨k,n,f,t⟩))∧Below w.heap.size w w':=by
 obtain ⟨R,hR⟩:∃ X,Z2o l id ⟨k,n,f,t⟩=X:=⟨_,rfl⟩
 obtain ⟨m,hm⟩:∃ X,mayV ⟨k,n,f,t⟩=X:=⟨_,rfl⟩
 rw [hR]
 unfold Z2o at hR
 rw [hm] at hR
 have HR:=hid hR
 have HMV:=hid hm
 have y0:=Z0b w (.cells #[.int .u8 k,.int .i64 n,.int .u64 f,.string t] 73)
 have hv0:=heap_alloc_new w (.cells #[.int .u8 k,.int .i64 n,.int .u64 f,.string t] 73)
 have hs0:=h.ext y0
 have hT0:=Utf8Tabs_below hT y0
 clear hR hm h
 go_enter Tryz.func123,Tryz.ntmps123
 go_wp2_with (go_at_call 127;refine Hid.out ?_)
 refine hid ?_
 have H0:=hid hv0
 clear hv0
 generalize hw0:w.alloc _=w0 at *
 clear hw0
 refine (Z4e s l id w0 hs0).mono ?_
 rintro e w1 ⟨i,c,kd,d,g,q,b,rfl,hk,hb,y1⟩
 have hv1:=(y1.block w.heap.size (Z0c H0.out)).trans H0.out
 have y1':=Z0a y0 y1
 have y2:=Z0b w1 (.cells #[.int .i64 i,.bool c,.int .u8 kd,.bool d,.bool g,.int .i64 q] 78)
 have hv2:=(y2.block w.heap.size (Z0c hv1)).trans hv1
 have hT2:=Utf8Tabs_below hT0 (Z0a y1 y2)
 have yy:=Z0a y1' y2
 obtain ⟨a0,a1,a2,a3⟩:=Z1Y hv2
 have HB:=hid hb
 have HK:=hid hk
 clear hv1 hv2 H0 hb hk hT hT0 hs0
 cases b with
 | false=>
   go_wp2_with (fail)
   go_ret
   refine ⟨Z0e ?_,yy⟩
   have h:=HR.out
   have hb:=HB.out
   cases hq:Z0O l id with
   | none=>rw [hq] at h;exact h
   | some k=>rw [hq] at hb;simp at hb
 | true=>
   obtain ⟨K,hK⟩:∃ K,Z0O l id=some K:=Option.isSome_iff_exists.1 HB.out
   have hR:=HR.out
   have hk:=HK.out
   rw [hK] at hR hk
   simp only [Option.getD_some] at hk
   subst hk
   simp only at hR
   have HR:=hid hR
   clear hR
   by_cases hkk:kd=k
   ·subst hkk
    go_wp2_with (go_at_call 122;refine Hid.out ?_)
    refine hid ?_
    refine (Z5t kd n f t _ h0 h1 hT2).mono ?_
    rintro e w3 ⟨rfl,y3⟩
    rw [HMV.out]
    go_wp2_with (fail)
    go_ret
    refine ⟨Z0e ?_,Z2r yy y3 rfl rfl rfl rfl⟩
    rw [←HR.out];simp
   ·go_wp2_with (fail)
    go_ret
    refine ⟨Z0e ?_,yy⟩
    rw [←HR.out];simp [hkk]
open Go.RowKit
set_option linter.unusedVariables false
set_option linter.unusedSimpArgs false
structure Opd where
 k:Int
 n:Int
 r:List Int
 s:List At
 p:List Ch
structure OpS where
 o:Opd
 Ar:Option Addr
 cr:Nat
 As:Option Addr
 cs:Nat
 Ap:Option Addr
 cp:Nat
def OpS.enc (x:OpS):List Value:=[.int .u8 x.o.k,.int .i64 x.o.n,.slice x.Ar x.o.r.length x.cr,.slice x.As x.o.s.length x.cs,.slice x.Ap x.o.p.length x.cp]
theorem OpS.enc_len (x:OpS):x.enc.length=5:=rfl
abbrev RdOs:=@Rd OpS OpS.enc 5
def Sub (w:World) (B:Nat) (l:List OpS):Prop := ∀ x∈l,Z11 w B x.Ar x.o.r∧RdAt w B x.As x.o.s∧RdCh w B x.Ap x.o.p
def RdOp (w:World) (B:Nat) (A:Option Addr) (l:List OpS):Prop:=RdOs w B A l∧Sub w B l
theorem Sub.ext {w w':World} {l:List OpS} (h:Sub w w.heap.size l) (y:Below w.heap.size w w'):Sub w' w'.heap.size l:=fun x hx=>⟨(h x hx).1.ext y,(h x hx).2.1.ext y,(h x hx).2.2.ext y⟩
theorem RdOp.ext {w w':World} {A:Option Addr} {l:List OpS} (h:RdOp w w.heap.size A l) (y:Below w.heap.size w w'):RdOp w' w'.heap.size A l:=⟨h.1.ext y,h.2.ext y⟩
theorem Z0r {w:World} {p:Addr} {k n:Int} {r s q:Value} (h:CellsAt w p [.int .u8 k,.int .i64 n,r,s,q]) :
 w.cell? p=some (.int .u8 k)∧w.cell? { block:=p.block,off:=p.off+1 }=some (.int .i64 n)∧w.cell? { block:=p.block,off:=p.off+2 }=some r∧w.cell? { block:=p.block,off:=p.off+3 }=some s∧w.cell? { block:=p.block,off:=p.off+4 }=some q:=by
 have h0:=h 0 _ rfl
 rw [Z0n] at h0
 exact ⟨h0,Z0s h 0 rfl,Z0s h 1 rfl,Z0s h 2 rfl,Z0s h 3 rfl⟩
def Z07 (o:Opd):Int:=if o.k=2 then o.r.length else o.n
def Z1m (a:Int) (x:OpS):Int:=if x.o.k=2 then a else IntKind.i64.wrap (a+x.o.n)
def Z1O (a:Int) (x:OpS):Int:=if x.o.k=3 then a else IntKind.i64.wrap (a+Z07 x.o)
def Z0W (l:List OpS):Int:=l.foldl Z1m 0
def Z04 (l:List OpS):Int:=l.foldl Z1O 0
theorem Z5W (k n:Int) (Ar As Ap:Option Addr) (r s p cr cs cp:Nat) (w:World) :
 Calls Tryz.prog 160 #[.agg #[.int .u8 k,.int .i64 n,.slice Ar r cr,.slice As s cs,.slice Ap p cp]] w fun e w'=>e=.returned (.int .i64 (if k=2 then (r:Int) else n))∧Below w.heap.size w w':=by
 by_cases hk:k=2
 ·subst hk
  go_enter Tryz.func160,Tryz.ntmps160
  go_wp2_with (fail)
  go_ret
  exact ⟨by simp,Z0b w _⟩
 ·have hb:(k==2)=false:=beq_eq_false_iff_ne.2 hk
  have HK:=hid hk
  clear hk
  go_enter Tryz.func160,Tryz.ntmps160
  go_wp2_with (fail)
  go_ret
  exact ⟨by first|rfl|simp [HK.out],Z0b w _⟩
theorem Z5X {f:Int→OpS→Int} {l:List OpS} {m:Nat} {x:OpS} {a R:Int} (hd:l.drop m=x::l.drop (m+1)) (h:(l.drop m).foldl f a=R):(l.drop (m+1)).foldl f (f a x)=R:=by
 rw [hd] at h;exact h
theorem Z5Y (A:Option Addr) (n c:Nat) (l:List OpS) (w:World) (hn:n=l.length) (h:RdOs w w.heap.size A l) (hb:n≤140737488355328) :
 Calls Tryz.prog 81 #[.slice A n c] w fun e w'=>e=.returned (.int .i64 (Z0W l))∧Below w.heap.size w w':=by
 have N:=hid hn
 generalize hR:Z0W l=R
 have HR:=hid hR
 clear hn hR
 go_enter Tryz.func81,Tryz.ntmps81
 go_wp2_with (fail)
 go_loopg [3,8] n (fun g av iv wr => ∃ (m:Nat) (a:Int),m≤n∧g=n-m∧av=.int .i64 a∧iv=.int .i64 (m:Int)∧Below w.heap.size w wr∧Hid ((l.drop m).foldl Z1m a=R))
 case atStart=>exact ⟨0,0,by omega,rfl,rfl,rfl,Below.refl _ _,hid (by rw [List.drop_zero];exact HR.out)⟩
 case round=>
  obtain ⟨m,a,hm,hg,rfl,rfl,y,HI⟩:=hrel
  have HG:=hid hg
  clear hg HR
  by_cases hlt:m<n
  ·have hl1:m<l.length:=by have:=N.out;omega
   obtain ⟨ad,x,rfl,had,hd1,_,hc0⟩:=(h.below y (Nat.le_refl _)).el hl1
   have HI2:=hid (Z5X hd1 HI.out)
   obtain ⟨⟨k,nn,r,s,p⟩,Ar,cr,As,cs,Ap,cp⟩:=x
   obtain ⟨r0,r1,r2,r3,r4⟩:=Z0r hc0
   clear hc0 hd1 HI
   have y2:=Z0a y (Z0b wr (.cells #[.int .u8 k,.int .i64 nn,.slice Ar r.length cr,.slice As s.length cs,.slice Ap p.length cp] 36))
   have hw2:IntKind.i64.wrap ((m:Int)+1)=(m:Int)+1:=IntWalk.i64_in _ (by omega)
   by_cases hk:k=2
   ·subst hk
    go_wp2_with (fail)
    go_roundg (n-(m+1))
    case measure=>have:=HG.out;omega
    case rel=>exact ⟨m+1,a,by omega,rfl,rfl,by go_num,y2,hid (by rw [←HI2.out];simp [Z1m])⟩
   ·have hb:(k==2)=false:=beq_eq_false_iff_ne.2 hk
    have HK:=hid hk
    obtain ⟨W,hW⟩:∃ W,IntKind.i64.wrap (a+nn)=W:=⟨_,rfl⟩
    clear hk
    go_wp2_with (fail)
    go_roundg (n-(m+1))
    case measure=>have:=HG.out;omega
    case rel=>exact ⟨m+1,W,by omega,rfl,by first|rfl|(rw [←hW];rfl)|trace_state,by go_num,y2,hid (by rw [←HI2.out];simp only [Z1m];rw [if_neg HK.out,hW])⟩
  ·go_wp2_with (fail)
   go_ret
   refine ⟨Z0k ?_,y⟩
   rw [←HI.out,List.drop_eq_nil_of_le (by have:=N.out;omega)]
   rfl
theorem Z8l (A:Option Addr) (n c:Nat) (l:List OpS) (w:World) (hn:n=l.length) (h:RdOs w w.heap.size A l) (hb:n≤140737488355328) :
 Calls Tryz.prog 82 #[.slice A n c] w fun e w'=>e=.returned (.int .i64 (Z04 l))∧Below w.heap.size w w':=by
 have N:=hid hn
 generalize hR:Z04 l=R
 have HR:=hid hR
 clear hn hR
 go_enter Tryz.func82,Tryz.ntmps82
 go_wp2_with (fail)
 go_loopg [3,8] n (fun g av iv wr => ∃ (m:Nat) (a:Int),m≤n∧g=n-m∧av=.int .i64 a∧iv=.int .i64 (m:Int)∧Below w.heap.size w wr∧Hid ((l.drop m).foldl Z1O a=R))
 case atStart=>exact ⟨0,0,by omega,rfl,rfl,rfl,Below.refl _ _,hid (by rw [List.drop_zero];exact HR.out)⟩
 case round=>
  obtain ⟨m,a,hm,hg,rfl,rfl,y,HI⟩:=hrel
  have HG:=hid hg
  clear hg HR
  by_cases hlt:m<n
  ·have hl1:m<l.length:=by have:=N.out;omega
   obtain ⟨ad,x,rfl,had,hd1,_,hc0⟩:=(h.below y (Nat.le_refl _)).el hl1
   have HI2:=hid (Z5X hd1 HI.out)
   obtain ⟨⟨k,nn,r,s,p⟩,Ar,cr,As,cs,Ap,cp⟩:=x
   obtain ⟨r0,r1,r2,r3,r4⟩:=Z0r hc0
   clear hc0 hd1 HI
   have y2:=Z0a y (Z0b wr (.cells #[.int .u8 k,.int .i64 nn,.slice Ar r.length cr,.slice As s.length cs,.slice Ap p.length cp] 36))
   have hw2:IntKind.i64.wrap ((m:Int)+1)=(m:Int)+1:=IntWalk.i64_in _ (by omega)
   have hbx:=heap_alloc_new wr (.cells #[.int .u8 k,.int .i64 nn,.slice Ar r.length cr,.slice As s.length cs,.slice Ap p.length cp] 36)
   by_cases hk:k=3
   ·subst hk
    go_wp2_with (fail)
    go_roundg (n-(m+1))
    case measure=>have:=HG.out;omega
    case rel=>exact ⟨m+1,a,by omega,rfl,rfl,by go_num,y2,hid (by rw [←HI2.out];simp [Z1O])⟩
   ·have hb:(k==3)=false:=beq_eq_false_iff_ne.2 hk
    have HK:=hid hk
    clear hk
    go_wp2_with (go_at_call 160;refine Hid.out ?_)
    refine hid ?_
    refine (Z5W k nn Ar As Ap r.length s.length p.length cr cs cp _).mono ?_
    rintro e w3 ⟨rfl,y3⟩
    have y4:=Z0a y2 y3
    obtain ⟨Z,hZ⟩:∃ Z:Int,(if k=2 then (r.length:Int) else nn)=Z:=⟨_,rfl⟩
    rw [hZ]
    have HZ:Hid (Z07 ⟨k,nn,r,s,p⟩=Z):=hid hZ
    clear hZ
    obtain ⟨W,hW⟩:∃ W,IntKind.i64.wrap (a+Z)=W:=⟨_,rfl⟩
    go_wp2_with (fail)
    go_roundg (n-(m+1))
    case measure=>have:=HG.out;omega
    case rel=>exact ⟨m+1,W,by omega,rfl,by first|rfl|(rw [←hW];rfl),by go_num,y4,hid (by rw [←HI2.out];simp only [Z1O];rw [if_neg HK.out,HZ.out,hW])⟩
  ·go_wp2_with (fail)
   go_ret
   refine ⟨Z0k ?_,y⟩
   rw [←HI.out,List.drop_eq_nil_of_le (by have:=N.out;omega)]
   rfl
def Z0S (n:Int) (st:Bool×Int) (x:OpS):Bool×Int:=
 if st.1=false then st else
 if x.o.k=2 then (decide (¬ st.2=n),st.2) else
 if x.o.k=3∧IntKind.i64.wrap (st.2+x.o.n)=n then (false,st.2) else (true,IntKind.i64.wrap (st.2+x.o.n))
def Z3q (n:Int) (l:List OpS):Bool:=(l.foldl (Z0S n) (true,0)).1
theorem Z2a (n:Int) (a:Int):∀ l:List OpS,(l.foldl (Z0S n) (false,a))=(false,a)
 | []=>rfl
 | x::l=>by rw [List.foldl_cons];unfold Z0S;simp only [if_true];exact Z2a n a l
theorem Y41 {n:Int} {l:List OpS} {m:Nat} {x:OpS} {a:Int} {R:Bool} (hd:l.drop m=x::l.drop (m+1)) (h:((l.drop m).foldl (Z0S n) (true,a)).1=R):((l.drop (m+1)).foldl (Z0S n) (Z0S n (true,a) x)).1=R:=by
 rw [hd] at h;exact h
theorem Y2Y (A:Option Addr) (n c:Nat) (l:List OpS) (lim:Int) (w:World) (hn:n=l.length) (h:RdOs w w.heap.size A l) (hb:n≤140737488355328) :
 Calls Tryz.prog 180 #[.slice A n c,.int .i64 lim] w fun e w'=>e=.returned (.bool (Z3q lim l))∧Below w.heap.size w w':=by
 have N:=hid hn
 generalize hR:Z3q lim l=R
 have HR:=hid hR
 clear hn hR
 go_enter Tryz.func180,Tryz.ntmps180
 go_wp2
 go_step3
 go_wp2
 go_step3
 go_wp2
 go_loopg [5,10] n (fun g av iv wr => ∃ (m:Nat) (a:Int),m≤n∧g=n-m∧av=.int .i64 a∧iv=.int .i64 (m:Int)∧Below w.heap.size w wr∧Hid (((l.drop m).foldl (Z0S lim) (true,a)).1=R))
 case atStart=>exact ⟨0,0,by omega,rfl,rfl,rfl,Below.refl _ _,hid (by rw [List.drop_zero];exact HR.out)⟩
 case round=>
  obtain ⟨m,a,hm,hg,rfl,rfl,y,HI⟩:=hrel
  have HG:=hid hg
  clear hg HR
  by_cases hlt:m<n
  ·have hl1:m<l.length:=by have:=N.out;omega
   obtain ⟨ad,x,rfl,had,hd1,_,hc0⟩:=(h.below y (Nat.le_refl _)).el hl1
   have HI2:=hid (Y41 hd1 HI.out)
   obtain ⟨⟨k,nn,r,s,p⟩,Ar,cr,As,cs,Ap,cp⟩:=x
   obtain ⟨r0,r1,r2,r3,r4⟩:=Z0r hc0
   clear hc0 hd1 HI
   have y2:=Z0a y (Z0b wr (.cells #[.int .u8 k,.int .i64 nn,.slice Ar r.length cr,.slice As s.length cs,.slice Ap p.length cp] 36))
   have hw2:IntKind.i64.wrap ((m:Int)+1)=(m:Int)+1:=IntWalk.i64_in _ (by omega)
   obtain ⟨W,hW⟩:∃ W,IntKind.i64.wrap (a+nn)=W:=⟨_,rfl⟩
   have HW:=hid hW
   by_cases hk:k=2
   ·subst hk
    by_cases ha:a=lim
    ·subst ha
     go_wp2_with (fail)
     go_ret
     refine ⟨Z0e ?_,y2⟩
     rw [←HI2.out]
     simp [Z0S,Z2a]
    ·have hb2:(a==lim)=false:=beq_eq_false_iff_ne.2 ha
     have HA:=hid ha
     clear ha
     go_wp2_with (fail)
     go_roundg (n-(m+1))
     case measure=>have:=HG.out;omega
     case rel=>exact ⟨m+1,a,by omega,rfl,rfl,by go_num,y2,hid (by rw [←HI2.out];simp [Z0S,HA.out])⟩
   ·have hb:(k==2)=false:=beq_eq_false_iff_ne.2 hk
    have HK:=hid hk
    clear hk
    by_cases hk3:k=3
    ·subst hk3
     by_cases ha:W=lim
     ·subst ha
      go_wp2_with (fail)
      go_ret
      refine ⟨Z0e ?_,y2⟩
      rw [←HI2.out]
      simp [Z0S,Z2a,HW.out]
     ·have hb2:(W==lim)=false:=beq_eq_false_iff_ne.2 ha
      have HA:=hid ha
      clear ha
      go_wp2_with (fail)
      go_roundg (n-(m+1))
      case measure=>have:=HG.out;omega
      case rel=>exact ⟨m+1,W,by omega,rfl,by first|rfl|(rw [←HW.out];rfl),by go_num,y2,hid (by rw [←HI2.out];simp [Z0S,HW.out,HA.out])⟩
    ·have hb3:(k==3)=false:=beq_eq_false_iff_ne.2 hk3
     have HK3:=hid hk3
     clear hk3
     go_wp2_with (fail)
     go_roundg (n-(m+1))
     case measure=>have:=HG.out;omega
     case rel=>exact ⟨m+1,W,by omega,rfl,by first|rfl|(rw [←HW.out];rfl),by go_num,y2,hid (by rw [←HI2.out];simp [Z0S,HW.out,HK.out,HK3.out])⟩
  ·go_wp2_with (fail)
   unfold Exit.noGoto
   go_ret
   refine ⟨Z0e ?_,y⟩
   rw [←HI.out,List.drop_eq_nil_of_le (by have:=N.out;omega)]
   rfl
theorem Z8m (v:Value) (b:List Int) (base:Nat) (r:Int) (w:World) (hown:OwU8 w base v b) (hbase:base≤w.heap.size) (hb:b.length≤400000000) (h0:128≤r) (hm:mayR r=true) :
 Calls Tryz.prog 325 #[v,.int .i32 r] w fun e w' => ∃ v',e=.returned v'∧OwU8 w' base v' (b++encR r)∧Below base w w':=by
 have hi:=(Z2C hm).2
 have hmm:=of_decide_eq_true hm
 clear hm
 have hn:¬ r<128:=by omega
 by_cases h2:r≤2047
 ·have he:encR r=[192+r / 64,128+r % 64]:=by rw [encR,if_neg hn,if_pos (by omega)]
  rw [he]
  go_enter Tryz.func325,Tryz.ntmps325
  go_wp2_with (at_builtin;refine Z3l (m:=[192+r / 64,128+r % 64]) rfl (.tmp 14) (.tmp 23) rfl rfl (hown.alloc _) _ _ _ _ rfl rfl (Rd.new (enc:=Z2B) (size:=1) (fun _=>rfl) w 5 [192+r / 64,128+r % 64] (cs:=#[.int .u8 (192+r / 64),.int .u8 (128+r % 64)]) rfl rfl) (by simp only [List.length_cons,List.length_nil];omega) (by rw [World.size_alloc];omega) ?_;intro v' w' hown' hgr hv')
  have hx:Below base w w':=((Below.refl _ _).alloc hbase _).grown hgr (by rw [World.size_alloc];omega) (fun k hk=>(hown.wb_lt k hk).1)
  go_ret
  exact ⟨v',rfl,hown',hx⟩
 ·by_cases h3:r<55296
  ·have he:encR r=[224+r / 4096,128+r / 64 % 64,128+r % 64]:=by rw [encR,if_neg hn,if_neg (by omega),if_pos (by omega)]
   rw [he]
   go_enter Tryz.func325,Tryz.ntmps325
   go_wp2_with (at_builtin;refine Z3l (m:=[224+r / 4096,128+r / 64 % 64,128+r % 64]) rfl (.tmp 34) (.tmp 48) rfl rfl (hown.alloc _) _ _ _ _ rfl rfl (Rd.new (enc:=Z2B) (size:=1) (fun _=>rfl) w 5 [224+r / 4096,128+r / 64 % 64,128+r % 64] (cs:=#[.int .u8 (224+r / 4096),.int .u8 (128+r / 64 % 64),.int .u8 (128+r % 64)]) rfl rfl) (by simp only [List.length_cons,List.length_nil];omega) (by rw [World.size_alloc];omega) ?_;intro v' w' hown' hgr hv')
   have hx:Below base w w':=((Below.refl _ _).alloc hbase _).grown hgr (by rw [World.size_alloc];omega) (fun k hk=>(hown.wb_lt k hk).1)
   go_ret
   exact ⟨v',rfl,hown',hx⟩
  ·have h4:57343<r:=by omega
   by_cases h5:r≤65535
   ·have he:encR r=[224+r / 4096,128+r / 64 % 64,128+r % 64]:=by rw [encR,if_neg hn,if_neg (by omega),if_pos (by omega)]
    rw [he]
    go_enter Tryz.func325,Tryz.ntmps325
    go_wp2_with (at_builtin;refine Z3l (m:=[224+r / 4096,128+r / 64 % 64,128+r % 64]) rfl (.tmp 34) (.tmp 48) rfl rfl (hown.alloc _) _ _ _ _ rfl rfl (Rd.new (enc:=Z2B) (size:=1) (fun _=>rfl) w 5 [224+r / 4096,128+r / 64 % 64,128+r % 64] (cs:=#[.int .u8 (224+r / 4096),.int .u8 (128+r / 64 % 64),.int .u8 (128+r % 64)]) rfl rfl) (by simp only [List.length_cons,List.length_nil];omega) (by rw [World.size_alloc];omega) ?_;intro v' w' hown' hgr hv')
    have hx:Below base w w':=((Below.refl _ _).alloc hbase _).grown hgr (by rw [World.size_alloc];omega) (fun k hk=>(hown.wb_lt k hk).1)
    go_ret
    exact ⟨v',rfl,hown',hx⟩
   ·have he:encR r=[240+r / 262144,128+r / 4096 % 64,128+r / 64 % 64,128+r % 64]:=by rw [encR,if_neg hn,if_neg (by omega),if_neg (by omega)]
    have h6:65535<r:=by omega
    rw [he]
    go_enter Tryz.func325,Tryz.ntmps325
    go_wp2_with (at_builtin;refine Z3l (m:=[240+r / 262144,128+r / 4096 % 64,128+r / 64 % 64,128+r % 64]) rfl (.tmp 57) (.tmp 76) rfl rfl (hown.alloc _) _ _ _ _ rfl rfl (Rd.new (enc:=Z2B) (size:=1) (fun _=>rfl) w 5 [240+r / 262144,128+r / 4096 % 64,128+r / 64 % 64,128+r % 64] (cs:=#[.int .u8 (240+r / 262144),.int .u8 (128+r / 4096 % 64),.int .u8 (128+r / 64 % 64),.int .u8 (128+r % 64)]) rfl rfl) (by simp only [List.length_cons,List.length_nil];omega) (by rw [World.size_alloc];omega) ?_;intro v' w' hown' hgr hv')
    have hx:Below base w w':=((Below.refl _ _).alloc hbase _).grown hgr (by rw [World.size_alloc];omega) (fun k hk=>(hown.wb_lt k hk).1)
    go_ret
    exact ⟨v',rfl,hown',hx⟩
theorem Z6J (v:Value) (b:List Int) (base:Nat) (r:Int) (w:World) (hown:OwU8 w base v b) (hbase:base≤w.heap.size) (hb:b.length≤400000000) (hm:mayR r=true) :
 Calls Tryz.prog 256 #[v,.int .i32 r] w fun e w' => ∃ v',e=.returned v'∧OwU8 w' base v' (b++encR r)∧Below base w w':=by
 have hi:=(Z2C hm).2
 have hlo:=(Z2C hm).1
 by_cases h2:r≤127
 ·have he:encR r=[r]:=by rw [encR,if_pos (by omega)]
  clear hm
  rw [he]
  go_enter Tryz.func256,Tryz.ntmps256
  go_wp2_with (at_builtin;refine Z3l (m:=[r]) rfl (.tmp 8) (.tmp 11) rfl rfl (hown.alloc _) _ _ _ _ rfl rfl (Rd.new (enc:=Z2B) (size:=1) (fun _=>rfl) w 5 [r] (cs:=#[.int .u8 r]) rfl rfl) (by simp only [List.length_cons,List.length_nil];omega) (by rw [World.size_alloc];omega) ?_;intro v' w' hown' hgr hv')
  have hx:Below base w w':=((Below.refl _ _).alloc hbase _).grown hgr (by rw [World.size_alloc];omega) (fun k hk=>(hown.wb_lt k hk).1)
  go_ret
  exact ⟨v',rfl,hown',hx⟩
 ·have HM:=hid hm
  clear hm
  go_enter Tryz.func256,Tryz.ntmps256
  go_wp2_with (go_at_call 325;refine Hid.out ?_)
  refine hid ?_
  refine (Z8m v b base r w hown hbase hb (by omega) HM.out).mono ?_
  rintro e w1 ⟨v',rfl,ho,hx⟩
  go_wp2_with (fail)
  go_ret
  exact ⟨v',rfl,ho,hx⟩
theorem Y2Z (A:Option Addr) (n c:Nat) (l:List Int) (w:World) (hn:n=l.length) (h:Z11 w w.heap.size A l) (hb:n≤100000000) :
 Calls Tryz.prog 171 #[.slice A n c] w (Y0y l w):=by
 have N:=hid hn
 clear hn
 go_enter Tryz.func171,Tryz.ntmps171
 go_wp2_with (fail)
 go_loopg [4,9] n (fun g bv iv wr => ∃ (i:Nat) (w1:World) (b:List Int) (bs:Value),i≤n∧g=n-i∧iv=.int .i64 (i:Int)∧w1=wr∧bs=bv∧Hid (b=Z0D (l.take i))∧Hid (okR (l.take i)=true)∧OwU8 w1 w.heap.size bs b∧Below w.heap.size w w1)
 case atStart=>exact ⟨0,w,[],_,by omega,rfl,rfl,rfl,rfl,hid (by simp [Z0D]),hid (by simp [okR]),Ow.nil _ _,Below.refl _ _⟩
 case round=>
  obtain ⟨i,w1,b,bs,hi,hg,rfl,rfl,rfl,HB,HO,hown,hx⟩:=hrel
  have HG:=hid hg
  clear hg
  have hbl:b.length≤400000000:=by
   have t:=Z6T (l.take i)
   rw [←HB.out,List.length_take] at t
   have:=N.out
   omega
  by_cases hlt:i<n
  ·have r1:=h.ext hx
   obtain ⟨ad,r,rfl,_,_,hri,hc1⟩:=r1.el (i:=i) (by have:=N.out;omega)
   have HRI:=hid hri
   have r0:w1.cell? (ad.add (i*1))=some (.int .i32 r):=by have:=hc1 0 _ rfl;rwa [Z0n] at this
   rw [Nat.mul_one] at r0
   clear hc1 hri
   cases hm:mayR r with
   | false=>
     have HM:=hid (Y6T HRI.out hm)
     go_wp2_with (go_at_call 51;refine (Z5N r w1).mono ?_;rintro e w2 ⟨rfl,rfl⟩;rw [hm])
     refine bodyPost_ret (v:=.tuple #[.slice none 0 0,.int .i64 3]) (by simp [results,Tryz.results171,go_sem]) rfl ?_
     exact ⟨.slice none 0 0,by rw [if_neg (by rw [HM.out];simp)],by rw [if_neg (by rw [HM.out];simp)];exact Ow.nil _ _,hx⟩
   | true=>
     have HO1:Hid (okR (l.take (i+1))=true):=hid (by rw [Y4S HRI.out,HO.out,hm];rfl)
     have HB1:Hid (b++encR r=Z0D (l.take (i+1))):=hid (by rw [Z9A HRI.out,HB.out])
     go_wp2_with (first
      | (go_at_call 51;refine (Z5N r w1).mono ?_;rintro e w2 ⟨rfl,rfl⟩;rw [hm])
      | (go_at_call 256;refine Hid.out ?_))
     refine hid ?_
     refine (Z6J bs b w.heap.size r w1 hown hx.size hbl hm).mono ?_
     rintro e w' ⟨v',rfl,hown',y⟩
     have hx3:Below w.heap.size w w':=hx.trans y
     clear hm y
     go_wp2_with (fail)
     go_roundg (n-(i+1))
     case measure=>have:=HG.out;omega
     case rel=>exact ⟨i+1,w',_,_,by omega,rfl,by go_num,rfl,rfl,HB1,HO1,hown',hx3⟩
  ·have e:l.take i=l:=List.take_of_length_le (by have:=N.out;omega)
   have HB1:Hid (b=Z0D l):=hid (by rw [HB.out,e])
   have HO1:Hid (okR l=true):=hid (by rw [←HO.out,e])
   clear e HB HO
   go_wp2_with (fail)
   refine bodyPost_ret (v:=.tuple #[bs,.int .i64 0]) (by simp [results,Tryz.results171,go_sem]) rfl ?_
   exact ⟨bs,by rw [if_pos HO1.out],by rw [if_pos HO1.out,←HB1.out];exact hown,hx⟩
theorem Y42 {r:Int} (h:mayR r=true):∀ x∈encR r,0≤x∧x≤255:=by
 have hb:=Z2C h
 unfold encR
 repeat' split
 all_goals
  intro x hx
  simp only [List.mem_cons,List.not_mem_nil,or_false] at hx
  omega
theorem Y1H {l:List Int} (h:okR l=true):∀ x∈Z0D l,0≤x∧x≤255:=by
 intro x hx
 obtain ⟨r,hr,hx⟩:=List.mem_flatMap.1 hx
 exact Y42 (List.all_eq_true.1 h r hr) x hx
theorem Y20 {b l:List Int} (hu:∀ x∈b,0≤x∧x≤255) (h:Z1f b=some l):l.length≤b.length:=by
 have h2:=(Z7w hu h).2
 rw [←h2]
 clear h h2 hu
 induction l with
 | nil=>simp
 | cons r l ih=>
   have e:Z0D (r::l)=encR r++Z0D l:=rfl
   have:=(Z3G r).1
   rw [e,List.length_append,List.length_cons]
   omega
def strB (l:List Int):ByteArray:=⟨(l.map fun x=>UInt8.ofNat x.toNat).toArray⟩
theorem Y0J (t:List UInt8):strB (intB t)=⟨t.toArray⟩:=by
 unfold strB intB
 rw [List.map_map,List.map_congr_left (g:=id),List.map_id]
 intro x _
 simp
theorem Z31 {w:World} {B:Nat} {A:Option Addr} {l:List Int} {n c:Nat} (hn:n=l.length) (h:RdU8 w B A l) (hu:∀ x∈l,0≤x∧x≤255) :
 (convert 55 9 (.slice A n c)).run Tryz.prog w=.ok (.string (strB l)) w:=by
 obtain ⟨t,rfl⟩:=Y2U hu
 rw [Y0J]
 rw [Z1v] at hn
 exact Y0E hn (Z7x.1 h)
theorem ow_sl {α:Type} {enc:α→List Value} {size:Nat} {e:TypeId} {w:World} {base n:Nat} {v:Value} {l k:List α} (h:Ow enc size e w base v k) (hk:k=l) (hn:n=l.length):∃ A c,v=.slice A n c∧n≤c∧Ow enc size e w base (.slice A n c) l:=by
 subst hk;subst hn
 obtain ⟨A,c,rfl,h1,_⟩:=h.form
 exact ⟨A,c,rfl,h1,h⟩
end Go.Proofs.YtnmedachaeanbaaGreatDoor
