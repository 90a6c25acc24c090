/- Merged texts. -/
import Derived.Test.YtnmedachaeanbaaGreatDoorB33
namespace Go.Proofs.YtnmedachaeanbaaGreatDoor
set_option maxRecDepth 100000
set_option maxHeartbeats 3200000
open Go.RowKit
open Go.Lib (hid Utf8Tabs)
set_option linter.unusedVariables false
set_option linter.unusedSimpArgs false
def Y50 (n:Nat) (l:List ClS) (lim:Int) (w:World) (e:Ending) (w':World):Prop:=
 ∃ b:Bool,e=.returned (.bool b)∧(b=false→(n:Int)≤lim∧∀ x∈l,x.c.s.length≤64)∧∃ d,w'=w.drewN d
theorem Y0e (A:Option Addr) (n c:Nat) (l:List ClS) (lim:Int) (w:World) (hn:n=l.length) (h:RdCl w w.heap.size A l) (hb:n≤140737488355328) (hs:∀ x∈l,x.c.s.length≤140737488355328) :
 Calls Tryz.prog 30 #[.slice A n c,.int .i64 lim] w (Y50 n l lim w):=by
 have N:=hid hn
 have HR:=hid h
 have HS:=hid hs
 clear hn h hs
 by_cases hl:lim<(n:Int)
 ·go_enter Tryz.func30,Tryz.ntmps30
  go_wp2_with (fail)
  go_ret
  exact ⟨true,rfl,(by intro h;cases h),0,rfl⟩
 have hle:(n:Int)≤lim:=by omega
 go_enter Tryz.func30,Tryz.ntmps30
 go_wp2_with (fail)
 go_loopg [5,6] n (fun g av iv wr => ∃ (m:Nat) (a:Int),m≤n∧g=n-m∧av=.int .i64 a∧iv=.int .i64 (m:Int)∧(∃ d,wr=w.drewN d)∧Hid (∀ x∈l.take m,x.c.s.length≤64))
 case atStart=>exact ⟨0,0,by omega,rfl,rfl,rfl,⟨0,rfl⟩,hid (by simp)⟩
 case round=>
  obtain ⟨m,a,hm,hg,rfl,rfl,⟨d,rfl⟩,HI⟩:=hrel
  have HG:=hid hg
  clear hg
  by_cases hlt:m<n
  ·have hl1:m<l.length:=by have:=N.out;omega
   obtain ⟨ad,o,had0,had,hd1,hx1,hc0⟩:=HR.out.1.el hl1
   subst had0
   have hmem:=List.mem_of_getElem? hx1
   have g2:=HR.out.2 o hmem
   have hso:=HS.out o hmem
   have HT:Hid (l.take (m+1)=l.take m++[o]):=hid (by rw [List.take_add_one,hx1];rfl)
   obtain ⟨⟨r,s⟩,As,cs⟩:=o
   simp only at g2 hso
   obtain ⟨r0,r1⟩:=Z1E hc0
   obtain ⟨ns,hns⟩:∃ X,s.length=X:=⟨_,rfl⟩
   have NS:=hid hns
   rw [hns] at r1 hso
   have hw2:IntKind.i64.wrap ((m:Int)+1)=(m:Int)+1:=IntWalk.i64_in _ (by omega)
   clear hc0 hd1 hx1 hmem hns hl1
   by_cases h64:(64:Int)<(ns:Int)
   ·go_wp2_with (fail)
    go_ret
    exact ⟨true,rfl,(by intro h;cases h),_,rfl⟩
   ·have h64':Hid (s.length≤64):=hid (by rw [NS.out];omega)
    go_wp2_with (fail)
    go_loopg [5,7] ns (fun g av iv wi => ∃ (j:Nat) (b:Int),j≤ns∧g=ns-j∧av=.int .i64 b∧iv=.int .i64 (j:Int)∧∃ d,wi=w.drewN d)
    case atStart=>exact ⟨0,_,by omega,rfl,rfl,rfl,_,rfl⟩
    case round=>
     obtain ⟨j,b,hj,hg2,rfl,rfl,d2,rfl⟩:=hrel
     have HG2:=hid hg2
     clear hg2
     by_cases hls:j<ns
     ·obtain ⟨ad2,z,e2,_,_,_,hz⟩:=g2.el (i:=j) (by have:=NS.out;omega)
      subst e2
      obtain ⟨z1,z2,z3,z4,z5⟩:=z
      obtain ⟨s0,s1,s2,s3,s4⟩:=Z0P hz
      have hw3:IntKind.i64.wrap ((j:Int)+1)=(j:Int)+1:=IntWalk.i64_in _ (by omega)
      clear hz
      go_wp2_with (fail)
      go_roundg (ns-(j+1))
      case measure=>have:=HG2.out;omega
      case rel=>exact ⟨j+1,_,by omega,rfl,rfl,by go_num,_,rfl⟩
     ·go_wp2_with (fail)
      go_roundg (n-(m+1))
      case measure=>have:=HG.out;omega
      case rel=>
       refine ⟨m+1,_,by omega,rfl,rfl,by go_num,⟨_,rfl⟩,hid ?_⟩
       intro y hy
       rw [HT.out] at hy
       rcases List.mem_append.1 hy with hy|hy
       ·exact HI.out y hy
       ·simp at hy;subst hy;exact h64'.out
  ·have hmn:l.take m=l:=List.take_of_length_le (by have:=N.out;omega)
   have HI2:=HI.out
   rw [hmn] at HI2
   have H2:=hid HI2
   clear HI2 hmn
   go_wp2_with (fail)
   go_ret
   exact ⟨_,rfl,fun _=>⟨hle,H2.out⟩,_,rfl⟩
theorem Y7D (x:List OpS):x.length≤szX x:=by
 induction x with
 | nil=>exact Nat.zero_le _
 | cons a x ih=>
   show _≤szO a.o+szX x
   unfold szO
   rw [List.length_cons];omega
def sumX (L:List SX):Nat:=(L.map (fun s=>szX s.l)).sum
def Y8I (n0 n1:Nat) (d:List ClS) (L:List SX) (w:World) (e:Ending) (w':World):Prop:=
 ∃ b:Bool,e=.returned (.bool b)∧(b=true→n0≤64∧n1≤300∧(∀ c∈d,c.c.s.length≤64)∧sumX L≤4000)∧∃ d,w'=w.drewN d
theorem Y2s (A0 A1 A2:Option Addr) (n0 c0 n1 c1 n c:Nat) (d:List ClS) (L:List SX) (w:World) (hn:n=L.length) (h:Rd SX.enc 1 w w.heap.size A2 L) (hb:n≤1000) (h0:n0≤140737488355328)
 (hs:∀ s∈L,RdOp w w.heap.size s.A s.l∧s.l.length≤140737488355328) (hz:sumX L≤4611686018427387904)
 (hn1:n1=d.length) (h1:RdCl w w.heap.size A1 d) (b1:n1≤140737488355328) (hd:∀ y∈d,y.c.s.length≤140737488355328) :
 Calls Tryz.prog 6 #[.slice A0 n0 c0,.slice A1 n1 c1,.slice A2 n c] w (Y8I n0 n1 d L w):=by
 have N:=hid hn
 have HS:=hid hs
 have HZ:=hid hz
 have N1:=hid hn1
 have H1:=hid h1
 have HD:=hid hd
 clear hn hs hz hn1 h1 hd
 go_enter Tryz.func6,Tryz.ntmps6
 go_wp2_with (fail)
 go_loopg [7,11] n (fun g av iv wr => ∃ (m a:Nat),m≤n∧g=n-m∧a=sumX (L.take m)∧av=.int .i64 (a:Int)∧iv=.int .i64 (m:Int)∧∃ d,wr=w.drewN d)
 case atStart=>exact ⟨0,0,by omega,rfl,rfl,rfl,rfl,0,rfl⟩
 case round=>
  obtain ⟨m,a,hm,hg,ha,rfl,rfl,d3,rfl⟩:=hrel
  have HG:=hid hg
  have HA:=hid ha
  clear hg ha
  by_cases hlt:m<n
  ·obtain ⟨ad,z,had0,had,_,hx1,hc0⟩:=h.el (i:=m) (by have:=N.out;omega)
   subst had0
   obtain ⟨f1,f2⟩:=HS.out z (List.mem_of_getElem? hx1)
   have TK:Hid (sumX (L.take (m+1))=a+szX z.l):=hid (by rw [HA.out];exact Z4o (fun s:SX=>szX s.l) hx1)
   have TB:Hid (a+szX z.l≤4611686018427387904):=hid (by rw [←TK.out];exact Nat.le_trans (Z2h (fun s:SX=>szX s.l) L (m+1)) HZ.out)
   obtain ⟨A3,c3,x⟩:=z
   simp only at f1 f2 TK TB
   have q0:_=some (Value.slice A3 x.length c3):=hc0 0 _ rfl
   rw [Z0n,Nat.mul_one] at q0
   obtain ⟨n3,hn3⟩:∃ n3,n3=x.length:=⟨_,rfl⟩
   rw [←hn3] at q0 f2
   have N3:=hid hn3
   have hw2:IntKind.i64.wrap ((m:Int)+1)=(m:Int)+1:=IntWalk.i64_in _ (by omega)
   clear hn3 hx1 hc0
   go_wp2_with (go_at_call 29;refine Hid.out ?_)
   refine hid ?_
   refine (Y2j A3 n3 c3 x (w.drewN d3) N3.out ⟨f1.1.drewN _,fun q hq=>⟨(f1.2 q hq).1.drewN _,(f1.2 q hq).2.1.drewN _,(f1.2 q hq).2.2.drewN _⟩⟩ f2 (by have:=TB.out;omega)).mono ?_
   obtain ⟨sz,hsz⟩:∃ X,szX x=X:=⟨_,rfl⟩
   rw [hsz] at TK TB ⊢
   rintro e w2 ⟨rfl,d2,rfl⟩
   have hw4:IntKind.i64.wrap ((a:Int)+(sz:Int))=(a:Int)+sz:=IntWalk.i64_in _ (by have:=TB.out;omega)
   clear hsz
   go_wp2_with (fail)
   go_roundg (n-(m+1))
   case measure=>have:=HG.out;omega
   case rel=>exact ⟨m+1,a+sz,by omega,rfl,TK.out.symm,by go_num,by go_num,_,(by first|rfl|exact World.drewN_drewN _ _ _)⟩
  ·have HA9:Hid (a=sumX L):=hid (by have:=HA.out;rwa [List.take_of_length_le (by have:=N.out;omega)] at this)
   have AB:a≤4611686018427387904:=by rw [HA9.out];exact HZ.out
   by_cases h64:(64:Int)<(n0:Int)
   ·go_wp2_with (fail)
    go_ret
    exact ⟨false,rfl,(by intro h;cases h),_,rfl⟩
   ·go_wp2_with (go_at_call 30;refine Hid.out ?_)
    refine hid ?_
    refine (Y0e A1 n1 c1 d 300 _ N1.out ⟨H1.out.1.drewN _,fun x hx=>(H1.out.2 x hx).drewN _⟩ b1 HD.out).mono ?_
    rintro e w1 ⟨g1,rfl,hg1,x1,rfl⟩
    cases g1 with
    | true=>
      clear hg1
      go_wp2_with (fail)
      go_ret
      exact ⟨false,rfl,(by intro h;cases h),_,(by first|exact World.drewN_drewN _ _ _|rfl)⟩
    | false=>
      have h2:=hg1 rfl
      have H2:=hid h2
      clear hg1 h2
      go_wp2_with (fail)
      go_ret
      exact ⟨decide ((a:Int)≤(4000:Int)),rfl,fun h5=>⟨by omega,by have:=H2.out.1;omega,H2.out.2,by have:=of_decide_eq_true h5;rw [←HA9.out];omega⟩,_,(by first|exact World.drewN_drewN _ _ _|rfl)⟩
theorem Y7E {l:List Ky} {x:List OpS} {n a b:Int} (h:Z3A l x n a=0) (hab:a≤b):Z3A l x n b=0:=by
 obtain ⟨h1,h2,h3,h4,h5,h6,h7⟩:=Z2g h
 exact Z6n h1 h2 (by omega) h4 h5 h6 (by omega)
theorem Y4d {l:List Ky} {x:List OpS} {n a b:Int} (h:Z3A l x n b=0) (h2:n≤a) (h3:Z4N n x≤a):Z3A l x n a=0:=by
 obtain ⟨g1,g2,g3,g4,g5,g6,g7⟩:=Z2g h
 exact Z6n g1 g2 h2 g4 g5 g6 h3
theorem Y4e {l:List Ky} {x:List OpS} {d:List Cl} {a b:Int} (h:Z01 l x d a=0) (hab:a≤b):Z01 l x d b=0:=by
 obtain ⟨h1,h2⟩:=Z1y h
 exact Z25 h1 (Y7E h2 hab)
theorem Y51 {x:List OpS} (hi:∀ o∈x,isOp o.o):Z0q (Z0i (osOf x))≤szX x+Z0j (Z0i (osOf x)):=by
 induction x with
 | nil=>exact Nat.zero_le _
 | cons o x ih=>
   have e:Z0i (osOf (o::x))=Z0l o.o++Z0i (osOf x):=rfl
   have e2:szX (o::x)=szO o.o+szX x:=rfl
   rw [e,Z0V,Z0K,e2]
   have h1:=ih (fun z hz=>hi z (List.mem_cons_of_mem _ hz))
   have h2:=Z9Z (hi o (by simp))
   unfold szO
   omega
theorem Z7h {l:List Ky} {x:List OpS} {d:List Cl} {most:Int} (hx:x.length≤1048576) (hz:szX x≤5000) (hd:d.length≤400) (h:Z01 l x d most=0):∃ N:Nat,N≤10000∧(N:Int)≤most∧Z01 l x d (N:Int)=0:=by
 obtain ⟨h1,h2⟩:=Z1y h
 obtain ⟨g1,g2,g3,g4,g5,g6,g7⟩:=Z2g h2
 obtain ⟨m1,m2,m3⟩:=Z1s g1
 obtain ⟨s1,s2⟩:=Z1A x (Z03 m1)
 have ht:=Z1V m1 hx
 have hm:=Z2f m1 hx
 have hl:=Z7T (n:=(d.length:Int)) m1 hx (by omega) (by omega) m2 m3
 have hs:=Y51 (Z03 m1)
 rw [hl] at g7
 refine ⟨max d.length (d.length+Z0q (Z0i (osOf x))-Z0j (Z0i (osOf x))),by omega,by omega,Z25 h1 (Y4d h2 (by omega) (by rw [hl];omega))⟩
theorem Y4f {l:List Ky} {z:List OpS} {us:List Un} {d:List Cl} {N:Nat} (hz:osOf z=mkU us) (hb:z.length≤1048576) (hd:mayD l d=0) (hf:FitU l us d.length N) (hN:N≤536870912) {most:Int} (hm:(N:Int)≤most) :
 Z01 l z d most=0∧Z01 l z d (N:Int)=0∧app l (Z0i (osOf z)) d=app l us d:=by
 obtain ⟨h1,h2⟩:=Z96 hz hb (by omega) hd hf
 exact ⟨Y4e h1 hm,h1,h2⟩
theorem Y4g {α:Type} (f:α→Nat):∀ {l:List α} {a:α},a∈l→f a≤(l.map f).sum
 | b::l,a,h=>by
   rw [List.map_cons,List.sum_cons]
   rcases List.mem_cons.1 h with rfl|h
   ·omega
   ·have:=Y4g f h;omega
theorem Y7F {s:List At} (h:okVr s) (hz:szA s≤100000000):okVa s:=fun c hc=>⟨h c hc,by have:=Y4g (fun a:At=>a.v.s.size) hc;have h2:c.v.s.size≤(s.map (fun a:At=>a.v.s.size)).sum:=this;unfold szA at hz;omega⟩
theorem Z5D {A B:Option Addr} {n c n2 c2:Nat} {l:List Ky} {x:List OpS} {w:World} (hn:n=l.length) (h:RdKy w w.heap.size A l) (hb:n≤1048576) (O:OpsAt w B n2 x) (hz:szX x≤5000)
 (hT:Utf8Tabs 0 1 w) {R:Int} (hR:mayO l x=R) :
 Calls Tryz.prog 25 #[.slice A n c,.slice B n2 c2] w fun e w'=>e=.returned (.int .i64 R)∧Below w.heap.size w w':=by
 have h1:=Y4b A B n c n2 c2 l x w hn h (by omega) O.len O.rd (by have:=O.b;omega) (fun o ho=>by
  have h1:=Y3Z ho
  unfold szO at h1
  obtain ⟨a,b,_⟩:=O.ok o ho
  exact ⟨Y7F a (by omega),b,by omega,by omega,by omega⟩) hT
 rw [hR] at h1
 exact h1
theorem Z7i (A B:Option Addr) (n m c d:Nat) (l k:List Ch) (w:World) (hn:n=l.length) (hm:m=k.length) (h1:RdCh w w.heap.size A l) (h2:RdCh w w.heap.size B k) (hb:n≤140737488355328) (hb2:m≤140737488355328) :
 Calls Tryz.prog 95 #[.slice A n c,.slice B m d] w (Z8f (.bool (decide (l=k))) w):=by
 have N:=hid hn
 have M:=hid hm
 generalize hR:decide (l=k)=R
 have HR:=hid hR
 clear hn hR hm
 by_cases hnm:(n:Int)=m
 ·have hnm':n=m:=by omega
  subst hnm'
  clear hnm
  go_enter Tryz.func95,Tryz.ntmps95
  go_wp2_with (fail)
  go_loopg [5] n (fun g iv wr => ∃ i:Nat,i≤n∧g=n-i∧iv=.int .i64 (i:Int)∧(∃ d,wr=w.drewN d)∧Hid (decide (l.drop i=k.drop i)=R))
  case atStart=>exact ⟨0,by omega,rfl,rfl,⟨0,rfl⟩,hid (by rw [List.drop_zero,List.drop_zero];exact HR.out)⟩
  case round=>
   obtain ⟨i,hi,hg,rfl,⟨q,rfl⟩,HI⟩:=hrel
   have HG:=hid hg
   clear hg HR
   by_cases hlt:i<n
   ·have hl1:i<l.length:=by have:=N.out;omega
    have hl2:i<k.length:=by have:=M.out;omega
    obtain ⟨ad,x,rfl,_,hd1,_,hc1⟩:=h1.el hl1
    obtain ⟨ad2,y,rfl,_,hd2,_,hc2⟩:=h2.el hl2
    have HI':Hid (decide (x::l.drop (i+1)=y::k.drop (i+1))=R):=hid (by rw [←HI.out,hd1,hd2])
    clear HI hd1 hd2
    obtain ⟨x1,x6,x2,x3,x4,x5⟩:=x
    obtain ⟨y1,y6,y2,y3,y4,y5⟩:=y
    obtain ⟨r0,r1,r2,r3,r4,r5⟩:=Z0I hc1
    obtain ⟨s0,s1,s2,s3,s4,s5⟩:=Z0I hc2
    by_cases hxy:(⟨x1,x6,⟨x2,x3,x4,x5⟩⟩:Ch)=⟨y1,y6,⟨y2,y3,y4,y5⟩⟩
    ·have hq:=Y0v hxy
     have HXY:=hid hxy
     clear hxy
     go_wp2_with (go_quiet (fail))
     go_roundg (n-(i+1))
     case measure=>have:=HG.out;omega
     case rel=>exact ⟨i+1,by omega,rfl,by go_num,⟨_,rfl⟩,hid (by rw [←HI'.out];simp only [List.cons.injEq,HXY.out,true_and])⟩
    ·have hq:=Y0w hxy
     have HXY:=hid hxy
     clear hxy
     go_wp2_with (go_quiet (fail))
     go_ret
     exact ⟨Z0e (by rw [←HI'.out];exact (decide_eq_false fun e=>HXY.out (List.cons.inj e).1).symm),_,World.drewN_drewN _ _ _⟩
   ·go_wp2_with (fail)
    go_ret
    exact ⟨Z0e (by rw [←HI.out,List.drop_eq_nil_of_le (by have:=N.out;omega),List.drop_eq_nil_of_le (by have:=M.out;omega)];rfl),_,rfl⟩
 ·have hne:((n:Int)==m)=false:=beq_eq_false_iff_ne.2 hnm
  go_enter Tryz.func95,Tryz.ntmps95
  go_wp2_with (fail)
  go_ret
  refine ⟨Z0e ?_,0,rfl⟩
  rw [←HR.out]
  refine (decide_eq_false fun e=>?_).symm
  have h3:=N.out
  have h4:=M.out
  rw [e] at h3
  omega
theorem Z88 {P F:World→Prop} {v:World} (h:F v) (k:∀ v,F v→P v):P v:=k v h
theorem Y2t (A B:Option Addr) (n m c d:Nat) (l k:List OpS) (w:World) (hn:n=l.length) (hm:m=k.length) (h1:RdOp w w.heap.size A l) (h2:RdOp w w.heap.size B k) (hb:n≤100000000) (hb2:m≤100000000)
 (hs1:∀ x∈l,x.o.r.length≤100000000∧x.o.s.length≤100000000∧x.o.p.length≤100000000) (hs2:∀ x∈k,x.o.r.length≤100000000∧x.o.s.length≤100000000∧x.o.p.length≤100000000) :
 Calls Tryz.prog 27 #[.slice A n c,.slice B m d] w fun e w'=>e=.returned (.bool (decide (osOf l=osOf k)))∧Below w.heap.size w w':=by
 have N:=hid hn
 have M:=hid hm
 have H1:=hid h1
 have H2:=hid h2
 have S1:=hid hs1
 have S2:=hid hs2
 generalize hR:decide (osOf l=osOf k)=R
 have HR:=hid hR
 clear hn hR hm h1 h2 hs1 hs2
 have HL:Hid (∀ x:List OpS,(osOf x).length=x.length):=hid (fun x=>by unfold osOf;simp)
 by_cases hnm:(n:Int)=m
 ·have hnm':n=m:=by omega
  subst hnm'
  clear hnm
  have hne:((n:Int) != n)=false:=by simp
  go_enter Tryz.func27,Tryz.ntmps27
  go_wp2_with (fail)
  go_loopg [5] n (fun g iv wr => ∃ i:Nat,i≤n∧g=n-i∧iv=.int .i64 (i:Int)∧Below w.heap.size w wr∧Hid (decide (osOf (l.drop i)=osOf (k.drop i))=R))
  case atStart=>exact ⟨0,by omega,rfl,rfl,Below.refl _ _,hid (by rw [List.drop_zero,List.drop_zero];exact HR.out)⟩
  case round=>
   obtain ⟨i,hi,hg,rfl,y,HI⟩:=hrel
   have HG:=hid hg
   clear hg HR
   by_cases hlt:i<n
   ·have hl1:i<l.length:=by have:=N.out;omega
    have hl2:i<k.length:=by have:=M.out;omega
    obtain ⟨ad,x,rfl,had1,hd1,hx1,hc1⟩:=(H1.out.ext y).1.el hl1
    obtain ⟨ad2,x',rfl,had2,hd2,hx2,hc2⟩:=(H2.out.ext y).1.el hl2
    have hm1:=List.mem_of_getElem? hx1
    have hm2:=List.mem_of_getElem? hx2
    have p1:=hid (H1.out.2 x hm1)
    have p2:=hid (H2.out.2 x' hm2)
    have b1:=hid (S1.out x hm1)
    have b2:=hid (S2.out x' hm2)
    have HI':Hid (decide (x.o::osOf (l.drop (i+1))=x'.o::osOf (k.drop (i+1)))=R):=hid (by rw [←HI.out,hd1,hd2];rfl)
    clear HI hd1 hd2 hx1 hx2 hm1 hm2
    obtain ⟨⟨k1,n1,r1,s1,q1⟩,Ar1,cr1,As1,cs1,Ap1,cp1⟩:=x
    obtain ⟨⟨k2,n2,r2,s2,q2'⟩,Ar2,cr2,As2,cs2,Ap2,cp2⟩:=x'
    obtain ⟨z0,z1,z2,z3,z4⟩:=Z0r hc1
    obtain ⟨u0,u1,u2,u3,u4⟩:=Z0r hc2
    have hlt':(i:Int)<(n:Int):=by omega
    have v1:wr.heap.size≠(ad.add (i*5)).block:=by rw [Z0R];omega
    have v2:wr.heap.size≠(ad2.add (i*5)).block:=by rw [Z0R];omega
    have v3:wr.heap.size+1≠(ad.add (i*5)).block:=by rw [Z0R];omega
    have v4:wr.heap.size+1≠(ad2.add (i*5)).block:=by rw [Z0R];omega
    clear hc1 hc2 hl1 hl2 had2 had1
    obtain ⟨sz,hsz⟩:∃ z,wr.heap.size=z:=⟨_,rfl⟩
    go_wp2_with (fail)
    go_region_held3 (fun w'=>w'.cell? (ad.add (i*5))=some (.int .u8 k1)∧w'.cell? { block:=(ad.add (i*5)).block,off:=(ad.add (i*5)).off+1 }=some (.int .i64 n1)∧w'.cell? { block:=(ad.add (i*5)).block,off:=(ad.add (i*5)).off+2 }=some (.slice Ar1 r1.length cr1)∧w'.cell? { block:=(ad.add (i*5)).block,off:=(ad.add (i*5)).off+3 }=some (.slice As1 s1.length cs1)∧w'.cell? { block:=(ad.add (i*5)).block,off:=(ad.add (i*5)).off+4 }=some (.slice Ap1 q1.length cp1)∧w'.cell? (ad2.add (i*5))=some (.int .u8 k2)∧w'.cell? { block:=(ad2.add (i*5)).block,off:=(ad2.add (i*5)).off+1 }=some (.int .i64 n2)∧w'.cell? { block:=(ad2.add (i*5)).block,off:=(ad2.add (i*5)).off+2 }=some (.slice Ar2 r2.length cr2)∧w'.cell? { block:=(ad2.add (i*5)).block,off:=(ad2.add (i*5)).off+3 }=some (.slice As2 s2.length cs2)∧w'.cell? { block:=(ad2.add (i*5)).block,off:=(ad2.add (i*5)).off+4 }=some (.slice Ap2 q2'.length cp2))
     (go_keep) (fail)
    ·have ya:=Z0b wr (.cells #[.int .u8 k1,.int .i64 n1,.slice Ar1 r1.length cr1,.slice As1 s1.length cs1,.slice Ap1 q1.length cp1] 36)
     have yb:=Z0b (wr.alloc (.cells #[.int .u8 k1,.int .i64 n1,.slice Ar1 r1.length cr1,.slice As1 s1.length cs1,.slice Ap1 q1.length cp1] 36)) (.cells #[.int .u8 k2,.int .i64 n2,.slice Ar2 r2.length cr2,.slice As2 s2.length cs2,.slice Ap2 q2'.length cp2] 36)
     have ga:=(yb.block wr.heap.size (by simp)).trans (heap_alloc_new wr (.cells #[.int .u8 k1,.int .i64 n1,.slice Ar1 r1.length cr1,.slice As1 s1.length cs1,.slice Ap1 q1.length cp1] 36))
     have gb:=heap_alloc_new (wr.alloc (.cells #[.int .u8 k1,.int .i64 n1,.slice Ar1 r1.length cr1,.slice As1 s1.length cs1,.slice Ap1 q1.length cp1] 36)) (.cells #[.int .u8 k2,.int .i64 n2,.slice Ar2 r2.length cr2,.slice As2 s2.length cs2,.slice Ap2 q2'.length cp2] 36)
     rw [World.size_alloc] at gb
     rw [hsz] at ga gb
     refine Z88 (F:=fun v=>Below w.heap.size w v∧v.heap[sz]? = some (.cells #[.int .u8 k1,.int .i64 n1,.slice Ar1 r1.length cr1,.slice As1 s1.length cs1,.slice Ap1 q1.length cp1] 36 (0,0))∧v.heap[sz+1]? = some (.cells #[.int .u8 k2,.int .i64 n2,.slice Ar2 r2.length cr2,.slice As2 s2.length cs2,.slice Ap2 q2'.length cp2] 36 (0,0))) ⟨(Z0a y (Z0a ya yb)).drew,ga,gb⟩ ?_
     clear ya yb ga gb hsz v1 v2 v3 v4
     obtain ⟨sz1,hs1⟩:∃ z,sz+1=z:=⟨_,rfl⟩
     rw [hs1]
     clear hs1
     intro v
     rintro ⟨yv,g6,g7⟩
     obtain ⟨c0,c1,c2,c3,c4⟩:=Z0x g6
     obtain ⟨e0,e1,e2,e3,e4⟩:=Z0x g7
     have YV:=hid yv
     clear g6 g7
     by_cases hk:k1=k2
     ·subst hk
      have hkk:(k1 != k1)=false:=by simp
      by_cases hn:n1=n2
      ·subst hn
       have hnn:(n1 != n1)=false:=by simp
       go_wp2_with (go_at_call 94;refine Hid.out ?_)
       refine hid ?_
       refine (Z5R Ar1 Ar2 r1.length r2.length cr1 cr2 r1 r2 v rfl rfl (p1.out.1.ext yv) (p2.out.1.ext yv) (by have:=b1.out.1;omega) (by have:=b2.out.1;omega)).mono ?_
       by_cases hr:r1=r2
       ·subst hr
        rw [decide_eq_true rfl]
        rintro e v2 ⟨rfl,q2,rfl⟩
        go_wp2_with (go_at_call 14;refine Hid.out ?_)
        refine hid ?_
        refine (Z8g As1 As2 s1.length s2.length cs1 cs2 s1 s2 _ rfl rfl ((p1.out.2.1.ext yv).drewN _) ((p2.out.2.1.ext yv).drewN _) (by have:=b1.out.2.1;omega) (by have:=b2.out.2.1;omega)).mono ?_
        by_cases hs:s1=s2
        ·subst hs
         rw [decide_eq_true rfl]
         rintro e v3 ⟨rfl,q3,rfl⟩
         go_wp2_with (go_at_call 95;refine Hid.out ?_)
         refine hid ?_
         refine (Z7i Ap1 Ap2 q1.length q2'.length cp1 cp2 q1 q2' _ rfl rfl ((p1.out.2.2.ext yv).drewN _) ((p2.out.2.2.ext yv).drewN _) (by have:=b1.out.2.2;omega) (by have:=b2.out.2.2;omega)).mono ?_
         by_cases hp:q1=q2'
         ·subst hp
          rw [decide_eq_true rfl]
          rintro e v4 ⟨rfl,q4,rfl⟩
          have hw2:IntKind.i64.wrap ((i:Int)+1)=(i:Int)+1:=IntWalk.i64_in _ (by omega)
          go_wp2_with (fail)
          go_roundg (n-(i+1))
          case measure=>have:=HG.out;omega
          case rel=>exact ⟨i+1,by omega,rfl,by go_num,Z0C YV.out _,hid (by rw [←HI'.out];simp only [List.cons.injEq,true_and])⟩
         ·rw [decide_eq_false hp]
          rintro e v4 ⟨rfl,q4,rfl⟩
          have HP:=hid hp
          clear hp
          go_wp2_with (fail)
          go_ret
          exact ⟨Z0e (by rw [←HI'.out];exact (decide_eq_false fun e=>HP.out (Opd.mk.inj (List.cons.inj e).1).2.2.2.2).symm),Z0C YV.out _⟩
        ·rw [decide_eq_false hs]
         rintro e v3 ⟨rfl,q3,rfl⟩
         have HP:=hid hs
         clear hs
         go_wp2_with (fail)
         go_ret
         exact ⟨Z0e (by rw [←HI'.out];exact (decide_eq_false fun e=>HP.out (Opd.mk.inj (List.cons.inj e).1).2.2.2.1).symm),Z0C YV.out _⟩
       ·rw [decide_eq_false hr]
        rintro e v2 ⟨rfl,q2,rfl⟩
        have HP:=hid hr
        clear hr
        go_wp2_with (fail)
        go_ret
        exact ⟨Z0e (by rw [←HI'.out];exact (decide_eq_false fun e=>HP.out (Opd.mk.inj (List.cons.inj e).1).2.2.1).symm),Z0C YV.out _⟩
      ·have hnn:(n1 != n2)=true:=by simp [hn]
       have HP:=hid hn
       clear hn
       go_wp2_with (fail)
       go_ret
       exact ⟨Z0e (by rw [←HI'.out];exact (decide_eq_false fun e=>HP.out (Opd.mk.inj (List.cons.inj e).1).2.1).symm),YV.out⟩
     ·have hkk:(k1 != k2)=true:=by simp [hk]
      have HP:=hid hk
      clear hk
      go_wp2_with (fail)
      go_ret
      exact ⟨Z0e (by rw [←HI'.out];exact (decide_eq_false fun e=>HP.out (Opd.mk.inj (List.cons.inj e).1).1).symm),YV.out⟩
    ·have ya:=Z0b wr (.cells #[.int .u8 k2,.int .i64 n2,.slice Ar2 r2.length cr2,.slice As2 s2.length cs2,.slice Ap2 q2'.length cp2] 36)
     have yb:=Z0b (wr.alloc (.cells #[.int .u8 k2,.int .i64 n2,.slice Ar2 r2.length cr2,.slice As2 s2.length cs2,.slice Ap2 q2'.length cp2] 36)) (.cells #[.int .u8 k1,.int .i64 n1,.slice Ar1 r1.length cr1,.slice As1 s1.length cs1,.slice Ap1 q1.length cp1] 36)
     have ga:=(yb.block wr.heap.size (by simp)).trans (heap_alloc_new wr (.cells #[.int .u8 k2,.int .i64 n2,.slice Ar2 r2.length cr2,.slice As2 s2.length cs2,.slice Ap2 q2'.length cp2] 36))
     have gb:=heap_alloc_new (wr.alloc (.cells #[.int .u8 k2,.int .i64 n2,.slice Ar2 r2.length cr2,.slice As2 s2.length cs2,.slice Ap2 q2'.length cp2] 36)) (.cells #[.int .u8 k1,.int .i64 n1,.slice Ar1 r1.length cr1,.slice As1 s1.length cs1,.slice Ap1 q1.length cp1] 36)
     rw [World.size_alloc] at gb
     rw [hsz] at ga gb
     refine Z88 (F:=fun v=>Below w.heap.size w v∧v.heap[sz+1]? = some (.cells #[.int .u8 k1,.int .i64 n1,.slice Ar1 r1.length cr1,.slice As1 s1.length cs1,.slice Ap1 q1.length cp1] 36 (0,0))∧v.heap[sz]? = some (.cells #[.int .u8 k2,.int .i64 n2,.slice Ar2 r2.length cr2,.slice As2 s2.length cs2,.slice Ap2 q2'.length cp2] 36 (0,0))) ⟨(Z0a y (Z0a ya yb)).drew,gb,ga⟩ ?_
     clear ya yb ga gb hsz v1 v2 v3 v4
     obtain ⟨sz1,hs1⟩:∃ z,sz+1=z:=⟨_,rfl⟩
     rw [hs1]
     clear hs1
     intro v
     rintro ⟨yv,g6,g7⟩
     obtain ⟨c0,c1,c2,c3,c4⟩:=Z0x g6
     obtain ⟨e0,e1,e2,e3,e4⟩:=Z0x g7
     have YV:=hid yv
     clear g6 g7
     by_cases hk:k1=k2
     ·subst hk
      have hkk:(k1 != k1)=false:=by simp
      by_cases hn:n1=n2
      ·subst hn
       have hnn:(n1 != n1)=false:=by simp
       go_wp2_with (go_at_call 94;refine Hid.out ?_)
       refine hid ?_
       refine (Z5R Ar1 Ar2 r1.length r2.length cr1 cr2 r1 r2 v rfl rfl (p1.out.1.ext yv) (p2.out.1.ext yv) (by have:=b1.out.1;omega) (by have:=b2.out.1;omega)).mono ?_
       by_cases hr:r1=r2
       ·subst hr
        rw [decide_eq_true rfl]
        rintro e v2 ⟨rfl,q2,rfl⟩
        go_wp2_with (go_at_call 14;refine Hid.out ?_)
        refine hid ?_
        refine (Z8g As1 As2 s1.length s2.length cs1 cs2 s1 s2 _ rfl rfl ((p1.out.2.1.ext yv).drewN _) ((p2.out.2.1.ext yv).drewN _) (by have:=b1.out.2.1;omega) (by have:=b2.out.2.1;omega)).mono ?_
        by_cases hs:s1=s2
        ·subst hs
         rw [decide_eq_true rfl]
         rintro e v3 ⟨rfl,q3,rfl⟩
         go_wp2_with (go_at_call 95;refine Hid.out ?_)
         refine hid ?_
         refine (Z7i Ap1 Ap2 q1.length q2'.length cp1 cp2 q1 q2' _ rfl rfl ((p1.out.2.2.ext yv).drewN _) ((p2.out.2.2.ext yv).drewN _) (by have:=b1.out.2.2;omega) (by have:=b2.out.2.2;omega)).mono ?_
         by_cases hp:q1=q2'
         ·subst hp
          rw [decide_eq_true rfl]
          rintro e v4 ⟨rfl,q4,rfl⟩
          have hw2:IntKind.i64.wrap ((i:Int)+1)=(i:Int)+1:=IntWalk.i64_in _ (by omega)
          go_wp2_with (fail)
          go_roundg (n-(i+1))
          case measure=>have:=HG.out;omega
          case rel=>exact ⟨i+1,by omega,rfl,by go_num,Z0C YV.out _,hid (by rw [←HI'.out];simp only [List.cons.injEq,true_and])⟩
         ·rw [decide_eq_false hp]
          rintro e v4 ⟨rfl,q4,rfl⟩
          have HP:=hid hp
          clear hp
          go_wp2_with (fail)
          go_ret
          exact ⟨Z0e (by rw [←HI'.out];exact (decide_eq_false fun e=>HP.out (Opd.mk.inj (List.cons.inj e).1).2.2.2.2).symm),Z0C YV.out _⟩
        ·rw [decide_eq_false hs]
         rintro e v3 ⟨rfl,q3,rfl⟩
         have HP:=hid hs
         clear hs
         go_wp2_with (fail)
         go_ret
         exact ⟨Z0e (by rw [←HI'.out];exact (decide_eq_false fun e=>HP.out (Opd.mk.inj (List.cons.inj e).1).2.2.2.1).symm),Z0C YV.out _⟩
       ·rw [decide_eq_false hr]
        rintro e v2 ⟨rfl,q2,rfl⟩
        have HP:=hid hr
        clear hr
        go_wp2_with (fail)
        go_ret
        exact ⟨Z0e (by rw [←HI'.out];exact (decide_eq_false fun e=>HP.out (Opd.mk.inj (List.cons.inj e).1).2.2.1).symm),Z0C YV.out _⟩
      ·have hnn:(n1 != n2)=true:=by simp [hn]
       have HP:=hid hn
       clear hn
       go_wp2_with (fail)
       go_ret
       exact ⟨Z0e (by rw [←HI'.out];exact (decide_eq_false fun e=>HP.out (Opd.mk.inj (List.cons.inj e).1).2.1).symm),YV.out⟩
     ·have hkk:(k1 != k2)=true:=by simp [hk]
      have HP:=hid hk
      clear hk
      go_wp2_with (fail)
      go_ret
      exact ⟨Z0e (by rw [←HI'.out];exact (decide_eq_false fun e=>HP.out (Opd.mk.inj (List.cons.inj e).1).1).symm),YV.out⟩
   ·have hlt':¬ (i:Int)<(n:Int):=by omega
    go_wp2_with (fail)
    go_ret
    exact ⟨Z0e (by rw [←HI.out,List.drop_eq_nil_of_le (by have:=N.out;omega),List.drop_eq_nil_of_le (by have:=M.out;omega)];rfl),y⟩
 ·have hne:((n:Int) != m)=true:=by simp [hnm]
  go_enter Tryz.func27,Tryz.ntmps27
  go_wp2_with (fail)
  go_ret
  refine ⟨Z0e ?_,Below.refl _ _⟩
  rw [←HR.out]
  refine (decide_eq_false fun e=>?_).symm
  have h3:=N.out
  have h4:=M.out
  have h5:=congrArg List.length e
  rw [HL.out,HL.out] at h5
  omega
theorem Y4h {w:World} {A B:Option Addr} {n c n2 c2:Nat} {x z:List OpS} (h1:OpsAt w A n x) (h2:OpsAt w B n2 z) {b:Bool} (hb:decide (osOf x=osOf z)=b) :
 Calls Tryz.prog 27 #[.slice A n c,.slice B n2 c2] w fun e w'=>e=.returned (.bool b)∧Below w.heap.size w w':=by
 have h:=Y2t A B n n2 c c2 x z w h1.len h2.len h1.rd h2.rd (by have:=h1.b;omega) (by have:=h2.b;omega) (fun o ho=>by obtain ⟨_,_,a,b,c⟩:=h1.ok o ho;omega) (fun o ho=>by obtain ⟨_,_,a,b,c⟩:=h2.ok o ho;omega)
 rw [hb] at h
 exact h
theorem Z5E {w:World} {A:Option Addr} {n c:Nat} {x:List OpS} (h:OpsAt w A n x) (hi:∀ o∈x,isOp o.o) (hz:szN x≤400000) (hs:∀ o∈x,o.o.s.length≤1000000∧o.o.p.length≤1000000) (hl:(Z0i (osOf x)).length≤4000000000) :
 Calls Tryz.prog 26 #[.slice A n c] w (Y6J (mkU (Z0i (osOf x))) w):=by
 have ht:=Z5A (osOf x) (fun o ho=>by obtain ⟨z,hz,rfl⟩:=List.mem_map.1 ho;exact hi z hz) hl
 refine (Z32 A n c x w h.len h.rd (by omega) hs).mono fun e w' hN=>hN.opC ht (fun u hu=>?_) (Z3M x hs) (by omega) (by omega)
 obtain ⟨o,ho,hu⟩:=Z1t.1 hu
 exact Z6r (h.ok o ho) u hu
end Go.Proofs.YtnmedachaeanbaaGreatDoor
