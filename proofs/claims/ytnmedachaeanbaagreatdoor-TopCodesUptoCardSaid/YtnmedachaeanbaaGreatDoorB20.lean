/- Merged texts. -/
import Derived.Test.YtnmedachaeanbaaGreatDoorB19
namespace Go.Proofs.YtnmedachaeanbaaGreatDoor
set_option maxRecDepth 100000
set_option maxHeartbeats 3200000
open Go.RowKit
open Go.Lib (hid Utf8Tabs)
set_option linter.unusedVariables false
set_option linter.unusedSimpArgs false
def Z2A (l:List Ky) (o:Opd):Bool:=
 if o.k=2∧0<o.s.length then
  !((decide (0<(Z1L l true o.s).length) || decide (0<nlR o.r))&&(decide ((Z1L l true o.s).length<o.s.length) || decide (nlR o.r<o.r.length)))
 else true
def Z2e (l:List Ky) (x:List OpS):Bool:=x.all (fun o=>Z2A l o.o)
theorem Y17 {l:List Ky} {x:List OpS} {m:Nat} {o:OpS} {R:Bool} (hd:x.drop m=o::x.drop (m+1)) (h:Z2e l (x.drop m)=R):(Z2A l o.o&&Z2e l (x.drop (m+1)))=R:=by
 rw [hd] at h;exact h
theorem Z9W (sc:Nat) (l:List Ky) (A:Option Addr) (n c:Nat) (x:List OpS) (w:World) (hn:n=x.length) (h:RdOp w w.heap.size A x) (hb:n≤140737488355328) (hS:Sch w sc l) (ho:∀ o∈x,okOp o.o) :
 Calls Tryz.prog 181 #[.pointer (some ⟨sc,0,none⟩),.slice A n c] w fun e w'=>e=.returned (.bool (Z2e l x))∧Below w.heap.size w w':=by
 have N:=hid hn
 generalize hR:Z2e l x=R
 have HR:=hid hR
 clear hn hR
 go_enter Tryz.func181,Tryz.ntmps181
 go_wp2_with (fail)
 go_loopg [11] n (fun g iv wr => ∃ (m:Nat),m≤n∧g=n-m∧iv=.int .i64 (m:Int)∧Below w.heap.size w wr∧Hid (Z2e l (x.drop m)=R))
 case atStart=>exact ⟨0,by omega,rfl,rfl,Below.refl _ _,hid (by rw [List.drop_zero];exact HR.out)⟩
 case round=>
  obtain ⟨m,hm,hg,rfl,y,HI⟩:=hrel
  have HG:=hid hg
  clear hg HR
  by_cases hlt:m<n
  ·have hl1:m<x.length:=by have:=N.out;omega
   obtain ⟨ad,o,had0,had,hd1,hx1,hc0⟩:=(h.1.below y (Nat.le_refl _)).el hl1
   subst had0
   have hmem:=List.mem_of_getElem? hx1
   obtain ⟨q1,q2,q3,q4,q5⟩:=ho o hmem
   obtain ⟨g1,g2,g3⟩:=h.2 o hmem
   have HI2:=hid (Y17 hd1 HI.out)
   obtain ⟨⟨k,nn,r,s,p⟩,Ar,cr,As,cs,Ap,cp⟩:=o
   obtain ⟨r0,r1,r2,r3,r4⟩:=Z0r hc0
   simp only at g1 g2 g3 q3 q4 q5
   have y2:=Z0a y (Z0b wr (.cells #[.int .u8 k,.int .i64 nn,.slice Ar r.length cr,.slice As s.length cs,.slice Ap p.length cp] 36))
   have hbx:=heap_alloc_new wr (.cells #[.int .u8 k,.int .i64 nn,.slice Ar r.length cr,.slice As s.length cs,.slice Ap p.length cp] 36)
   have hw2:IntKind.i64.wrap ((m:Int)+1)=(m:Int)+1:=IntWalk.i64_in _ (by omega)
   have HBX:=hid hbx
   clear hc0 hd1 hx1 hmem HI hbx
   by_cases hk:k=2
   ·subst hk
    by_cases hs:s.length=0
    ·have hs0:((s.length:Int)==0)=true:=by rw [hs];rfl
     have HP:Hid (Z2A l ⟨2,nn,r,s,p⟩=true):=hid (by unfold Z2A;rw [if_neg (by simp only;omega)])
     clear hs
     go_wp2_with (fail)
     go_roundg (n-(m+1))
     case measure=>have:=HG.out;omega
     case rel=>exact ⟨m+1,by omega,rfl,by go_num,y2,hid (by rw [←HI2.out,HP.out,Bool.true_and])⟩
    ·have hs0:((s.length:Int)==0)=false:=beq_eq_false_iff_ne.2 (fun e=>hs (by omega))
     obtain ⟨ns,hns⟩:∃ X,s.length=X:=⟨_,rfl⟩
     obtain ⟨nr,hnr⟩:∃ X,r.length=X:=⟨_,rfl⟩
     obtain ⟨np,hnp⟩:∃ X,p.length=X:=⟨_,rfl⟩
     have NS:=hid hns
     have NR:=hid hnr
     rw [hns] at r3 hs hs0 q4
     rw [hnr] at r2 q3
     rw [hnp] at r4
     rw [hns,hnr,hnp] at y2
     have HBX2:=HBX.out
     rw [hns,hnr,hnp] at HBX2
     have HBX:=hid HBX2
     clear hns hnr hnp HBX2
     go_wp2_with (fail)
     obtain ⟨B,hB⟩:∃ X,wr.heap.size=X:=⟨_,rfl⟩
     rw [hB] at HBX ⊢
     generalize wr.alloc (.cells #[.int .u8 2,.int .i64 nn,.slice Ar nr cr,.slice As ns cs,.slice Ap np cp] 36)=w5 at *
     have hS5:=hS.ext y2
     have ha5:=g2.ext y2
     have hr5:=g1.ext y2
     obtain ⟨c0,c1,c2,c3,c4⟩:=Z0x HBX.out
     have hBl:=Z0c HBX.out
     have yd:Below w5.heap.size w5 w5.drew:=(Below.refl _ _).drew
     have hS6:=hS5.ext yd
     have ha6:=ha5.ext yd
     have hr6:=hr5.ext yd
     have HBX6:=hid ((yd.block B hBl).trans HBX.out)
     have hBl6:=Z0c HBX6.out
     clear r0 r1 r2 r3 r4 c0 c1 c4
     go_region_held3 (fun w'=>w'.cell? ⟨B,2,none⟩=some (.slice Ar nr cr)∧w'.cell? ⟨B,3,none⟩=some (.slice As ns cs))
      (go_keep) (first
       | (go_at_call 55
          with_reducible refine (Z8I sc l true As ns cs s w5.drew NS.out.symm ha6 q4 hS6).mono ?_
          rintro e w6 ⟨A2,c2',rfl,ho2,y6⟩
          obtain ⟨f0,f1,f2,f3,f4⟩:=Z0x ((y6.block B hBl6).trans HBX6.out))
       | (go_at_call 259
          with_reducible refine (Z47 Ar nr cr r w5.drew NR.out.symm hr6 (by omega)).mono ?_
          rintro e w6 ⟨rfl,rfl⟩)
       | (go_at_call 259
          with_reducible refine (Z47 Ar nr cr r w6 NR.out.symm (hr6.ext y6) (by omega)).mono ?_
          rintro e w7 ⟨rfl,rfl⟩))
     all_goals
      have yy:=Z0a y2 (Z0a yd y6)
      have HV:Hid (Z2A l ⟨2,nn,r,s,p⟩ = !((decide (0<(Z1L l true s).length) || decide (0<nlR r))&&(decide ((Z1L l true s).length<ns) || decide (nlR r<nr)))):=hid (by
       unfold Z2A
       rw [if_pos (show (2:Int)=2∧0<s.length from ⟨rfl,by have:=NS.out;omega⟩)]
       simp only [NS.out,NR.out])
      generalize (Z1L l true s).length=nb at *
      generalize nlR r=nl at *
      clear ho2 f0 f1 f4
      by_cases t1:(0:Int)<(nb:Int)
      ·have t1':0<nb:=by omega
       by_cases t3:(nb:Int)<(ns:Int)
       ·have t3':nb<ns:=by omega
        go_wp2_with (fail)
        go_ret
        exact ⟨Z0e (by rw [←HI2.out,HV.out];simp [t1',t3']),yy⟩
       by_cases t4:(nl:Int)<(nr:Int)
       ·have t4':nl<nr:=by omega
        go_wp2_with (fail)
        go_ret
        exact ⟨Z0e (by rw [←HI2.out,HV.out];simp [t1',t4']),yy⟩
       have t3':¬ nb<ns:=by omega
       have t4':¬ nl<nr:=by omega
       go_wp2_with (fail)
       go_roundg (n-(m+1))
       case measure=>have:=HG.out;omega
       case rel=>exact ⟨m+1,by omega,rfl,by go_num,yy,hid (by rw [←HI2.out,HV.out];simp [t3',t4'])⟩
      by_cases t2:(0:Int)<(nl:Int)
      ·have t2':0<nl:=by omega
       have t3:(nb:Int)<(ns:Int):=by omega
       have t3':nb<ns:=by omega
       go_wp2_with (fail)
       go_ret
       exact ⟨Z0e (by rw [←HI2.out,HV.out];simp [t2',t3']),yy⟩
      have t1':nb=0:=by omega
      have t2':nl=0:=by omega
      go_wp2_with (fail)
      go_roundg (n-(m+1))
      case measure=>have:=HG.out;omega
      case rel=>exact ⟨m+1,by omega,rfl,by go_num,yy,hid (by rw [←HI2.out,HV.out];simp [t1',t2'])⟩
   ·have hb2:(k==2)=false:=beq_eq_false_iff_ne.2 hk
    have HP:Hid (Z2A l ⟨k,nn,r,s,p⟩=true):=hid (by unfold Z2A;rw [if_neg (by simp only;omega)])
    clear hk
    go_wp2_with (fail)
    go_roundg (n-(m+1))
    case measure=>have:=HG.out;omega
    case rel=>exact ⟨m+1,by omega,rfl,by go_num,y2,hid (by rw [←HI2.out,HP.out,Bool.true_and])⟩
  ·go_wp2_with (fail)
   go_ret
   refine ⟨Z0e ?_,y⟩
   rw [←HI.out,List.drop_eq_nil_of_le (by have:=N.out;omega)]
   rfl
def Z4N (n:Int) (x:List OpS):Int:=IntKind.i64.wrap (IntKind.i64.wrap (n-Z0W x)+Z04 x)
def Z3A (l:List Ky) (x:List OpS) (n most:Int):Int:=
 if ¬ mayO l x=0 then mayO l x
 else if n<1∨most<n∨n<Z0W x then 5
 else if Z3q n x=false then 6
 else if Z2e l x=false then 7
 else if most<Z4N n x then 8 else 0
theorem Y3C (sc:Nat) (l:List Ky) (A:Option Addr) (n c:Nat) (x:List OpS) (lim most:Int) (w:World) (hn:n=x.length) (h:RdOp w w.heap.size A x) (hb:n≤140737488355328) (hS:Sch w sc l) (ho:∀ o∈x,okOp o.o) (hT:Utf8Tabs 0 1 w) :
 Calls Tryz.prog 96 #[.pointer (some ⟨sc,0,none⟩),.slice A n c,.int .i64 lim,.int .i64 most] w fun e w'=>e=.returned (.int .i64 (Z3A l x lim most))∧Below w.heap.size w w':=by
 have N:=hid hn
 obtain ⟨R,hR⟩:∃ X,Z3A l x lim most=X:=⟨_,rfl⟩
 rw [hR]
 unfold Z3A at hR
 have HR:=hid hR
 clear hn hR
 have y:=Below.refl w.heap.size w
 go_enter Tryz.func96,Tryz.ntmps96
 go_wp2_with (go_at_call 86;refine Hid.out ?_)
 refine hid ?_
 refine (Z5v sc l A n c x w N.out h hb hS ho hT).mono ?_
 rintro e w1 ⟨rfl,y1⟩
 replace y:=Z0a y y1
 clear y1
 generalize mayO l x=E at HR ⊢
 by_cases hE:E=0
 rotate_left
 ·have hne:(E==0)=false:=beq_eq_false_iff_ne.2 hE
  have HE:Hid (E=R):=hid (by rw [←HR.out,if_pos hE])
  clear hE
  go_wp2_with (fail)
  go_ret
  exact ⟨Z0k HE.out,y⟩
 subst hE
 have HR2:Hid ((if lim<1∨most<lim∨lim<Z0W x then 5 else if Z3q lim x=false then 6 else if Z2e l x=false then 7 else if most<Z4N lim x then 8 else 0)=R):=hid (by rw [←HR.out,if_neg (show ¬ ¬ ((0:Int)=0) by simp)])
 clear HR
 by_cases h1:lim<1
 ·go_wp2_with (fail)
  go_ret
  exact ⟨Z0k (by rw [←HR2.out,if_pos (.inl h1)]),y⟩
 by_cases h2:most<lim
 ·go_wp2_with (fail)
  go_ret
  exact ⟨Z0k (by rw [←HR2.out,if_pos (.inr (.inl h2))]),y⟩
 go_wp2_with (go_at_call 81;refine Hid.out ?_)
 refine hid ?_
 refine (Z5Y A n c x _ N.out (h.ext y).1 hb).mono ?_
 rintro e w2 ⟨rfl,y1⟩
 replace y:=Z0a y y1
 clear y1
 obtain ⟨T,hT'⟩:∃ X,Z0W x=X:=⟨_,rfl⟩
 rw [hT'] at HR2 ⊢
 have HTK:=hid hT'
 clear hT'
 by_cases h3:lim<T
 ·go_wp2_with (fail)
  go_ret
  exact ⟨Z0k (by rw [←HR2.out,if_pos (.inr (.inr h3))]),y⟩
 have HR3:Hid ((if Z3q lim x=false then 6 else if Z2e l x=false then 7 else if most<Z4N lim x then 8 else 0)=R):=hid (by rw [←HR2.out,if_neg (show ¬ (lim<1∨most<lim∨lim<T) by omega)])
 clear HR2
 go_wp2_with (go_at_call 180;refine Hid.out ?_)
 refine hid ?_
 refine (Y2Y A n c x lim _ N.out (h.ext y).1 hb).mono ?_
 rintro e w3 ⟨rfl,y1⟩
 replace y:=Z0a y y1
 clear y1
 generalize Z3q lim x=F at HR3 ⊢
 cases F with
 | false=>
   go_wp2_with (fail)
   go_ret
   exact ⟨Z0k (by rw [←HR3.out];simp),y⟩
 | true=>
   have HR4:Hid ((if Z2e l x=false then 7 else if most<Z4N lim x then 8 else 0)=R):=hid (by rw [←HR3.out,if_neg (show ¬ (true=false) by simp)])
   clear HR3
   go_wp2_with (go_at_call 181;refine Hid.out ?_)
   refine hid ?_
   refine (Z9W sc l A n c x _ N.out (h.ext y) hb (hS.ext y) ho).mono ?_
   rintro e w4 ⟨rfl,y1⟩
   replace y:=Z0a y y1
   clear y1
   generalize Z2e l x=G at HR4 ⊢
   cases G with
   | false=>
     go_wp2_with (fail)
     go_ret
     exact ⟨Z0k (by rw [←HR4.out];simp),y⟩
   | true=>
     have HR5:Hid ((if most<Z4N lim x then 8 else 0)=R):=hid (by rw [←HR4.out,if_neg (show ¬ (true=false) by simp)])
     clear HR4
     go_wp2_with (go_at_call 81;refine Hid.out ?_)
     refine hid ?_
     refine (Z5Y A n c x _ N.out (h.ext y).1 hb).mono ?_
     rintro e w5 ⟨rfl,y1⟩
     replace y:=Z0a y y1
     clear y1
     rw [HTK.out]
     obtain ⟨D,hD⟩:∃ D,IntKind.i64.wrap (lim-T)=D:=⟨_,rfl⟩
     go_wp2_with (go_at_call 82;refine Hid.out ?_)
     refine hid ?_
     refine (Z8l A n c x _ N.out (h.ext y).1 hb).mono ?_
     rintro e w6 ⟨rfl,y1⟩
     replace y:=Z0a y y1
     clear y1
     obtain ⟨U,hU⟩:∃ X,Z04 x=X:=⟨_,rfl⟩
     rw [hU]
     obtain ⟨G,hG⟩:∃ G,IntKind.i64.wrap (D+U)=G:=⟨_,rfl⟩
     have HLO:Hid (Z4N lim x=G):=hid (by unfold Z4N;rw [HTK.out,hD,hU,hG])
     clear hU
     by_cases h5:most<G
     ·go_wp2_with (fail)
      go_ret
      exact ⟨Z0k (by rw [←HR5.out,HLO.out,if_pos h5]),y⟩
     ·go_wp2_with (fail)
      go_ret
      exact ⟨Z0k (by rw [←HR5.out,HLO.out,if_neg (show ¬ most<G by omega)]),y⟩
def goodO (l:List Ky) (x:List OpS):Prop := ∀ o∈x,oneP l o.o=0
theorem goodO.tail {l:List Ky} {o:OpS} {x:List OpS} (h:goodO l (o::x)):goodO l x:=fun z hz=>h z (List.mem_cons_of_mem _ hz)
theorem Y0Y {l:List Ky}:∀ (x:List OpS) (a:Int),(x.foldl (Z0z l) (false,a)).1=false→(x.foldl (Z0z l) (false,a)).2=0→a=0∧goodO l x
 | [],a,_,h=>⟨h,fun z hz=>by cases hz⟩
 | o::x,a,h1,h2=>by
   rw [List.foldl_cons] at h1 h2
   unfold Z0z at h1 h2
   simp only [Bool.false_eq_true,if_false] at h1 h2
   by_cases h3:oneP l o.o=3
   ·rw [if_pos h3] at h1
    have:=Z1T l 3 x
    unfold Z0z at this
    rw [this] at h1;cases h1
   ·rw [if_neg h3] at h1 h2
    obtain ⟨h4,h5⟩:=Y0Y x _ h1 h2
    by_cases h0:oneP l o.o=0
    ·rw [if_pos h0] at h4
     refine ⟨h4,fun z hz=>?_⟩
     rcases List.mem_cons.1 hz with rfl|hz
     ·exact h0
     ·exact h5 z hz
    ·rw [if_neg h0] at h4;exact absurd h4 h0
theorem Y0Z {l:List Ky}:∀ (x:List OpS),goodO l x→x.foldl (Z0z l) (false,0)=(false,0)
 | [],_=>rfl
 | o::x,h=>by
   rw [List.foldl_cons]
   have h0:=h o (by simp)
   have:Z0z l (false,0) o=(false,0):=by unfold Z0z;simp [h0]
   rw [this]
   exact Y0Z x h.tail
theorem Z1s {l:List Ky} {x:List OpS} (h:mayO l x=0):goodO l x∧Z0W x≤536870912∧Z04 x≤536870912:=by
 unfold mayO at h
 cases h1:(x.foldl (Z0z l) (false,0)).1 with
 | true=>rw [h1] at h;simp at h
 | false=>
   rw [h1] at h
   simp only [Bool.false_eq_true,if_false] at h
   by_cases h2:Z0W x≤536870912∧Z04 x≤536870912
   ·rw [if_pos h2] at h;exact ⟨(Y0Y x 0 h1 h).2,h2⟩
   ·rw [if_neg h2] at h;cases h
theorem Z8J {l:List Ky} {x:List OpS} (h:goodO l x) (h1:Z0W x≤536870912) (h2:Z04 x≤536870912):mayO l x=0:=by
 unfold mayO
 rw [Y0Z x h]
 simp [h1,h2]
def tkI (o:Opd):Int:=if o.k=2 then 0 else o.n
def mkI (o:Opd):Int:=if o.k=3 then 0 else Z07 o
def sumT:List OpS→Int
 | []=>0
 | o::x=>tkI o.o+sumT x
def sumM:List OpS→Int
 | []=>0
 | o::x=>mkI o.o+sumM x
theorem Z1U {l:List Ky} {o:Opd} (h:oneP l o=0):Z1J o=true∧1≤Z07 o∧Z07 o≤536870912∧mayS l o.s=0∧mayP l o.p=0:=by
 unfold oneP at h
 by_cases h1:Z1J o=true∧1≤Z07 o∧Z07 o≤536870912
 ·rw [if_pos h1] at h
  by_cases h2:mayS l o.s=0
  ·rw [if_pos h2] at h;exact ⟨h1.1,h1.2.1,h1.2.2,h2,h⟩
  ·rw [if_neg h2] at h;exact absurd h h2
 ·rw [if_neg h1] at h;cases h
theorem Y18 {o:Opd} (h:Z1J o=true):o.k=1∨o.k=2∨o.k=3:=by
 unfold Z1J at h
 by_cases h1:o.k=1
 ·exact .inl h1
 rw [if_neg h1] at h
 by_cases h3:o.k=3
 ·exact .inr (.inr h3)
 rw [if_neg h3] at h
 by_cases h2:o.k=2
 ·exact .inr (.inl h2)
 rw [if_neg h2] at h;cases h
theorem Y00 {l:List Ky} {o:Opd} (h:oneP l o=0):(o.k=2∧tkI o=0∧1≤mkI o∧mkI o≤536870912)∨(o.k=3∧tkI o=o.n∧1≤o.n∧o.n≤536870912∧mkI o=0)∨(o.k=1∧tkI o=o.n∧1≤o.n∧o.n≤536870912∧mkI o=o.n):=by
 obtain ⟨f,h1,h2,_,_⟩:=Z1U h
 unfold tkI mkI
 unfold Z07 at *
 rcases Y18 f with hk|hk|hk<;>rw [hk] at h1 h2 ⊢ <;> simp at h1 h2 ⊢ <;> omega
theorem sums {l:List Ky}:∀ (x:List OpS),goodO l x→0≤sumT x∧sumT x≤536870912*(x.length:Int)∧0≤sumM x∧sumM x≤536870912*(x.length:Int)
 | [],_=>by simp [sumT,sumM]
 | o::x,h=>by
   obtain ⟨a,b,c,d⟩:=sums x h.tail
   have:=Y00 (h o (by simp))
   simp only [sumT,sumM,List.length_cons]
   push_cast
   omega
theorem Y6C {l:List Ky}:∀ (x:List OpS) (a:Int),goodO l x→0≤a→a+536870912*(x.length:Int)≤4611686018427387904→x.foldl Z1m a=a+sumT x
 | [],a,_,_,_=>by simp [sumT]
 | o::x,a,h,h0,hb=>by
   have hk:=Y00 (h o (by simp))
   simp only [List.length_cons] at hb
   push_cast at hb
   have e:Z1m a o=a+tkI o.o:=by
    unfold Z1m
    by_cases h2:o.o.k=2
    ·rw [if_pos h2];unfold tkI;rw [if_pos h2];omega
    ·rw [if_neg h2];unfold tkI;rw [if_neg h2];exact IntWalk.i64_in _ (by omega)
   rw [List.foldl_cons,e,Y6C x _ h.tail (by omega) (by omega)]
   simp only [sumT];omega
theorem Y6D {l:List Ky}:∀ (x:List OpS) (a:Int),goodO l x→0≤a→a+536870912*(x.length:Int)≤4611686018427387904→x.foldl Z1O a=a+sumM x
 | [],a,_,_,_=>by simp [sumM]
 | o::x,a,h,h0,hb=>by
   have hk:=Y00 (h o (by simp))
   have hs:=(Z1U (h o (by simp))).2
   simp only [List.length_cons] at hb
   push_cast at hb
   have e:Z1O a o=a+mkI o.o:=by
    unfold Z1O
    by_cases h2:o.o.k=3
    ·rw [if_pos h2];unfold mkI;rw [if_pos h2];omega
    ·rw [if_neg h2];unfold mkI;rw [if_neg h2];exact IntWalk.i64_in _ (by omega)
   rw [List.foldl_cons,e,Y6D x _ h.tail (by omega) (by omega)]
   simp only [sumM];omega
theorem Z1V {l:List Ky} {x:List OpS} (h:goodO l x) (hb:x.length≤1048576):Z0W x=sumT x:=by
 unfold Z0W;rw [Y6C x 0 h (by omega) (by omega)];omega
theorem Z2f {l:List Ky} {x:List OpS} (h:goodO l x) (hb:x.length≤1048576):Z04 x=sumM x:=by
 unfold Z04;rw [Y6D x 0 h (by omega) (by omega)];omega
def finR (n:Int):Int→List OpS→Bool
 | _,[]=>true
 | a,o::x=>if o.o.k=2 then (decide (¬ a=n)&&finR n a x) else if o.o.k=3∧a+o.o.n=n then false else finR n (a+o.o.n) x
theorem Z7S {l:List Ky} (n:Int):∀ (x:List OpS) (a:Int),goodO l x→0≤a→a+536870912*(x.length:Int)≤4611686018427387904→(x.foldl (Z0S n) (true,a)).1=finR n a x
 | [],a,_,_,_=>rfl
 | o::x,a,h,h0,hb=>by
   have hk:=Y00 (h o (by simp))
   simp only [List.length_cons] at hb
   push_cast at hb
   rw [List.foldl_cons]
   unfold Z0S finR
   simp only [Bool.true_eq_false,if_false]
   by_cases h2:o.o.k=2
   ·rw [if_pos h2,if_pos h2]
    by_cases ha:a=n
    ·have:=Z2a n a x
     unfold Z0S at this
     simp only [ha] at this ⊢
     simp only [not_true_eq_false,decide_false,Bool.false_and]
     rw [this]
    ·simp only [ha,not_false_eq_true,decide_true,Bool.true_and]
     exact Z7S n x a h.tail h0 (by omega)
   ·have e:IntKind.i64.wrap (a+o.o.n)=a+o.o.n:=IntWalk.i64_in _ (by omega)
    rw [if_neg h2,if_neg h2,e]
    by_cases h3:o.o.k=3∧a+o.o.n=n
    ·rw [if_pos h3,if_pos h3]
     have:=Z2a n a x
     unfold Z0S at this
     rw [this]
    ·rw [if_neg h3,if_neg h3]
     exact Z7S n x _ h.tail (by omega) (by omega)
theorem Y3D {l:List Ky} {x:List OpS} (n:Int) (h:goodO l x) (hb:x.length≤1048576):Z3q n x=finR n 0 x:=by
 unfold Z3q;exact Z7S n x 0 h (by omega) (by omega)
theorem Z7T {l:List Ky} {x:List OpS} {n:Int} (h:goodO l x) (hb:x.length≤1048576) (h0:0≤n) (h1:n≤4294967296) (ht:Z0W x≤536870912) (hm:Z04 x≤536870912):Z4N n x=n-sumT x+sumM x:=by
 have hs:=sums x h
 have et:=Z1V h hb
 have em:=Z2f h hb
 unfold Z4N
 rw [et] at ht ⊢
 rw [em] at hm ⊢
 rw [IntWalk.i64_in (n-sumT x) (by omega),IntWalk.i64_in _ (by omega)]
theorem Z2g {l:List Ky} {x:List OpS} {n most:Int} (h:Z3A l x n most=0):mayO l x=0∧1≤n∧n≤most∧Z0W x≤n∧Z3q n x=true∧Z2e l x=true∧Z4N n x≤most:=by
 unfold Z3A at h
 by_cases h1:¬ mayO l x=0
 ·rw [if_pos h1] at h;exact absurd h h1
 rw [if_neg h1] at h
 by_cases h2:n<1∨most<n∨n<Z0W x
 ·rw [if_pos h2] at h;cases h
 rw [if_neg h2] at h
 by_cases h3:Z3q n x=false
 ·rw [if_pos h3] at h;cases h
 rw [if_neg h3] at h
 by_cases h4:Z2e l x=false
 ·rw [if_pos h4] at h;cases h
 rw [if_neg h4] at h
 by_cases h5:most<Z4N n x
 ·rw [if_pos h5] at h;cases h
 exact ⟨by omega,by omega,by omega,by omega,by simpa using h3,by simpa using h4,by omega⟩
theorem Z6n {l:List Ky} {x:List OpS} {n most:Int} (h1:mayO l x=0) (h2:1≤n) (h3:n≤most) (h4:Z0W x≤n) (h5:Z3q n x=true) (h6:Z2e l x=true) (h7:Z4N n x≤most):Z3A l x n most=0:=by
 unfold Z3A
 rw [if_neg (by simp [h1]),if_neg (by omega),if_neg (by simp [h5]),if_neg (by simp [h6]),if_neg (by omega)]
def okCl (l:List Ky) (c:Cl):Prop:=mayR c.r=true∧mayS l c.s=0∧Z1L l (!(c.r==10)) c.s=[]
def vU (l:List Ky):Un→Prop
 | .ins r s=>okCl l ⟨r,s⟩
 | .del=>True
 | .ret p=>mayP l p=0
def mU (l:List Ky):Un→Prop
 | .ins r s=>mayR r=true∧mayS l s=0
 | .del=>True
 | .ret p=>mayP l p=0
def finU (n:Nat):Nat→List Un→Bool
 | _,[]=>true
 | a,.ins _ _::us=>decide (a≠n)&&finU n a us
 | a,.del::us=>decide (a+1≠n)&&finU n (a+1) us
 | a,.ret _::us=>finU n (a+1) us
theorem Z1x (n:Nat):∀ (us vs:List Un) (a:Nat),finU n a (us++vs)=(finU n a us&&finU n (a+Z0j us) vs)
 | [],vs,a=>by simp [finU,Z0j]
 | .ins r s::us,vs,a=>by show (decide (a≠n)&&finU n a (us++vs))=_;rw [Z1x n us vs a,Z2z,finU,Bool.and_assoc]
 | .del::us,vs,a=>by
   show (decide (a+1≠n)&&finU n (a+1) (us++vs))=_
   rw [Z1x n us vs (a+1),Z2y,finU,Bool.and_assoc]
   congr 3;omega
 | .ret p::us,vs,a=>by
   show finU n (a+1) (us++vs)=_
   rw [Z1x n us vs (a+1),Z1H,finU]
   congr 2;omega
theorem Z3B {l:List Ky} {o:Opd} (h:oneP l o=0):isOp o:=by
 obtain ⟨h1,h2,h3,h4,h5⟩:=Z1U h
 obtain ⟨k,n,r,s,p⟩:=o
 unfold Z1J at h1
 unfold Z07 at h2
 simp only at h1 h2
 by_cases k1:k=1
 ·subst k1
  rw [if_pos rfl] at h1
  have:=of_decide_eq_true h1
  rw [if_neg (by decide)] at h2
  exact .inr (.inr ⟨rfl,h2,List.eq_nil_of_length_eq_zero this.1,List.eq_nil_of_length_eq_zero this.2⟩)
 ·rw [if_neg k1] at h1
  by_cases k3:k=3
  ·subst k3
   rw [if_pos rfl] at h1
   have:=of_decide_eq_true h1
   rw [if_neg (by decide)] at h2
   exact .inr (.inl ⟨rfl,h2,List.eq_nil_of_length_eq_zero this.1.1,List.eq_nil_of_length_eq_zero this.1.2,List.eq_nil_of_length_eq_zero this.2⟩)
  ·rw [if_neg k3] at h1
   by_cases k2:k=2
   ·subst k2
    rw [if_pos rfl] at h1 h2
    have:=of_decide_eq_true (Bool.and_eq_true_iff.1 h1).1
    exact .inl ⟨rfl,this.1,by intro e;simp only at e;subst e;simp at h2,List.eq_nil_of_length_eq_zero this.2⟩
   ·rw [if_neg k2] at h1;cases h1
theorem Z7U {l:List Ky} {o:Opd} (h:oneP l o=0) (hk:o.k=2):∀ r∈o.r,mayR r=true:=by
 obtain ⟨h1,_⟩:=Z1U h
 unfold Z1J at h1
 rw [if_neg (by rw [hk];decide),if_neg (by rw [hk];decide),if_pos hk] at h1
 have:=(Bool.and_eq_true_iff.1 h1).2
 intro r hr
 rw [Bool.not_eq_true',List.any_eq_false] at this
 simpa using this r hr
theorem Z9X {l:List Ky} {o:Opd}:oneP l o=0↔isOp o∧Z07 o≤536870912∧∀ u∈Z0l o,mU l u:=by
 constructor
 ·intro h
  obtain ⟨h1,h2,h3,h4,h5⟩:=Z1U h
  refine ⟨Z3B h,h3,fun u hu=>?_⟩
  rcases Z0H (Z3B h) with hk|hk|hk
  ·unfold Z0l at hu
   rw [if_pos hk] at hu
   obtain ⟨r,hr,rfl⟩:=List.mem_map.1 hu
   exact ⟨Z7U h hk r hr,h4⟩
  ·unfold Z0l at hu
   rw [if_neg (by rw [hk];decide),if_neg (by rw [hk];decide)] at hu
   rw [(List.mem_replicate.1 hu).2];trivial
  ·unfold Z0l at hu
   rw [if_neg (by rw [hk];decide),if_pos hk] at hu
   rw [(List.mem_replicate.1 hu).2];exact h5
 ·rintro ⟨h1,h2,h3⟩
  have m0:mayS l []=0:=by simp [mayS,Z4b,rise]
  have p0:mayP l []=0:=by simp [mayP,Z3Y,rise]
  rcases Z0H h1 with hk|hk|hk
  ·obtain ⟨e,hr⟩:=Z10 h1 hk
   obtain ⟨k,n,r,s,p⟩:=o
   rw [e] at h2 h3 ⊢
   simp only at hr
   have hu:∀ x∈r,mayR x=true∧mayS l s=0:=fun x hx=>h3 (.ins x s) (by rw [Z1P];exact List.mem_map.2 ⟨x,hx,rfl⟩)
   obtain ⟨x,hx⟩:=List.exists_mem_of_ne_nil r hr
   have hform:Z1J (opI r s)=true:=by
    have hany:r.any (fun r => !mayR r)=false:=List.any_eq_false.2 (fun y hy=>by simp [(hu y hy).1])
    show (if (2:Int)=1 then _ else if (2:Int)=3 then _ else if (2:Int)=2 then (decide ((0:Int)=0∧([]:List Ch).length=0) && !r.any (fun r => !mayR r)) else false)=true
    rw [if_neg (by decide),if_neg (by decide),if_pos rfl,hany]
    rfl
   have hsz:1≤Z07 (opI r s):=by
    show 1≤(if (2:Int)=2 then (r.length:Int) else 0)
    rw [if_pos rfl]
    have:r.length≠0:=fun h0=>hr (List.eq_nil_of_length_eq_zero h0)
    omega
   unfold oneP
   rw [if_pos ⟨hform,hsz,h2⟩,if_pos (show mayS l (opI r s).s=0 from (hu x hx).2)]
   exact p0
  ·obtain ⟨e,hn⟩:=Z3e h1 hk
   obtain ⟨k,n,r,s,p⟩:=o
   simp only at hn
   rw [e] at h2 ⊢
   unfold oneP
   rw [if_pos ⟨by simp [Z1J,opD],by unfold Z07 opD;simp only;rw [if_neg (by decide)];exact hn,h2⟩,if_pos (show mayS l (opD n).s=0 from m0)]
   exact p0
  ·obtain ⟨e,hn⟩:=Z2t h1 hk
   obtain ⟨k,n,r,s,p⟩:=o
   simp only at hn
   rw [e] at h2 h3 ⊢
   have hp:mayP l p=0:=h3 (.ret p) (by
    rw [Z1F]
    simp only at hn ⊢
    exact List.mem_replicate.2 ⟨by omega,rfl⟩)
   unfold oneP
   rw [if_pos ⟨by simp [Z1J,opR],by unfold Z07 opR;simp only;rw [if_neg (by decide)];exact hn,h2⟩,if_pos (show mayS l (opR n p).s=0 from m0)]
   exact hp
theorem Z6o {o:Opd} (h:isOp o):(Z0j (Z0l o):Int)=tkI o∧(Z0q (Z0l o):Int)=mkI o:=by
 have hi:∀ (r:List Int) (s:List At),Z0j (r.map (fun r=>Un.ins r s))=0∧Z0q (r.map (fun r=>Un.ins r s))=r.length:=by
  intro r s
  induction r with
  | nil=>exact ⟨rfl,rfl⟩
  | cons a r ih=>exact ⟨ih.1,by show Z0q _+1=_;rw [ih.2];rfl⟩
 have hr:∀ (k:Nat) (p:List Ch),Z0j (List.replicate k (.ret p))=k∧Z0q (List.replicate k (.ret p))=k:=by
  intro k p
  induction k with
  | zero=>exact ⟨rfl,rfl⟩
  | succ k ih=>rw [List.replicate_succ];exact ⟨by rw [Z1H,ih.1],by rw [Z4l,ih.2]⟩
 rcases Z0H h with hk|hk|hk
 ·obtain ⟨e,hr⟩:=Z10 h hk
  rw [e,Z1P]
  exact ⟨by rw [(hi _ _).1];rfl,by rw [(hi _ _).2];rfl⟩
 ·obtain ⟨e,hn⟩:=Z3e h hk
  rw [e,Z3K,Z2L,Z4J]
  exact ⟨by show ((o.n.toNat:Nat):Int)=o.n;omega,rfl⟩
 ·obtain ⟨e,hn⟩:=Z2t h hk
  rw [e,Z1F,(hr _ _).1,(hr _ _).2]
  exact ⟨by show ((o.n.toNat:Nat):Int)=o.n;omega,by show ((o.n.toNat:Nat):Int)=o.n;omega⟩
theorem Z1A:∀ (x:List OpS),(∀ o∈x,isOp o.o)→(Z0j (Z0i (osOf x)):Int)=sumT x∧(Z0q (Z0i (osOf x)):Int)=sumM x
 | [],_=>⟨rfl,rfl⟩
 | o::x,h=>by
   obtain ⟨h1,h2⟩:=Z1A x (fun z hz=>h z (List.mem_cons_of_mem _ hz))
   obtain ⟨g1,g2⟩:=Z6o (h o (by simp))
   show ((Z0j (Z0i (o.o::osOf x)):Nat):Int)=tkI o.o+sumT x∧((Z0q (Z0i (o.o::osOf x)):Nat):Int)=mkI o.o+sumM x
   rw [Z1e,Z0K,Z0V]
   omega
theorem Z03 {l:List Ky} {x:List OpS} (h:goodO l x):∀ o∈x,isOp o.o:=fun o ho=>Z3B (h o ho)
theorem Z1t {x:List OpS} {u:Un}:u∈Z0i (osOf x)↔∃ o∈x,u∈Z0l o.o:=by
 unfold Z0i osOf
 rw [List.mem_flatMap]
 constructor
 ·rintro ⟨a,ha,hu⟩;obtain ⟨o,ho,rfl⟩:=List.mem_map.1 ha;exact ⟨o,ho,hu⟩
 ·rintro ⟨o,ho,hu⟩;exact ⟨o.o,List.mem_map.2 ⟨o,ho,rfl⟩,hu⟩
theorem Y3E (n k:Nat) (p:List Ch):∀ a,finU n a (List.replicate k (.ret p))=true:=by
 induction k with
 | zero=>intro a;rfl
 | succ k ih=>intro a;rw [List.replicate_succ,finU];exact ih _
theorem Z8K (n:Nat):∀ (k a:Nat),a+(k+1)≤n→(finU n a (List.replicate (k+1) .del)=decide (a+(k+1)≠n)):=by
 intro k
 induction k with
 | zero=>intro a _;simp [finU]
 | succ k ih=>
   intro a h
   rw [List.replicate_succ]
   show (decide (a+1≠n)&&finU n (a+1) (List.replicate (k+1) .del))=_
   rw [ih (a+1) (by omega)]
   have h1:decide (a+1≠n)=true:=decide_eq_true (by omega)
   rw [h1,Bool.true_and,show a+1+(k+1)=a+(k+1+1) by omega]
theorem Y3F (n:Nat) (r:List Int) (s:List At):∀ a,r≠[]→finU n a (r.map (fun r=>Un.ins r s))=decide (a≠n):=by
 intro a h
 induction r with
 | nil=>exact absurd rfl h
 | cons b r ih=>
   show (decide (a≠n)&&finU n a (r.map _))=_
   cases r with
   | nil=>simp [finU]
   | cons c r=>rw [ih (by simp)];simp
theorem Z2P {l:List Ky} (n:Nat):∀ (x:List OpS) (a:Nat),goodO l x→(a:Int)+sumT x≤n→finR n a x=finU n a (Z0i (osOf x))
 | [],a,_,_=>rfl
 | o::x,a,h,hb=>by
   have ho:=Z3B (h o (by simp))
   have ht:=h.tail
   obtain ⟨s1,_⟩:=Z1A x (Z03 ht)
   obtain ⟨t1,t2⟩:=Z6o ho
   simp only [sumT] at hb
   have e:Z0i (osOf (o::x))=Z0l o.o++Z0i (osOf x):=rfl
   rw [e,Z1x]
   unfold finR
   rcases Z0H ho with hk|hk|hk
   ·obtain ⟨eo,hr⟩:=Z10 ho hk
    have hz:tkI o.o=0:=by unfold tkI;rw [if_pos hk]
    rw [if_pos hk]
    have hu:finU n a (Z0l o.o)=decide (a≠n):=by rw [eo,Z1P];exact Y3F n _ _ a hr
    have hta:Z0j (Z0l o.o)=0:=by omega
    rw [hu,hta,Nat.add_zero,Z2P n x a ht (by omega)]
    congr 2
    exact propext ⟨fun e h=>e (by omega),fun e h=>e (by omega)⟩
   ·obtain ⟨eo,hn⟩:=Z3e ho hk
    have hz:tkI o.o=o.o.n:=by unfold tkI;rw [if_neg (by rw [hk];decide)]
    rw [if_neg (by rw [hk];decide)]
    have hta:(Z0j (Z0l o.o):Int)=o.o.n:=by rw [t1,hz]
    obtain ⟨k,hk2⟩:∃ k:Nat,o.o.n.toNat=k+1:=⟨o.o.n.toNat-1,by omega⟩
    have hu:finU n a (Z0l o.o)=decide (a+(k+1)≠n):=by rw [eo,Z3K,hk2];exact Z8K n k a (by omega)
    rw [hu]
    by_cases hl:o.o.k=3∧(a:Int)+o.o.n=n
    ·rw [if_pos hl]
     have:decide (a+(k+1)≠n)=false:=decide_eq_false (by omega)
     rw [this];rfl
    ·rw [if_neg hl]
     have hne:¬ (a:Int)+o.o.n=n:=fun e=>hl ⟨hk,e⟩
     have:decide (a+(k+1)≠n)=true:=decide_eq_true (by omega)
     rw [this,Bool.true_and]
     have e2:(a:Int)+o.o.n=((a+Z0j (Z0l o.o):Nat):Int):=by omega
     rw [e2,Z2P n x _ ht (by omega)]
   ·obtain ⟨eo,hn⟩:=Z2t ho hk
    have hz:tkI o.o=o.o.n:=by unfold tkI;rw [if_neg (by rw [hk];decide)]
    rw [if_neg (by rw [hk];decide),if_neg (by rw [hk];rintro ⟨h1,_⟩;exact absurd h1 (by decide))]
    have hta:(Z0j (Z0l o.o):Int)=o.o.n:=by rw [t1,hz]
    have hu:finU n a (Z0l o.o)=true:=by rw [eo,Z1F];exact Y3E n _ _ a
    rw [hu,Bool.true_and]
    have e2:(a:Int)+o.o.n=((a+Z0j (Z0l o.o):Nat):Int):=by omega
    rw [e2,Z2P n x _ ht (by omega)]
theorem Y3G {r:List Int}:nlR r=r.length↔∀ x∈r,x=10:=by
 unfold nlR
 rw [List.countP_eq_length]
 simp
theorem Y01 {r:List Int}:nlR r=0↔∀ x∈r,¬ x=10:=by
 unfold nlR
 rw [List.countP_eq_zero]
 simp
theorem Z8L {l:List Ky} {o:Opd} (h:oneP l o=0):Z2A l o=true↔∀ u∈Z0l o,vU l u:=by
 obtain ⟨g1,g2,g3⟩:=Z9X.1 h
 have hop:=Z3B h
 rcases Z0H hop with hk|hk|hk
 ·obtain ⟨e,hr⟩:=Z10 hop hk
  have hm:mayS l o.s=0:=(Z1U h).2.2.2.1
  have hu:(∀ u∈Z0l o,vU l u)↔∀ r∈o.r,Z1L l (!(r==10)) o.s=[]:=by
   unfold Z0l
   rw [if_pos hk]
   constructor
   ·intro hh r hr;exact (hh _ (List.mem_map.2 ⟨r,hr,rfl⟩)).2.2
   ·intro hh u hu
    obtain ⟨r,hr,rfl⟩:=List.mem_map.1 hu
    exact ⟨Z7U h hk r hr,hm,hh r hr⟩
  rw [hu]
  have hl:=Y3B (Z2d hm).2.2.2
  unfold Z2A
  by_cases hs:0<o.s.length
  ·rw [if_pos ⟨hk,hs⟩]
   have hne:0<o.r.length:=List.length_pos_iff.2 hr
   have hle:nlR o.r≤o.r.length:=by unfold nlR;exact List.countP_le_length
   constructor
   ·intro hh r hrm
    simp only [Bool.not_eq_true',Bool.and_eq_false_iff,Bool.or_eq_false_iff,decide_eq_false_iff_not] at hh
    rcases hh with ⟨h1,h2⟩ | ⟨h1,h2⟩
    ·have h3:=Y01.1 (by omega:nlR o.r=0) r hrm
     have hb:(r==10)=false:=beq_eq_false_iff_ne.2 h3
     rw [hb]
     exact List.eq_nil_of_length_eq_zero (by show (Z1L l true o.s).length=0;omega)
    ·have h3:=Y3G.1 (by omega:nlR o.r=o.r.length) r hrm
     have hb:(r==10)=true:=beq_iff_eq.2 h3
     rw [hb]
     exact List.eq_nil_of_length_eq_zero (by show (Z1L l false o.s).length=0;omega)
   ·intro hh
    simp only [Bool.not_eq_true',Bool.and_eq_false_iff,Bool.or_eq_false_iff,decide_eq_false_iff_not]
    by_cases h0:(Z1L l true o.s).length=0
    ·refine .inl ⟨by omega,?_⟩
     have:nlR o.r=0:=Y01.2 (fun r hr h10=>by
      have:=hh r hr
      rw [beq_iff_eq.2 h10] at this
      have h5:(Z1L l false o.s).length=0:=by show (Z1L l (!true) o.s).length=0;rw [this];rfl
      omega)
     omega
    ·refine .inr ?_
     have hall:∀ r∈o.r,r=10:=fun r hr=>by
      rcases Decidable.em (r=10) with h10|h10
      ·exact h10
      ·exfalso
       have:=hh r hr
       rw [beq_eq_false_iff_ne.2 h10] at this
       exact h0 (by show (Z1L l (!false) o.s).length=0;rw [this];rfl)
     have h7:=Y3G.2 hall
     obtain ⟨r,hr2⟩:=List.exists_mem_of_ne_nil o.r hr
     have:=hh r hr2
     rw [beq_iff_eq.2 (hall r hr2)] at this
     have h5:(Z1L l false o.s).length=0:=by show (Z1L l (!true) o.s).length=0;rw [this];rfl
     constructor<;>omega
  ·rw [if_neg (by rintro ⟨_,h⟩;exact hs h)]
   have:o.s=[]:=List.eq_nil_of_length_eq_zero (by omega)
   rw [this]
   simp [Z1L]
 ·have:Z2A l o=true:=by unfold Z2A;rw [if_neg (by rintro ⟨h,_⟩;rw [hk] at h;exact absurd h (by decide))]
  simp only [this,true_iff]
  intro u hu
  unfold Z0l at hu
  rw [if_neg (by rw [hk];decide),if_neg (by rw [hk];decide)] at hu
  rw [(List.mem_replicate.1 hu).2];trivial
 ·have:Z2A l o=true:=by unfold Z2A;rw [if_neg (by rintro ⟨h,_⟩;rw [hk] at h;exact absurd h (by decide))]
  simp only [this,true_iff]
  intro u hu
  have:=g3 u hu
  unfold Z0l at hu
  rw [if_neg (by rw [hk];decide),if_pos hk] at hu
  rw [(List.mem_replicate.1 hu).2] at this ⊢;exact this
structure FitU (l:List Ky) (us:List Un) (n most:Nat):Prop where
 v:∀ u∈us,vU l u
 t:Z0j us≤n
 n1:1≤n
 nm:n≤most
 f:finU n 0 us=true
 m:n+Z0q us≤most+Z0j us
 tb:Z0j us≤536870912
 mb:Z0q us≤536870912
theorem vU_mU {l:List Ky} {u:Un} (h:vU l u):mU l u:=by
 cases u with
 | ins r s=>exact ⟨h.1,h.2.1⟩
 | del=>trivial
 | ret p=>exact h
theorem Z4O {l:List Ky} {x:List OpS} {n most:Nat} (hb:x.length≤1048576) (hm:most≤4294967296) (h:Z3A l x n most=0):goodO l x∧FitU l (Z0i (osOf x)) n most:=by
 obtain ⟨h1,h2,h3,h4,h5,h6,h7⟩:=Z2g h
 obtain ⟨g1,g2,g3⟩:=Z1s h1
 obtain ⟨s1,s2⟩:=Z1A x (Z03 g1)
 have ht:=Z1V g1 hb
 have hmk:=Z2f g1 hb
 have hl:=Z7T (n:=n) g1 hb (by omega) (by omega) g2 g3
 rw [hl] at h7
 rw [Y3D n g1 hb] at h5
 have hf:=Z2P n x 0 g1 (by simp;omega)
 refine ⟨g1,fun u hu=>?_,by omega,by omega,by omega,by rw [←hf];exact h5,by omega,by omega,by omega⟩
 obtain ⟨o,ho,hu⟩:=Z1t.1 hu
 unfold Z2e at h6
 exact (Z8L (g1 o ho)).1 (List.all_eq_true.1 h6 o ho) u hu
theorem op_le {x:List OpS} (h:∀ o∈x,isOp o.o) {o:OpS} (ho:o∈x) (ht:Z0j (Z0i (osOf x))≤536870912) (hm:Z0q (Z0i (osOf x))≤536870912):Z07 o.o≤536870912:=by
 induction x with
 | nil=>cases ho
 | cons a x ih=>
   have e:Z0i (osOf (a::x))=Z0l a.o++Z0i (osOf x):=rfl
   rw [e,Z0K] at ht
   rw [e,Z0V] at hm
   rcases List.mem_cons.1 ho with rfl|hmem
   ·have hop:=h o (by simp)
    obtain ⟨t1,t2⟩:=Z6o hop
    unfold tkI at t1
    unfold mkI at t2
    rcases Z0H hop with hk|hk|hk
    ·rw [if_neg (by rw [hk];decide)] at t2;omega
    ·rw [if_neg (by rw [hk];decide)] at t1
     have:Z07 o.o=o.o.n:=by unfold Z07;rw [if_neg (by rw [hk];decide)]
     omega
    ·rw [if_neg (by rw [hk];decide)] at t1
     have:Z07 o.o=o.o.n:=by unfold Z07;rw [if_neg (by rw [hk];decide)]
     omega
   ·exact ih (fun z hz=>h z (List.mem_cons_of_mem _ hz)) hmem (by omega) (by omega)
theorem Z69 {l:List Ky} {x:List OpS} (h:∀ o∈x,isOp o.o) (hu:∀ u∈Z0i (osOf x),mU l u) (ht:Z0j (Z0i (osOf x))≤536870912) (hm:Z0q (Z0i (osOf x))≤536870912):goodO l x:=fun o ho=>
 Z9X.2 ⟨h o ho,op_le h ho ht hm,fun u hu2=>hu u (Z1t.2 ⟨o,ho,hu2⟩)⟩
theorem Y19 {l:List Ky} {x:List OpS} (hb:x.length≤1048576) (h:∀ o∈x,isOp o.o) (hu:∀ u∈Z0i (osOf x),mU l u) (ht:Z0j (Z0i (osOf x))≤536870912) (hm:Z0q (Z0i (osOf x))≤536870912):mayO l x=0:=by
 have g:=Z69 h hu ht hm
 obtain ⟨s1,s2⟩:=Z1A x h
 exact Z8J g (by rw [Z1V g hb];omega) (by rw [Z2f g hb];omega)
theorem Y2a {l:List Ky} {x:List OpS} {n most:Nat} (hb:x.length≤1048576) (hmo:most≤4294967296) (h:∀ o∈x,isOp o.o) (hf:FitU l (Z0i (osOf x)) n most):Z3A l x n most=0:=by
 have g:=Z69 h (fun u hu=>vU_mU (hf.v u hu)) hf.tb hf.mb
 obtain ⟨s1,s2⟩:=Z1A x h
 have h0:=hf.t;have h1:=hf.n1;have h2:=hf.nm;have h3:=hf.m;have h4:=hf.tb;have h5:=hf.mb
 have ht:Z0W x=sumT x:=Z1V g hb
 have hm:Z04 x=sumM x:=Z2f g hb
 refine Z6n (Z8J g (by omega) (by omega)) (by omega) (by omega) (by omega) ?_ ?_ ?_
 ·rw [Y3D n g hb]
  have:=Z2P n x 0 g (by simp;omega)
  rw [show ((0:Nat):Int)=0 from rfl] at this
  rw [this];exact hf.f
 ·unfold Z2e
  exact List.all_eq_true.2 (fun o ho=>(Z8L (g o ho)).2 (fun u hu=>hf.v u (Z1t.2 ⟨o,ho,hu⟩)))
 ·rw [Z7T g hb (by omega) (by omega) (by omega) (by omega)];omega
end Go.Proofs.YtnmedachaeanbaaGreatDoor
