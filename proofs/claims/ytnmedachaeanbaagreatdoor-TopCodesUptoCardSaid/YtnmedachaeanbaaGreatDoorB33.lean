/- Merged texts. -/
import Derived.Test.YtnmedachaeanbaaGreatDoorB32
namespace Go.Proofs.YtnmedachaeanbaaGreatDoor
set_option maxRecDepth 100000
set_option maxHeartbeats 3200000
open Go.RowKit
open Go.Lib (hid Utf8Tabs)
set_option linter.unusedVariables false
set_option linter.unusedSimpArgs false
theorem Z83 (A B:Option Addr) (n c n2 c2:Nat) (l:List Ky) (p:List Ch) (w:World) (hn:n=l.length) (h:RdKy w w.heap.size A l) (hb:n≤140737488355328) (hn2:n2=p.length) (h2:RdCh w w.heap.size B p) (hb2:n2≤140737488355328) (hv:okVs p) (hT:Utf8Tabs 0 1 w) :
 Calls Tryz.prog 7 #[.slice A n c,.slice B n2 c2] w fun e w'=>e=.returned (.int .i64 (mayP l p))∧Below w.heap.size w w':=by
 have N:=hid hn
 have N2:=hid hn2
 generalize hR:mayP l p=R
 have HR:=hid hR
 clear hn hn2 hR
 go_enter Tryz.func7,Tryz.ntmps7
 go_wp2_with (go_at_call 31;refine Hid.out ?_)
 refine hid ?_
 refine (Z9y B n2 c2 p w N2.out h2 hb2).mono ?_
 rintro e w1 ⟨rfl,d,rfl⟩
 generalize hrr:Z3Y p=Q
 have HQ:=hid hrr
 clear hrr
 cases Q with
 | false=>
   go_wp2_with (fail)
   go_ret
   refine ⟨Z0k ?_,Z0m _ _⟩
   rw [←HR.out]
   unfold mayP
   rw [HQ.out]
   by_cases h:64<p.length<;>simp [h]
 | true=>
   by_cases h64:(64:Int)<(n2:Int)
   ·go_wp2_with (fail)
    go_ret
    refine ⟨Z0k ?_,Z0m _ _⟩
    rw [←HR.out]
    unfold mayP
    rw [if_pos (by have:=N2.out;omega)]
   have HP:Hid ((if p.all okC=true then (if p.all (Z0A l)=true then 0 else 4) else 3)=R):=hid (by
    rw [←HR.out]
    unfold mayP
    rw [if_neg (show ¬ (64<p.length) by have:=N2.out;omega),HQ.out]
    simp)
   obtain ⟨R1,hR1⟩:∃ X,p.all okC=X:=⟨_,rfl⟩
   have HR1:=hid hR1
   clear hR1
   go_wp2_with (fail)
   go_loopg [5] n2 (fun g iv wr => ∃ m:Nat,m≤n2∧g=n2-m∧iv=.int .i64 (m:Int)∧Below w.heap.size w wr∧Hid ((p.drop m).all okC=R1))
   case atStart=>exact ⟨0,by omega,rfl,rfl,Z0m _ _,hid (by rw [List.drop_zero];exact HR1.out)⟩
   case round=>
    obtain ⟨m,hm,hg,rfl,y,HI⟩:=hrel
    have HG:=hid hg
    clear hg HR
    by_cases hlt:m<n2
    ·have hl1:m<p.length:=by have:=N2.out;omega
     obtain ⟨ad,x,rfl,had,hd1,hx1,hc0⟩:=(h2.below y (Nat.le_refl _)).el hl1
     have hxv:=hv x (List.mem_of_getElem? hx1)
     have HI2:=hid (Z5C hd1 HI.out)
     obtain ⟨x1,g,x2,x3,x4,x5⟩:=x
     obtain ⟨r0,r1,r2,r3,r4,r5⟩:=Z0I hc0
     obtain ⟨f0,f1⟩:0≤x4∧x4<18446744073709551616:=⟨hxv.1.f0,hxv.1.f1⟩
     have hsz:x5.size≤100000000:=hxv.2
     clear hc0 hd1 hx1 hxv HI
     have hw2:IntKind.i64.wrap ((m:Int)+1)=(m:Int)+1:=IntWalk.i64_in _ (by omega)
     cases g with
     | true=>
       cases hz:beqV ⟨x2,x3,x4,x5⟩ ⟨0,0,0,⟨#[]⟩⟩ with
       | false=>
         have HOK:Hid (okC ⟨x1,true,x2,x3,x4,x5⟩=false):=hid hz
         have HF:Hid (p.all okC=false):=hid (by rw [HR1.out,←HI2.out,HOK.out];rfl)
         go_wp2_with (fail)
         go_ret
         exact ⟨Z0k (by rw [←HP.out,HF.out];rfl),y⟩
       | true=>
         have HOK:Hid (okC ⟨x1,true,x2,x3,x4,x5⟩=true):=hid hz
         go_wp2_with (fail)
         go_roundg (n2-(m+1))
         case measure=>have:=HG.out;omega
         case rel=>exact ⟨m+1,by omega,rfl,by go_num,y,hid (by rw [←HI2.out,HOK.out,Bool.true_and])⟩
     | false=>
       go_wp2_with (go_at_call 32;refine Hid.out ?_)
       refine hid ?_
       refine (Z30 x2 x3 x4 x5 _ f0 f1 hsz ?tb).mono ?_
       case tb=>exact Z4G hT y rfl
       rintro e w6 ⟨rfl,y6⟩
       have HOK:Hid (okC ⟨x1,false,x2,x3,x4,x5⟩=mayV ⟨x2,x3,x4,x5⟩):=hid rfl
       generalize mayV ⟨x2,x3,x4,x5⟩=M at HOK ⊢
       have yy6:=Z2r y y6 rfl rfl rfl rfl
       cases M with
       | false=>
         have HF:Hid (p.all okC=false):=hid (by rw [HR1.out,←HI2.out,HOK.out];rfl)
         go_wp2_with (fail)
         go_ret
         exact ⟨Z0k (by rw [←HP.out,HF.out];rfl),yy6⟩
       | true=>
         go_wp2_with (fail)
         go_roundg (n2-(m+1))
         case measure=>have:=HG.out;omega
         case rel=>exact ⟨m+1,by omega,rfl,by go_num,yy6,hid (by rw [←HI2.out,HOK.out,Bool.true_and])⟩
    ·have HF:Hid (p.all okC=true):=hid (by rw [HR1.out,←HI.out,List.drop_eq_nil_of_le (by have:=N2.out;omega)];rfl)
     clear HI HR1
     obtain ⟨R2,hR2⟩:∃ X,p.all (Z0A l)=X:=⟨_,rfl⟩
     have HR2:=hid hR2
     clear hR2
     go_wp2_with (fail)
     go_loopg [6] n2 (fun g iv wr => ∃ m:Nat,m≤n2∧g=n2-m∧iv=.int .i64 (m:Int)∧Below w.heap.size w wr∧Hid ((p.drop m).all (Z0A l)=R2))
     case atStart=>exact ⟨0,by omega,rfl,rfl,y,hid (by rw [List.drop_zero];exact HR2.out)⟩
     case round=>
      obtain ⟨m,hm,hg,rfl,y,HI⟩:=hrel
      have HG:=hid hg
      clear hg
      by_cases hlt:m<n2
      ·have hl1:m<p.length:=by have:=N2.out;omega
       obtain ⟨ad,x,rfl,had,hd1,hx1,hc0⟩:=(h2.below y (Nat.le_refl _)).el hl1
       obtain ⟨ad',x',e',_,_,hx1',hcw⟩:=h2.el hl1
       injection e' with e'
       subst e'
       rw [hx1] at hx1'
       injection hx1' with hx1'
       subst hx1'
       have hxv:=hv x (List.mem_of_getElem? hx1)
       have HI2:=hid (Z5C hd1 HI.out)
       obtain ⟨x1,g,x2,x3,x4,x5⟩:=x
       obtain ⟨r0,r1,r2,r3,r4,r5⟩:=Z0I hc0
       have HCW:=hid hcw
       obtain ⟨f0,f1⟩:0≤x4∧x4<18446744073709551616:=⟨hxv.1.f0,hxv.1.f1⟩
       have hsz:x5.size≤100000000:=hxv.2
       clear hc0 hd1 hx1 hxv HI hcw
       have hw2:IntKind.i64.wrap ((m:Int)+1)=(m:Int)+1:=IntWalk.i64_in _ (by omega)
       go_wp2_with (go_at_call 33;refine Hid.out ?_)
       refine hid ?_
       refine (Z8B A n c l x1 wr N.out ((h.below y (Nat.le_refl _)).more y.size) hb).mono ?_
       rintro e w3 ⟨k1,k2,k3,k4,k5,k6,q,rfl,hq1,hq2,y3⟩
       have HQ2:=hid hq2
       have y4:=Z0b w3 (.cells #[.int .i64 k1,.bool k2,.int .u8 k3,.bool k4,.bool k5,.int .i64 k6] 78)
       have y5:=Z0a y (Z0a y3 y4)
       clear hq1 hq2 r0 r1 r2 r3 r4 r5
       have gg:GoodB w [] _:=⟨y5,by intro p hp;cases hp⟩
       have hx:∀ x:GW w [],CellsAt x.val (ad.add (m*6)) (Ch.enc ⟨x1,g,x2,x3,x4,x5⟩):=fun x=>HCW.out.keep fun q hq=>x.ok.1.cell (by rw [hq,Z0R];exact had)
       have r0:∀ x:GW w [],_:=fun x=>(Z0I (hx x)).1
       have r1:∀ x:GW w [],_:=fun x=>(Z0I (hx x)).2.1
       have r2:∀ x:GW w [],_:=fun x=>(Z0I (hx x)).2.2.1
       have r3:∀ x:GW w [],_:=fun x=>(Z0I (hx x)).2.2.2.1
       have r4:∀ x:GW w [],_:=fun x=>(Z0I (hx x)).2.2.2.2.1
       have r5:∀ x:GW w [],_:=fun x=>(Z0I (hx x)).2.2.2.2.2
       clear hx
       haveI:Nonempty (GW w []):=⟨⟨_,gg⟩⟩
       cases q with
       | false=>
         have HTH:Hid (Z0A l ⟨x1,g,x2,x3,x4,x5⟩=false):=hid (by unfold Z0A;rw [HQ2.out];rfl)
         go_wp2_with (fail)
         refine Z0u (by kernel_rfl) (by kernel_rfl) gg ?_
         repeat (go_big_quiet_step (fail))
         refine wpQuiet_nil ?_
         intro _ hw'
         obtain ⟨xx,rfl⟩:=hw'
         have yx:=xx.ok.1
         generalize xx.val=w8 at *
         clear r0 r1 r2 r3 r4 r5
         go_wp2_with (fail)
         go_ret
         exact ⟨Z0k (by rw [←HP.out,HF.out,show p.all (Z0A l)=false by rw [HR2.out,←HI2.out,HTH.out];rfl];rfl),yx⟩
       | true=>
         cases g with
         | true=>
           have HTH:Hid (Z0A l ⟨x1,true,x2,x3,x4,x5⟩=true):=hid (by unfold Z0A;rw [HQ2.out];rfl)
           go_wp2_with (fail)
           refine Z0u (by kernel_rfl) (by kernel_rfl) gg ?_
           repeat (go_big_quiet_step (fail))
           refine wpQuiet_nil ?_
           intro _ hw'
           obtain ⟨xx,rfl⟩:=hw'
           have yx:=xx.ok.1
           generalize xx.val=w8 at *
           clear r0 r1 r2 r3 r4 r5
           go_wp2_with (fail)
           go_roundg (n2-(m+1))
           case measure=>have:=HG.out;omega
           case rel=>exact ⟨m+1,by omega,rfl,by go_num,yx,hid (by rw [←HI2.out,HTH.out,Bool.true_and])⟩
         | false=>
           obtain ⟨FI,hFI⟩:∃ X,Z2o l x1 ⟨x2,x3,x4,x5⟩=X:=⟨_,rfl⟩
           have HFI:=hid hFI
           have HTH:Hid (Z0A l ⟨x1,false,x2,x3,x4,x5⟩=FI):=hid (by unfold Z0A;rw [HQ2.out,←hFI];rfl)
           clear hFI
           cases FI with
           | false=>
             go_wp2_with (fail)
             refine Z0u (by kernel_rfl) (by kernel_rfl) gg ?_
             repeat (go_big_quiet_step (first|(go_at_call 34;with_reducible exact Z28 hT N.out h hb f0 f1 hsz _ HFI.out)))
             refine wpQuiet_nil ?_
             intro _ hw'
             obtain ⟨xx,rfl⟩:=hw'
             have yx:=xx.ok.1
             generalize xx.val=w8 at *
             clear r0 r1 r2 r3 r4 r5
             go_wp2_with (fail)
             go_ret
             exact ⟨Z0k (by rw [←HP.out,HF.out,show p.all (Z0A l)=false by rw [HR2.out,←HI2.out,HTH.out];rfl];rfl),yx⟩
           | true=>
             go_wp2_with (fail)
             refine Z0u (by kernel_rfl) (by kernel_rfl) gg ?_
             repeat (go_big_quiet_step (first|(go_at_call 34;with_reducible exact Z28 hT N.out h hb f0 f1 hsz _ HFI.out)))
             refine wpQuiet_nil ?_
             intro _ hw'
             obtain ⟨xx,rfl⟩:=hw'
             have yx:=xx.ok.1
             generalize xx.val=w8 at *
             clear r0 r1 r2 r3 r4 r5
             go_wp2_with (fail)
             go_roundg (n2-(m+1))
             case measure=>have:=HG.out;omega
             case rel=>exact ⟨m+1,by omega,rfl,by go_num,yx,hid (by rw [←HI2.out,HTH.out,Bool.true_and])⟩
      ·have HF2:Hid (p.all (Z0A l)=true):=hid (by rw [HR2.out,←HI.out,List.drop_eq_nil_of_le (by have:=N2.out;omega)];rfl)
       go_wp2_with (fail)
       go_ret
       exact ⟨Z0k (by rw [←HP.out,HF.out,HF2.out];rfl),y⟩
theorem Y0a (A:Option Addr) (n c:Nat) (x:List OpS) (w:World) (hn:n=x.length) (h:RdOs w w.heap.size A x) (hb:n≤140737488355328) :
 Calls Tryz.prog 92 #[.slice A n c] w fun e w'=>e=.returned (.int .i64 (Z0W x))∧∃ d,w'=w.drewN d:=by
 have N:=hid hn
 obtain ⟨R,hR⟩:∃ X,Z0W x=X:=⟨_,rfl⟩
 rw [hR]
 unfold Z0W at hR
 have HR:=hid hR
 clear hn hR
 go_enter Tryz.func92,Tryz.ntmps92
 go_wp2_with (fail)
 go_loopg [3,4] n (fun g av iv wr => ∃ (m:Nat) (a:Int),m≤n∧g=n-m∧av=.int .i64 a∧iv=.int .i64 (m:Int)∧(∃ d,wr=w.drewN d)∧Hid ((x.drop m).foldl Z1m a=R))
 case atStart=>exact ⟨0,0,by omega,rfl,rfl,rfl,⟨0,rfl⟩,HR⟩
 case round=>
  obtain ⟨m,a,hm,hg,rfl,rfl,⟨d,rfl⟩,HI⟩:=hrel
  have HG:=hid hg
  clear hg
  by_cases hlt:m<n
  ·have hl1:m<x.length:=by have:=N.out;omega
   obtain ⟨ad,o,had0,had,hd1,hx1,hc0⟩:=h.el hl1
   subst had0
   have HD:Hid (x.drop m=o::x.drop (m+1)):=hid (by rw [List.drop_eq_getElem_cons hl1];rw [List.getElem?_eq_getElem hl1] at hx1;injection hx1 with hx1;rw [hx1])
   obtain ⟨⟨k,nn,r,s,p⟩,Ar,cr,As,cs,Ap,cp⟩:=o
   obtain ⟨r0,r1,r2,r3,r4⟩:=Z0r hc0
   have hw2:IntKind.i64.wrap ((m:Int)+1)=(m:Int)+1:=IntWalk.i64_in _ (by omega)
   clear hc0 hd1 hx1
   by_cases hk:k=2
   ·subst hk
    have HI2:Hid ((x.drop (m+1)).foldl Z1m a=R):=hid (by have:=HI.out;rw [HD.out,List.foldl_cons] at this;simpa [Z1m] using this)
    go_wp2_with (fail)
    go_roundg (n-(m+1))
    case measure=>have:=HG.out;omega
    case rel=>exact ⟨m+1,a,by omega,rfl,rfl,by go_num,⟨_,rfl⟩,HI2⟩
   ·have hk':(k==2)=false:=beq_eq_false_iff_ne.2 hk
    obtain ⟨W,hW⟩:∃ W,IntKind.i64.wrap (a+nn)=W:=⟨_,rfl⟩
    have HI2:Hid ((x.drop (m+1)).foldl Z1m W=R):=hid (by
     have:=HI.out
     rw [HD.out,List.foldl_cons] at this
     have e:Z1m a ⟨⟨k,nn,r,s,p⟩,Ar,cr,As,cs,Ap,cp⟩=W:=by unfold Z1m;rw [if_neg hk];exact hW
     rwa [e] at this)
    go_wp2_with (fail)
    go_roundg (n-(m+1))
    case measure=>have:=HG.out;omega
    case rel=>exact ⟨m+1,W,by omega,rfl,by first|rfl|(rw [←hW];rfl),by go_num,⟨_,rfl⟩,HI2⟩
  ·have HI9:Hid (a=R):=hid (by have:=HI.out;rwa [List.drop_of_length_le (by have:=N.out;omega)] at this)
   have e:=HI9.out
   clear HI HI9
   go_wp2_with (fail)
   go_ret
   subst e
   exact ⟨rfl,_,rfl⟩
theorem Y38 (k n:Int) (Ar As Ap:Option Addr) (r s p cr cs cp:Nat) (w:World) :
 Calls Tryz.prog 179 #[.agg #[.int .u8 k,.int .i64 n,.slice Ar r cr,.slice As s cs,.slice Ap p cp]] w fun e w'=>e=.returned (.int .i64 (if k=2 then (r:Int) else n))∧Below w.heap.size w w':=by
 have y:=Z0b w (.cells #[.int .u8 k,.int .i64 n,.slice Ar r cr,.slice As s cs,.slice Ap p cp] 36)
 have hbx:=heap_alloc_new w (.cells #[.int .u8 k,.int .i64 n,.slice Ar r cr,.slice As s cs,.slice Ap p cp] 36)
 obtain ⟨q0,q1,q2,q3,q4⟩:=Z0x hbx
 clear hbx
 by_cases hk:k=2
 ·subst hk
  rw [if_pos rfl]
  go_enter Tryz.func179,Tryz.ntmps179
  go_wp2_with (fail)
  go_ret
  exact ⟨rfl,y⟩
 ·have hk':(k==2)=false:=beq_eq_false_iff_ne.2 hk
  rw [if_neg hk]
  go_enter Tryz.func179,Tryz.ntmps179
  go_wp2_with (fail)
  go_ret
  exact ⟨rfl,y⟩
theorem Y0b (A:Option Addr) (n c:Nat) (l:List OpS) (w:World) (hn:n=l.length) (h:RdOs w w.heap.size A l) (hb:n≤140737488355328) :
 Calls Tryz.prog 93 #[.slice A n c] w fun e w'=>e=.returned (.int .i64 (Z04 l))∧Below w.heap.size w w':=by
 have N:=hid hn
 obtain ⟨R,hR⟩:∃ X,Z04 l=X:=⟨_,rfl⟩
 rw [hR]
 have HR:=hid hR
 clear hn hR
 go_enter Tryz.func93,Tryz.ntmps93
 go_wp2_with (fail)
 go_loopg [3,4] n (fun g av iv wr => ∃ (m:Nat) (a:Int),m≤n∧g=n-m∧av=.int .i64 a∧iv=.int .i64 (m:Int)∧Below w.heap.size w wr∧Hid ((l.drop m).foldl Z1O a=R))
 case atStart=>exact ⟨0,0,by omega,rfl,rfl,rfl,Below.refl _ _,hid (by rw [List.drop_zero];exact HR.out)⟩
 case round=>
  obtain ⟨m,a,hm,hg,rfl,rfl,y,HI⟩:=hrel
  have HG:=hid hg
  clear hg HR
  by_cases hlt:m<n
  ·have hl1:m<l.length:=by have:=N.out;omega
   obtain ⟨ad,x,rfl,had,hd1,_,hc0⟩:=(h.below y (Nat.le_refl _)).el hl1
   have HI2:=hid (Z5X hd1 HI.out)
   obtain ⟨⟨k,nn,r,s,p⟩,Ar,cr,As,cs,Ap,cp⟩:=x
   obtain ⟨r0,r1,r2,r3,r4⟩:=Z0r hc0
   clear hc0 hd1 HI
   have hw2:IntKind.i64.wrap ((m:Int)+1)=(m:Int)+1:=IntWalk.i64_in _ (by omega)
   by_cases hk:k=3
   ·subst hk
    go_wp2_with (fail)
    go_roundg (n-(m+1))
    case measure=>have:=HG.out;omega
    case rel=>exact ⟨m+1,a,by omega,rfl,rfl,by go_num,y,hid (by rw [←HI2.out];simp [Z1O])⟩
   ·have hb:(k==3)=false:=beq_eq_false_iff_ne.2 hk
    have HK:=hid hk
    clear hk
    go_wp2_with (go_at_call 179;refine Hid.out ?_)
    refine hid ?_
    refine (Y38 k nn Ar As Ap r.length s.length p.length cr cs cp _).mono ?_
    rintro e w3 ⟨rfl,y3⟩
    have y4:=Z0a y y3
    obtain ⟨Z,hZ⟩:∃ Z:Int,(if k=2 then (r.length:Int) else nn)=Z:=⟨_,rfl⟩
    rw [hZ]
    have HZ:Hid (Z07 ⟨k,nn,r,s,p⟩=Z):=hid hZ
    clear hZ
    obtain ⟨W,hW⟩:∃ W,IntKind.i64.wrap (a+Z)=W:=⟨_,rfl⟩
    go_wp2_with (fail)
    go_roundg (n-(m+1))
    case measure=>have:=HG.out;omega
    case rel=>exact ⟨m+1,W,by omega,rfl,by first|rfl|(rw [←hW];rfl),by go_num,y4,hid (by rw [←HI2.out];simp only [Z1O];rw [if_neg HK.out,HZ.out,hW])⟩
  ·have HI9:Hid (a=R):=hid (by have:=HI.out;rwa [List.drop_of_length_le (by have:=N.out;omega)] at this)
   have e:=HI9.out
   clear HI HI9
   go_wp2_with (fail)
   go_ret
   subst e
   exact ⟨rfl,y⟩
def CellsIn (w:World) (p:Addr) (cs:List Value):Prop:=p.block<w.heap.size∧CellsAt w p cs
theorem CellsIn.ext {w w':World} {p:Addr} {cs:List Value} (h:CellsIn w p cs) (y:Below w.heap.size w w'):CellsIn w' p cs:=
 ⟨Nat.lt_of_lt_of_le h.1 y.size,h.2.keep fun q hq=>y.cell (by rw [hq];exact h.1)⟩
theorem Rd.elIn {α:Type} {enc:α→List Value} {size:Nat} {w:World} {A:Option Addr} {l:List α} (h:Rd enc size w w.heap.size A l) {i:Nat} (hi:i<l.length) :
 ∃ ad a,A=some ad∧l.drop i=a::l.drop (i+1)∧l[i]? = some a∧CellsIn w (ad.add (i*size)) (enc a):=by
 obtain ⟨ad,a,h1,h2,h3,h4,h5⟩:=h.el hi
 exact ⟨ad,a,h1,h3,h4,by rw [Z0R];exact h2,h5⟩
theorem Y1g {w w':World} {d:Nat} (h:w'=w.drewN d):Below w.heap.size w w':=by subst h;exact Z0m w d
def Y0c (o:Opd):Bool:=Z1J o&&decide (1≤Z07 o∧Z07 o≤536870912)
theorem Y2r (k n:Int) (Ar As Ap:Option Addr) (r:List Int) (s:List At) (p:List Ch) (cr cs cp:Nat) (w:World) (h:Z11 w w.heap.size Ar r) (hb:r.length≤140737488355328) :
 Calls Tryz.prog 90 #[.agg #[.int .u8 k,.int .i64 n,.slice Ar r.length cr,.slice As s.length cs,.slice Ap p.length cp]] w fun e w'=>e=.returned (.bool (Y0c ⟨k,n,r,s,p⟩))∧Below w.heap.size w w':=by
 have y0:=Z0b w (.cells #[.int .u8 k,.int .i64 n,.slice Ar r.length cr,.slice As s.length cs,.slice Ap p.length cp] 36)
 have HH:=hid (h.ext y0)
 obtain ⟨R,hR⟩:∃ X,Y0c ⟨k,n,r,s,p⟩=X:=⟨_,rfl⟩
 rw [hR]
 unfold Y0c Z1J Z07 at hR
 simp only at hR
 have HR:=hid hR
 obtain ⟨nr,hnr⟩:∃ X,r.length=X:=⟨_,rfl⟩
 obtain ⟨ns,hns⟩:∃ X,s.length=X:=⟨_,rfl⟩
 obtain ⟨np,hnp⟩:∃ X,p.length=X:=⟨_,rfl⟩
 have NR:=hid hnr
 have NS:=hid hns
 have NP:=hid hnp
 rw [hnr,hns,hnp]
 rw [hnr,hns,hnp] at y0 HH
 rw [hnr] at hb
 clear hR hnr hns hnp h
 by_cases k1:k=1
 ·subst k1
  go_enter Tryz.func90,Tryz.ntmps90
  go_wp2_with (fail)
  all_goals go_ret
  all_goals exact ⟨Z0e (by rw [←HR.out];simp only [NR.out,NS.out,NP.out];first|(simp;done)|(simp;omega)|(simp [*];done)|(simp [*];omega)),by exact Z0b w _⟩
 have kb1:(k==1)=false:=beq_eq_false_iff_ne.2 k1
 by_cases k3:k=3
 ·subst k3
  go_enter Tryz.func90,Tryz.ntmps90
  go_wp2_with (fail)
  all_goals go_ret
  all_goals exact ⟨Z0e (by rw [←HR.out];simp only [NR.out,NS.out,NP.out];first|(simp;done)|(simp;omega)|(simp [*];done)|(simp [*];omega)),by exact Z0b w _⟩
 have kb3:(k==3)=false:=beq_eq_false_iff_ne.2 k3
 by_cases k2:k=2
 rotate_left
 ·have kb2:(k==2)=false:=beq_eq_false_iff_ne.2 k2
  have e:R=false:=by rw [←HR.out,if_neg k1,if_neg k3,if_neg k2];rfl
  go_enter Tryz.func90,Tryz.ntmps90
  go_wp2_with (fail)
  go_ret
  exact ⟨Z0e e.symm,y0⟩
 subst k2
 have hbx:=heap_alloc_new w (.cells #[.int .u8 2,.int .i64 n,.slice Ar nr cr,.slice As ns cs,.slice Ap np cp] 36)
 go_enter Tryz.func90,Tryz.ntmps90
 go_wp2_with (fail)
 obtain ⟨w1,hw1⟩:∃ X,w.alloc (.cells #[.int .u8 2,.int .i64 n,.slice Ar nr cr,.slice As ns cs,.slice Ap np cp] 36)=X:=⟨_,rfl⟩
 rw [hw1] at y0 HH hbx ⊢
 clear hw1
 obtain ⟨q0,q1,q2,q3,q4⟩:=Z0x hbx
 clear hbx
 go_loopg [3] nr (fun g iv wr => ∃ m:Nat,m≤nr∧g=nr-m∧iv=.int .i64 (m:Int)∧(∃ dr,wr=w1.drewN dr)∧Hid (∀ c∈r.take m,mayR c=true))
 case atStart=>exact ⟨0,by omega,rfl,rfl,⟨0,rfl⟩,hid (fun c hc=>by simp at hc)⟩
 case round=>
  obtain ⟨m,hm,hg,rfl,⟨dr,rfl⟩,HI⟩:=hrel
  have HG:=hid hg
  clear hg
  by_cases hlt:m<nr
  ·have hl1:m<r.length:=by have:=NR.out;omega
   obtain ⟨ad,x,hA,_,_,hx1,hc0⟩:=HH.out.el hl1
   subst hA
   have HX:=hid hx1
   have c0:w1.cell? (ad.add (m*1))=some (.int .i32 x):=by have:=hc0 0 _ rfl;rwa [Z0n] at this
   rw [Nat.mul_one] at c0
   have hw2:IntKind.i64.wrap ((m:Int)+1)=(m:Int)+1:=IntWalk.i64_in _ (by omega)
   obtain ⟨M,hM⟩:∃ X,mayR x=X:=⟨_,rfl⟩
   have HM:=hid hM
   clear hc0 hx1 hM
   cases M
   ·have e:R=false:=by
     have h1:r.any (fun r => !mayR r)=true:=List.any_eq_true.2 ⟨x,List.mem_of_getElem? HX.out,by rw [HM.out];rfl⟩
     rw [←HR.out];simp [h1]
    go_wp2_with (go_at_call 177;refine (Z1c x _).mono ?_;rintro e w2 ⟨rfl,rfl⟩;rw [HM.out])
    go_ret
    exact ⟨Z0e e.symm,Z0a y0 (Z0m _ _)⟩
   ·go_wp2_with (go_at_call 177;refine (Z1c x _).mono ?_;rintro e w2 ⟨rfl,rfl⟩;rw [HM.out])
    go_roundg (nr-(m+1))
    case measure=>have:=HG.out;omega
    case rel=>exact ⟨m+1,by omega,rfl,by go_num,⟨_,rfl⟩,hid (fun c hc=>by
     rw [List.take_add_one,HX.out] at hc
     rcases List.mem_append.1 hc with hc|hc
     ·exact HI.out c hc
     ·simp at hc;rw [hc];exact HM.out)⟩
  ·have hany:r.any (fun r => !mayR r)=false:=by
    rw [Bool.eq_false_iff]
    intro h
    obtain ⟨c,hc,h2⟩:=List.any_eq_true.1 h
    have:=HI.out c (by rw [List.take_of_length_le (by have:=NR.out;omega)];exact hc)
    rw [this] at h2;cases h2
   have HA:=hid hany
   clear hany HI
   go_wp2_with (fail)
   all_goals go_ret
   all_goals exact ⟨Z0e (by rw [←HR.out];simp only [HA.out,NR.out,NS.out,NP.out,if_true];first|(simp;done)|(simp;omega)|(simp [*];done)|(simp [*];omega)),by first|exact Z0a y0 (Z0m _ _)|exact y0⟩
theorem Y39 (l:List Ky):mayS l []=0:=by simp [mayS,Z4b,rise]
theorem Y4a (l:List Ky):mayP l []=0:=by simp [mayP,Z3Y,rise]
theorem Z84 (l:List Ky) (s:List At):mayS l s=0∨mayS l s=3∨mayS l s=4:=by
 unfold mayS;split
 ·exact .inr (.inl rfl)
 ·split
  ·split
   ·exact .inl rfl
   ·exact .inr (.inr rfl)
  ·exact .inr (.inl rfl)
theorem Z85 (l:List Ky) (s:List Ch):mayP l s=0∨mayP l s=3∨mayP l s=4:=by
 unfold mayP;split
 ·exact .inr (.inl rfl)
 ·split
  ·split
   ·exact .inl rfl
   ·exact .inr (.inr rfl)
  ·exact .inr (.inl rfl)
def badO (l:List Ky) (o:Opd):Bool := !Y0c o || decide (mayS l o.s=3) || decide (mayP l o.p=3)
def offO (l:List Ky) (o:Opd):Bool:=decide (mayS l o.s≠0) || decide (mayP l o.p≠0)
theorem Y5X {o:Opd} (h:Z1J o=true):o.s=[]∨o.p=[]:=by
 unfold Z1J at h
 split at h
 ·exact .inl (List.length_eq_zero_iff.1 (of_decide_eq_true h).2)
 ·split at h
  ·exact .inl (List.length_eq_zero_iff.1 (of_decide_eq_true h).1.2)
  ·split at h
   ·rw [Bool.and_eq_true] at h;exact .inr (List.length_eq_zero_iff.1 (of_decide_eq_true h.1).2)
   ·cases h
theorem Y8F (l:List Ky) (o:Opd):oneP l o=if badO l o=true then 3 else if offO l o=true then 4 else 0:=by
 unfold oneP badO offO Y0c
 by_cases h1:Z1J o=true∧1≤Z07 o∧Z07 o≤536870912
 ·rw [if_pos h1]
  have h2:(!(Z1J o&&decide (1≤Z07 o∧Z07 o≤536870912)))=false:=by simp [h1.1,h1.2]
  rw [h2,Bool.false_or]
  rcases Y5X h1.1 with h3|h3
  ·rw [h3,Y39,if_pos rfl]
   rcases Z85 l o.p with h|h|h<;>rw [h]<;>decide
  ·rw [h3,Y4a]
   rcases Z84 l o.s with h|h|h<;>rw [h]<;>decide
 ·rw [if_neg h1]
  have h2:(!(Z1J o&&decide (1≤Z07 o∧Z07 o≤536870912)))=true:=by
   rw [Bool.not_eq_true',Bool.and_eq_false_iff]
   by_cases h3:Z1J o=true
   ·exact .inr (decide_eq_false (fun h4=>h1 ⟨h3,h4⟩))
   ·exact .inl (Bool.eq_false_iff.2 h3)
  rw [h2,Bool.true_or,Bool.true_or,if_pos rfl]
theorem Y0d (l:List Ky):∀ (x:List OpS) (a:Int),x.foldl (Z0z l) (false,a)=if x.any (fun o=>badO l o.o)=true then (true,3) else (false,if x.any (fun o=>offO l o.o)=true then 4 else a)
 | [],a=>by simp
 | o::x,a=>by
   rw [List.foldl_cons]
   have e:Z0z l (false,a) o=if badO l o.o=true then (true,3) else (false,if offO l o.o=true then 4 else a):=by
    unfold Z0z
    rw [Y8F l o.o]
    cases badO l o.o<;>cases offO l o.o<;>simp
   rw [e,List.any_cons,List.any_cons]
   cases hb:badO l o.o
   ·cases ho:offO l o.o
    ·simpa using Y0d l x a
    ·simpa using Y0d l x 4
   ·simp [Z1T]
def refO (l:List Ky) (x:List OpS):Int:=
 if x.any (fun o=>badO l o.o)=true then 3 else if Z0W x≤536870912∧Z04 x≤536870912 then (if x.any (fun o=>offO l o.o)=true then 4 else 0) else 3
theorem Y7A (l:List Ky) (x:List OpS):refO l x=mayO l x:=by
 unfold refO mayO
 rw [Y0d]
 cases x.any (fun o=>badO l o.o)<;>simp
theorem Y1h {α:Type} {f:α→Bool} {x:List α} {m:Nat} {o:α} (h:x[m]? = some o) (h1:(x.take m).any f=false) (h2:f o=false):(x.take (m+1)).any f=false:=by
 rw [List.take_add_one,h,List.any_append,h1];simp [h2]
theorem Y6L {α:Type} {f:α→Bool} {x:List α} {m:Nat} {o:α} (h:x[m]? = some o) (h2:f o=true):x.any f=true:=List.any_eq_true.2 ⟨o,List.mem_of_getElem? h,h2⟩
theorem Y4b (A B:Option Addr) (n c n2 c2:Nat) (l:List Ky) (x:List OpS) (w:World) (hn:n=l.length) (h:RdKy w w.heap.size A l) (hb:n≤140737488355328) (hn2:n2=x.length) (h2:RdOp w w.heap.size B x) (hb2:n2≤140737488355328)
 (hv:∀ o∈x,okVa o.o.s∧okVs o.o.p∧o.o.r.length≤140737488355328∧o.o.s.length≤140737488355328∧o.o.p.length≤140737488355328) (hT:Utf8Tabs 0 1 w) :
 Calls Tryz.prog 25 #[.slice A n c,.slice B n2 c2] w fun e w'=>e=.returned (.int .i64 (mayO l x))∧Below w.heap.size w w':=by
 rw [←Y7A]
 have N:=hid hn
 have N2:=hid hn2
 have HL:=hid h
 have HX:=hid h2
 have HT:=hid hT
 obtain ⟨R,hR⟩:∃ X,refO l x=X:=⟨_,rfl⟩
 rw [hR]
 unfold refO at hR
 have HR:=hid hR
 clear hn hn2 hR h h2 hT
 go_enter Tryz.func25,Tryz.ntmps25
 go_wp2_with (fail)
 go_loopg [5] n2 (fun g iv wr => ∃ m:Nat,m≤n2∧g=n2-m∧iv=.int .i64 (m:Int)∧Below w.heap.size w wr∧Hid ((x.take m).any (fun o=>badO l o.o)=false))
 case atStart=>exact ⟨0,by omega,rfl,rfl,Below.refl _ _,hid (by simp)⟩
 case round=>
  obtain ⟨m,hm,hg,rfl,y,HI⟩:=hrel
  have HG:=hid hg
  clear hg
  by_cases hlt:m<n2
  ·have hl1:m<x.length:=by have:=N2.out;omega
   obtain ⟨ad,o,had0,hd1,hx1,hc0⟩:=(HX.out.ext y).1.elIn hl1
   subst had0
   have HM:=hid hx1
   obtain ⟨g1,g2,g3⟩:=(HX.out.ext y).2 o (List.mem_of_getElem? hx1)
   obtain ⟨v1,v2,v3,v4,v5⟩:=hv o (List.mem_of_getElem? hx1)
   obtain ⟨⟨k,nn,r,s,p⟩,Ar,cr,As,cs,Ap,cp⟩:=o
   simp only at g1 g2 g3 v1 v2 v3 v4 v5
   have HC:=hid hc0
   obtain ⟨r0,r1,r2,r3,r4⟩:=Z0r HC.out.2
   have G1:=hid g1
   have G2:=hid g2
   have G3:=hid g3
   have hw2:IntKind.i64.wrap ((m:Int)+1)=(m:Int)+1:=IntWalk.i64_in _ (by omega)
   clear hc0 hd1 hx1 g1 g2 g3
   have BAD:Hid (badO l ⟨k,nn,r,s,p⟩=true→R=3):=hid (fun hb'=>by rw [←HR.out,if_pos (Y6L HM.out hb')])
   have FB:Hid (badO l ⟨k,nn,r,s,p⟩=(!Y0c ⟨k,nn,r,s,p⟩ || decide (mayS l s=3) || decide (mayP l p=3))):=hid rfl
   obtain ⟨F,hF⟩:∃ X,Y0c ⟨k,nn,r,s,p⟩=X:=⟨_,rfl⟩
   obtain ⟨E1,hE1⟩:∃ X,mayS l s=X:=⟨_,rfl⟩
   obtain ⟨E2,hE2⟩:∃ X,mayP l p=X:=⟨_,rfl⟩
   have HF:=hid hF
   have HE1:=hid hE1
   have HE2:=hid hE2
   clear hF hE1 hE2
   go_wp2_with (go_at_call 90;refine Hid.out ?_)
   refine hid ?_
   refine (Y2r k nn Ar As Ap r s p cr cs cp _ G1.out v3).mono ?_
   rw [HF.out]
   rintro e w3 ⟨rfl,y3⟩
   have G2:=hid (G2.out.ext y3)
   clear r0 r1 r2 r3 r4
   have HC:=hid (HC.out.ext y3)
   obtain ⟨r0,r1,r2,r3,r4⟩:=Z0r HC.out.2
   have G3:=hid (G3.out.ext y3)
   replace y:=Z0a y y3
   clear y3
   cases F
   ·have e9:R=3:=BAD.out (by rw [FB.out,HF.out];rfl)
    go_wp2_with (fail)
    go_ret
    exact ⟨Z0k e9.symm,y⟩
   go_wp2_with (go_at_call 91;refine Hid.out ?_)
   refine hid ?_
   refine (Z82 A As n c s.length cs l s _ N.out (HL.out.ext y) hb rfl G2.out v4 v1 (Utf8Tabs_below HT.out y)).mono ?_
   rw [HE1.out]
   rintro e w4 ⟨rfl,y4⟩
   clear r0 r1 r2 r3 r4
   have HC:=hid (HC.out.ext y4)
   obtain ⟨r0,r1,r2,r3,r4⟩:=Z0r HC.out.2
   have G3:=hid (G3.out.ext y4)
   replace y:=Z0a y y4
   clear y4
   by_cases c1:E1=3
   ·have e9:R=3:=BAD.out (by rw [FB.out,HE1.out,c1];simp)
    subst c1
    go_wp2_with (fail)
    go_ret
    exact ⟨Z0k e9.symm,y⟩
   have c1b:(E1==3)=false:=beq_eq_false_iff_ne.2 c1
   go_wp2_with (go_at_call 7;refine Hid.out ?_)
   refine hid ?_
   refine (Z83 A Ap n c p.length cp l p _ N.out (HL.out.ext y) hb rfl G3.out v5 v2 (Utf8Tabs_below HT.out y)).mono ?_
   rw [HE2.out]
   rintro e w5 ⟨rfl,y5⟩
   replace y:=Z0a y y5
   clear y5
   by_cases c2':E2=3
   ·have e9:R=3:=BAD.out (by rw [FB.out,HE2.out,c2'];simp)
    subst c2'
    go_wp2_with (fail)
    go_ret
    exact ⟨Z0k e9.symm,y⟩
   have c2b:(E2==3)=false:=beq_eq_false_iff_ne.2 c2'
   have GOOD:Hid (badO l ⟨k,nn,r,s,p⟩=false):=hid (by rw [FB.out,HF.out,HE1.out,HE2.out];simp [c1,c2'])
   clear c1 c2'
   go_wp2_with (fail)
   go_roundg (n2-(m+1))
   case measure=>have:=HG.out;omega
   case rel=>exact ⟨m+1,by omega,rfl,by go_num,y,hid (Y1h HM.out HI.out GOOD.out)⟩
  ·have NB:Hid (x.any (fun o=>badO l o.o)=false):=hid (by have:=HI.out;rwa [List.take_of_length_le (by have:=N2.out;omega)] at this)
   have HR2:Hid ((if Z0W x≤536870912∧Z04 x≤536870912 then (if x.any (fun o=>offO l o.o)=true then 4 else 0) else 3)=R):=hid (by rw [←HR.out,NB.out];rfl)
   clear HI HG
   go_wp2_with (go_at_call 92;refine Hid.out ?_)
   refine hid ?_
   refine (Y0a B n2 c2 x _ N2.out (HX.out.ext y).1 hb2).mono ?_
   rintro e w3 ⟨rfl,dr,hd⟩
   replace y:=Z0a y (Y1g hd)
   clear hd
   generalize Z0W x=T at HR2 ⊢
   by_cases t1:536870912<T
   ·go_wp2_with (fail)
    go_ret
    exact ⟨Z0k (by rw [←HR2.out,if_neg (by omega)]),y⟩
   go_wp2_with (go_at_call 93;refine Hid.out ?_)
   refine hid ?_
   refine (Y0b B n2 c2 x _ N2.out (HX.out.ext y).1 hb2).mono ?_
   rintro e w4 ⟨rfl,y4⟩
   replace y:=Z0a y y4
   clear y4
   generalize Z04 x=U at HR2 ⊢
   by_cases u1:536870912<U
   ·go_wp2_with (fail)
    go_ret
    exact ⟨Z0k (by rw [←HR2.out,if_neg (by omega)]),y⟩
   have HR3:Hid ((if x.any (fun o=>offO l o.o)=true then (4:Int) else 0)=R):=hid ((if_pos ⟨by omega,by omega⟩).symm.trans HR2.out)
   clear HR2 hlt hm
   go_wp2_with (fail)
   go_loopg [6] n2 (fun g iv wq => ∃ m:Nat,m≤n2∧g=n2-m∧iv=.int .i64 (m:Int)∧Below w.heap.size w wq∧Hid ((x.take m).any (fun o=>offO l o.o)=false))
   case atStart=>exact ⟨0,by omega,rfl,rfl,y,hid (by simp)⟩
   case round=>
    clear y
    obtain ⟨m,hm,hg,rfl,y,HI⟩:=hrel
    have HG:=hid hg
    clear hg
    by_cases hlt:m<n2
    ·have hl1:m<x.length:=by have:=N2.out;omega
     obtain ⟨ad,o,had0,hd1,hx1,hc0⟩:=(HX.out.ext y).1.elIn hl1
     subst had0
     have HM:=hid hx1
     obtain ⟨g1,g2,g3⟩:=(HX.out.ext y).2 o (List.mem_of_getElem? hx1)
     obtain ⟨v1,v2,v3,v4,v5⟩:=hv o (List.mem_of_getElem? hx1)
     obtain ⟨⟨k,nn,r,s,p⟩,Ar,cr,As,cs,Ap,cp⟩:=o
     simp only at g1 g2 g3 v1 v2 v3 v4 v5
     have HC:=hid hc0
     obtain ⟨r0,r1,r2,r3,r4⟩:=Z0r HC.out.2
     have G1:=hid g1
     have G2:=hid g2
     have G3:=hid g3
     have hw2:IntKind.i64.wrap ((m:Int)+1)=(m:Int)+1:=IntWalk.i64_in _ (by omega)
     clear hc0 hd1 hx1 g1 g2 g3
     have OFF:Hid (offO l ⟨k,nn,r,s,p⟩=true→R=4):=hid (fun hb'=>by rw [←HR3.out,if_pos (Y6L HM.out hb')])
     have FB:Hid (offO l ⟨k,nn,r,s,p⟩=(decide (mayS l s≠0) || decide (mayP l p≠0))):=hid rfl
     obtain ⟨E1,hE1⟩:∃ X,mayS l s=X:=⟨_,rfl⟩
     obtain ⟨E2,hE2⟩:∃ X,mayP l p=X:=⟨_,rfl⟩
     have HE1:=hid hE1
     have HE2:=hid hE2
     clear hE1 hE2
     go_wp2_with (go_at_call 91;refine Hid.out ?_)
     refine hid ?_
     refine (Z82 A As n c s.length cs l s _ N.out (HL.out.ext y) hb rfl G2.out v4 v1 (Utf8Tabs_below HT.out y)).mono ?_
     rw [HE1.out]
     rintro e w4 ⟨rfl,y4⟩
     clear r0 r1 r2 r3 r4
     have HC:=hid (HC.out.ext y4)
     obtain ⟨r0,r1,r2,r3,r4⟩:=Z0r HC.out.2
     have G3:=hid (G3.out.ext y4)
     replace y:=Z0a y y4
     clear y4
     by_cases c1:E1=0
     rotate_left
     ·have e9:R=4:=OFF.out (by rw [FB.out,HE1.out];simp [c1])
      have c1b:(E1==0)=false:=beq_eq_false_iff_ne.2 c1
      have c1n:(E1 != 0)=true:=by rw [bne,c1b];rfl
      clear c1
      go_wp2_with (fail)
      go_ret
      exact ⟨Z0k e9.symm,y⟩
     subst c1
     go_wp2_with (go_at_call 7;refine Hid.out ?_)
     refine hid ?_
     refine (Z83 A Ap n c p.length cp l p _ N.out (HL.out.ext y) hb rfl G3.out v5 v2 (Utf8Tabs_below HT.out y)).mono ?_
     rw [HE2.out]
     rintro e w5 ⟨rfl,y5⟩
     replace y:=Z0a y y5
     clear y5
     by_cases c2':E2=0
     rotate_left
     ·have e9:R=4:=OFF.out (by rw [FB.out,HE2.out];simp [c2'])
      have c2b:(E2==0)=false:=beq_eq_false_iff_ne.2 c2'
      have c2n:(E2 != 0)=true:=by rw [bne,c2b];rfl
      clear c2'
      go_wp2_with (fail)
      go_ret
      exact ⟨Z0k e9.symm,y⟩
     subst c2'
     have GOOD:Hid (offO l ⟨k,nn,r,s,p⟩=false):=hid (by rw [FB.out,HE1.out,HE2.out];rfl)
     go_wp2_with (fail)
     go_roundg (n2-(m+1))
     case measure=>have:=HG.out;omega
     case rel=>exact ⟨m+1,by omega,rfl,by go_num,y,hid (Y1h HM.out HI.out GOOD.out)⟩
    ·have e9:R=0:=by
      have:=HI.out
      rw [List.take_of_length_le (by have:=N2.out;omega)] at this
      rw [←HR3.out,this];rfl
     go_wp2_with (fail)
     go_ret
     exact ⟨Z0k e9.symm,y⟩
theorem Z5d {x y:List Int} (h:U8 x) (g:U8 y):U8 (x++y):=fun z hz=>by
 rcases List.mem_append.1 hz with hz|hz
 ·exact h z hz
 ·exact g z hz
theorem Y6M:U8 []:=fun z hz=>by cases hz
theorem Y7B {α:Type} {f:α→List Int} {l:List α} (h:∀ a∈l,U8 (f a)):U8 (l.flatMap f):=fun z hz=>by
 obtain ⟨a,ha,hz⟩:=List.mem_flatMap.1 hz
 exact h a ha z hz
theorem Y7C {α:Type} {f:α→List Int} {l:List α} (h:∀ a∈l,U8 (f a)):U8 (wL f l):=Z5d (Z5K _) (Y7B h)
theorem Y8G {x:List Int} (h:U8 x):U8 (wB x):=Z5d (Z5K _) h
theorem Y8H (v:V):U8 (wV v):=by
 rw [Z8n]
 refine Z5d (Z5K _) ?_
 unfold wVt
 split
 ·exact Z5K _
 ·split
  ·exact Z5K _
  ·split
   ·exact Y8G (Y6Z _)
   ·exact Y6M
theorem wO_u8 {m:Nat} {o:Opd} (h:Z6K m o):U8 (wO o):=by
 unfold wO
 refine Z5d (Z5K _) ?_
 split
 ·exact Z5d (Z5K _) (Y7C fun c _=>by
   unfold wCh
   refine Z5d (Z5K _) ?_
   split
   ·exact Z5K _
   ·exact Y8H _)
 ·split
  ·rename_i hk
   refine Z5d (Y8G ?_) (Y7C fun a _=>Z5d (Z5K _) (Y8H _))
   rcases h with ⟨h1,_⟩ | ⟨_,_,h1,_⟩ | ⟨h1,_⟩
   ·omega
   ·exact Y1H h1
   ·omega
  ·split
   ·exact Z5K _
   ·exact Y6M
theorem Z86:∀ r:List Int,r.length≤(Z0D r).length
 | []=>Nat.zero_le _
 | x::r=>by
   show _≤((x::r).flatMap encR).length
   rw [List.flatMap_cons,List.length_append,List.length_cons]
   have h1:=Z86 r
   unfold Z0D at h1
   have h2:=(Z3G x).1
   omega
theorem wO_ge {m:Nat} {o:Opd} (h:Z6K m o):1+o.r.length≤(wO o).length:=by
 have h0:=Y6H o
 rcases h with ⟨_,_,_,hr,_⟩ | ⟨hk,hn,_,_,_,_,hp⟩ | ⟨_,_,_,hr,_⟩
 ·rw [hr];simpa using h0
 ·obtain ⟨k,n,r,s,p⟩:=o
  simp only at hk hn hp
  subst hk;subst hn;subst hp
  rw [wO2,List.length_append,List.length_append,wB,List.length_append]
  have:=Z86 r
  have:=Y09 2
  simp only
  omega
 ·rw [hr];simpa using h0
theorem Z87 {m:Nat}:∀ {X:List OpS},(∀ o∈osOf X,Z6K m o)→szN X≤((osOf X).flatMap wO).length
 | [],_=>Nat.zero_le _
 | o::X,h=>by
   have h1:=wO_ge (h o.o (by simp [osOf]))
   have h2:=Z87 (X:=X) (fun q hq=>h q (by unfold osOf at hq ⊢;exact List.mem_cons_of_mem _ hq))
   rw [Z14]
   show _≤((o.o::osOf X).flatMap wO).length
   rw [List.flatMap_cons,List.length_append]
   omega
theorem Y1i {n:Nat} {b:List Int} {X:List OpS} (hu:U8 b) (h:pX n b=some (osOf X,[])):b=wX (osOf X)∧szN X≤b.length:=by
 obtain ⟨h1,_,h3⟩:=Y8d hu h
 refine ⟨h1,?_⟩
 rw [h1]
 exact Nat.le_trans (Z87 h3) Z6v
def Y5Y (o:Opd):OpS:=⟨o,none,0,none,0,none,0⟩
theorem Z2T (x:List Opd):osOf (x.map Y5Y)=x:=by
 unfold osOf
 rw [List.map_map,List.map_congr_left (g:=id),List.map_id]
 intro o _
 rfl
theorem Y1j:∀ {x y:List OpS},osOf x=osOf y→szN x=szN y
 | [],[],_=>rfl
 | [],o::y,h=>by simp [osOf] at h
 | o::x,[],h=>by simp [osOf] at h
 | o::x,o'::y,h=>by
   unfold osOf at h
   rw [List.map_cons,List.map_cons,List.cons.injEq] at h
   rw [Z14,Z14,h.1,Y1j h.2]
theorem Y4c {Z:List OpS} {us:List Un} (h:osOf Z=mkU us):mkU (Z0i (osOf Z))=osOf Z:=by rw [Z2R h,Y8D,h]
structure Coded (l:List Ky) (x:List OpS) (BB:List Int):Prop where
 u8:U8 BB
 len:BB.length≤90000000
 back:pX BB.length BB=some (mkU (Z0i (osOf x)),[])
 nf:∀ Z:List OpS,osOf Z=mkU (Z0i (osOf x))→mayO l Z=0∧szN Z≤13000∧mkU (Z0i (osOf Z))=osOf Z
theorem Y5Z {l:List Ky} {x:List OpS} (hl:Z4p l) (hm:mayO l x=0) (hok:∀ o∈x,okOp o.o) (hz:szN x≤4000):Coded l x (wX (mkU (Z0i (osOf x)))):=by
 have XB:x.length≤4000:=Nat.le_trans (Z2D x) hz
 obtain ⟨g1,_,_⟩:=Z1s hm
 have hi:=Z03 g1
 have L64:∀ o∈x,o.o.s.length≤64∧o.o.p.length≤64:=fun o ho=>Y34 (by rw [g1 o ho];decide) (hi o ho)
 obtain ⟨_,n2,_,_⟩:=Z2i (l:=l) (x:=x) (by rw [hm];decide) (by omega)
 have ht:=Z5A (osOf x) (fun o ho=>by obtain ⟨q,hq,rfl⟩:=List.mem_map.1 ho;exact hi q hq) (by omega)
 have hb:=Z3M x L64
 have hu:∀ u∈Z0i (osOf x),okUn u:=fun u hu=>by
  obtain ⟨o,ho,hu⟩:=Z1t.1 hu
  exact Z6r (hok o ho) u hu
 have key:∀ Z:List OpS,osOf Z=mkU (Z0i (osOf x))→(∀ o∈Z,okOp o.o)∧szN Z≤13000∧mayO l Z=0∧goodO l Z:=fun Z hZ=>by
  obtain ⟨ok1,_⟩:=Z7Y (hZ.trans (Z4r ht).symm) ht hu hb (by omega) (by omega)
  have hsz:=Y5V hi hZ (by omega) L64
  have hzl:=Z2D Z
  obtain ⟨mz,gz⟩:=Y6K hm (by omega) hZ (by omega)
  exact ⟨ok1,by omega,mz,gz⟩
 obtain ⟨ok0,sz0,m0,g0⟩:=key _ (Z2T _)
 have hlen:(wX (mkU (Z0i (osOf x)))).length≤90000000:=by
  have h1:=Y37 hl g0 ok0
  rw [Z2T] at h1
  have h3:=Z2D ((mkU (Z0i (osOf x))).map Y5Y)
  rw [List.length_map] at h3
  have h2:(uv (mkU (Z0i (osOf x))).length).length≤10:=Z1g (by omega)
  unfold wX wL
  rw [List.length_append]
  omega
 have hf:∀ o∈mkU (Z0i (osOf x)),Z6K (wX (mkU (Z0i (osOf x)))).length o:=fun o ho=>by
  have h1:Y5Y o∈(mkU (Z0i (osOf x))).map Y5Y:=List.mem_map_of_mem ho
  refine (Z93 hl (g0 _ h1) (ok0 _ h1) ?_).1
  exact Nat.le_trans (Z26 (f:=wO) ho) Z6v
 refine ⟨Y7C fun o ho=>wO_u8 (hf o ho),hlen,Y63 (by omega) hf (Nat.le_trans (Z27 Y6H _) Z6v),fun Z hZ=>?_⟩
 obtain ⟨_,h2,h3,_⟩:=key Z hZ
 exact ⟨h3,h2,Y4c hZ⟩
theorem Z7g (l:List Ky) (x:List OpS):mayO l x=0∨mayO l x=3∨mayO l x=4:=by
 have h1:∀ o:Opd,oneP l o=0∨oneP l o=3∨oneP l o=4:=fun o=>by
  unfold oneP
  split
  ·split
   ·exact Z85 l o.p
   ·exact Z84 l o.s
  ·exact .inr (.inl rfl)
 have h2:∀ (x:List OpS) (st:Bool×Int),(st.2=0∨st.2=3∨st.2=4)→((x.foldl (Z0z l) st).2=0∨(x.foldl (Z0z l) st).2=3∨(x.foldl (Z0z l) st).2=4):=by
  intro x
  induction x with
  | nil=>exact fun st h=>h
  | cons o x ih=>
    intro st h
    rw [List.foldl_cons]
    refine ih _ ?_
    unfold Z0z
    split
    ·exact h
    ·split
     ·exact .inr (.inl rfl)
     ·show (if oneP l o.o=0 then st.2 else oneP l o.o)=0∨_
      split
      ·exact h
      ·exact h1 o.o
 unfold mayO
 split
 ·exact .inr (.inl rfl)
 ·split
  ·exact h2 x (false,0) (.inl rfl)
  ·exact .inr (.inl rfl)
end Go.Proofs.YtnmedachaeanbaaGreatDoor
