/- Merged texts. -/
import Derived.Test.YtnmedachaeanbaaGreatDoorB18
namespace Go.Proofs.YtnmedachaeanbaaGreatDoor
set_option maxRecDepth 100000
set_option maxHeartbeats 1600000
open Go.RowKit
open Go.Lib (hid Utf8Tabs)
set_option linter.unusedVariables false
set_option linter.unusedSimpArgs false
theorem Z68 (r:Int) (w:World):Calls Tryz.prog 323 #[.int .i32 r] w fun e w'=>e=.returned (.bool (!mayR r))∧w=w':=by
 go_enter Tryz.func323,Tryz.ntmps323
 go_wp2_with (go_at_call 51;refine Hid.out ?_)
 refine hid ?_
 refine (Z5N r w).mono ?_
 rintro e w' ⟨rfl,rfl⟩
 go_wp2_with (fail)
 go_ret
 exact ⟨rfl,rfl⟩
theorem Y15 (A:Option Addr) (n c:Nat) (l:List Int) (w:World) (hn:n=l.length) (h:Z11 w w.heap.size A l) (hb:n≤140737488355328) :
 Calls Tryz.prog 351 #[.slice A n c,.func (.func 323) #[] #[]] w fun e w' => ∃ i:Int,e=.returned (.int .i64 i)∧Z6l (fun r => !mayR r) l i∧w=w':=by
 have N:=hid hn
 clear hn
 go_enter Tryz.func351,Tryz.ntmps351
 go_wp2_with (fail)
 go_loopg [8] n (fun g iv wr => ∃ i:Nat,i≤n∧g=n-i∧iv=.int .i64 i∧w=wr∧Hid (∀ x∈l.take i,(!mayR x)=false))
 case atStart=>exact ⟨0,by omega,rfl,rfl,rfl,hid (by simp)⟩
 case round=>
  obtain ⟨i,hi,hg,rfl,rfl,HI⟩:=hrel
  have HG:=hid hg
  clear hg
  by_cases hlt:i<n
  ·have hil:i<l.length:=by have:=N.out;omega
   obtain ⟨ad,x,rfl,_,_,hx,hc1⟩:=h.el hil
   have HT:Hid (l.take (i+1)=l.take i++[x]):=hid (by rw [List.take_add_one,hx];rfl)
   have HX:=hid hx
   have r0:=hc1 0 _ rfl
   rw [Z0n,Nat.mul_one] at r0
   clear hx hil hc1
   have hw2:IntKind.i64.wrap ((i:Int)+1)=(i:Int)+1:=IntWalk.i64_in _ (by omega)
   cases hp:mayR x with
   | false=>
     have HP:=hid hp
     clear hp
     go_wp2_with (go_at_call 323;refine Hid.out ?_)
     refine hid ?_
     refine (Z68 x w).mono ?_
     rintro e w' ⟨rfl,rfl⟩
     rw [HP.out]
     go_wp2_with (fail)
     go_ret
     exact ⟨i,rfl,.inr ⟨i,rfl,by have:=N.out;omega,HI.out,_,HX.out,by show (!mayR x)=true;rw [HP.out];rfl⟩,rfl⟩
   | true=>
     have HP:=hid hp
     clear hp
     go_wp2_with (go_at_call 323;refine Hid.out ?_)
     refine hid ?_
     refine (Z68 x w).mono ?_
     rintro e w' ⟨rfl,rfl⟩
     rw [HP.out]
     go_wp2_with (fail)
     go_roundg (n-(i+1))
     case measure=>have:=HG.out;omega
     case rel=>
      refine ⟨i+1,by omega,rfl,by go_num,rfl,hid ?_⟩
      intro y hy
      rw [HT.out] at hy
      rcases List.mem_append.1 hy with hy|hy
      ·exact HI.out y hy
      ·simp at hy;rw [hy,HP.out];rfl
  ·go_wp2_with (fail)
   go_ret
   refine ⟨-1,rfl,.inl ⟨rfl,?_⟩,rfl⟩
   have h1:=HI.out
   rw [List.take_of_length_le (by have:=N.out;omega)] at h1
   exact h1
theorem Z7R {α:Type} {pr:α→Bool} {l:List α} {i:Int} (h:Z6l pr l i):decide (0≤i)=l.any pr:=by
 rcases h with ⟨rfl,h⟩ | ⟨j,rfl,hj,_,x,hx,hp⟩
 ·have:l.any pr=false:=List.any_eq_false.2 (fun x hx=>by simp [h x hx])
  rw [this];rfl
 ·have:l.any pr=true:=List.any_eq_true.2 ⟨x,List.mem_of_getElem? hx,hp⟩
  rw [this]
  simp
theorem Z24 (A:Option Addr) (n c:Nat) (l:List Int) (w:World) (hn:n=l.length) (h:Z11 w w.heap.size A l) (hb:n≤140737488355328) :
 Calls Tryz.prog 322 #[.slice A n c,.func (.func 323) #[] #[]] w fun e w'=>e=.returned (.bool (l.any (fun r => !mayR r)))∧w=w':=by
 have N:=hid hn
 clear hn
 generalize hr:l.any (fun r => !mayR r)=r
 have HR:=hid hr
 clear hr
 go_enter Tryz.func322,Tryz.ntmps322
 go_wp2_with (go_at_call 351;refine Hid.out ?_)
 refine hid ?_
 refine (Y15 A n c l w N.out h hb).mono ?_
 rintro e w1 ⟨i,rfl,hi,rfl⟩
 have hd:=Z7R hi
 rw [HR.out] at hd
 clear hi
 go_wp2_with (fail)
 go_ret
 exact ⟨by first|rfl|exact Z0e hd,rfl⟩
def Z1J (o:Opd):Bool:=
 if o.k=1 then decide (o.r.length=0∧o.s.length=0)
 else if o.k=3 then decide ((o.r.length=0∧o.s.length=0)∧o.p.length=0)
 else if o.k=2 then decide (o.n=0∧o.p.length=0) && !o.r.any (fun r => !mayR r)
 else false
theorem Y3x (k n:Int) (Ar As Ap:Option Addr) (r:List Int) (s:List At) (p:List Ch) (cr cs cp:Nat) (w:World) (h:Z11 w w.heap.size Ar r) (hb:r.length≤140737488355328) :
 Calls Tryz.prog 252 #[.agg #[.int .u8 k,.int .i64 n,.slice Ar r.length cr,.slice As s.length cs,.slice Ap p.length cp]] w fun e w'=>e=.returned (.bool (Z1J ⟨k,n,r,s,p⟩))∧Below w.heap.size w w':=by
 have y0:=Z0b w (.cells #[.int .u8 k,.int .i64 n,.slice Ar r.length cr,.slice As s.length cs,.slice Ap p.length cp] 36)
 have HH:=hid (h.ext y0)
 obtain ⟨R,hR⟩:∃ X,Z1J ⟨k,n,r,s,p⟩=X:=⟨_,rfl⟩
 rw [hR]
 unfold Z1J at hR
 have HR:=hid hR
 obtain ⟨nr,hnr⟩:∃ X,r.length=X:=⟨_,rfl⟩
 obtain ⟨ns,hns⟩:∃ X,s.length=X:=⟨_,rfl⟩
 obtain ⟨np,hnp⟩:∃ X,p.length=X:=⟨_,rfl⟩
 have NR:=hid hnr
 have NS:=hid hns
 have NP:=hid hnp
 rw [hnr,hns,hnp]
 rw [hnr,hns,hnp] at y0 HH
 rw [hnr] at hb
 clear hR hnr hns hnp h
 rcases Nat.eq_zero_or_pos nr with e1|e1
 ·subst e1
  rcases Nat.eq_zero_or_pos ns with e2|e2
  ·subst e2
   by_cases k1:k=1
   ·subst k1
    go_enter Tryz.func252,Tryz.ntmps252
    go_wp2_with (fail)
    go_ret
    exact ⟨Z0e (by rw [←HR.out];simp only [NR.out,NS.out,NP.out];first|(simp;done)|(simp<;>omega)),y0⟩
   have kb1:(k==1)=false:=beq_eq_false_iff_ne.2 k1
   by_cases k3:k=3
   ·subst k3
    by_cases hp:np=0
    ·subst hp
     go_enter Tryz.func252,Tryz.ntmps252
     go_wp2_with (fail)
     go_ret
     exact ⟨Z0e (by rw [←HR.out];simp only [NR.out,NS.out,NP.out];first|(simp;done)|(simp<;>omega)),y0⟩
    ·have hpb:((np:Int)==0)=false:=beq_eq_false_iff_ne.2 (by omega)
     go_enter Tryz.func252,Tryz.ntmps252
     go_wp2_with (fail)
     go_ret
     exact ⟨Z0e (by rw [←HR.out];simp only [NR.out,NS.out,NP.out];first|(simp [hp];done)|(simp [hp]<;>omega)),y0⟩
   have kb3:(k==3)=false:=beq_eq_false_iff_ne.2 k3
   by_cases k2:k=2
   ·subst k2
    by_cases hn:n=0
    ·subst hn
     by_cases hp:np=0
     ·subst hp
      go_enter Tryz.func252,Tryz.ntmps252
      go_wp2_with (go_at_call 322;refine Hid.out ?_)
      refine hid ?_
      refine (Z24 Ar _ cr r _ ?hn HH.out (by omega)).mono ?_
      case hn=>first|exact NR.out.symm|(have:=NR.out;omega)
      rintro e w' ⟨rfl,rfl⟩
      generalize hca:r.any (fun r => !mayR r)=C
      have HCA:=hid hca
      clear hca
      go_wp2_with (fail)
      go_ret
      exact ⟨Z0e (by rw [←HR.out];simp [NP.out,HCA.out]),y0⟩
     ·have hpb:((np:Int)==0)=false:=beq_eq_false_iff_ne.2 (by omega)
      go_enter Tryz.func252,Tryz.ntmps252
      go_wp2_with (fail)
      go_ret
      exact ⟨Z0e (by rw [←HR.out];simp only [NR.out,NS.out,NP.out];first|(simp [hp];done)|(simp [hp]<;>omega)),y0⟩
    ·have hnb:(n==0)=false:=beq_eq_false_iff_ne.2 hn
     go_enter Tryz.func252,Tryz.ntmps252
     go_wp2_with (fail)
     go_ret
     exact ⟨Z0e (by rw [←HR.out];simp only [NR.out,NS.out,NP.out];first|(simp [hn];done)|(simp [hn]<;>omega)),y0⟩
   have kb2:(k==2)=false:=beq_eq_false_iff_ne.2 k2
   have HK1:=hid k1
   have HK2:=hid k2
   have HK3:=hid k3
   clear k1 k2 k3
   go_enter Tryz.func252,Tryz.ntmps252
   go_wp2_with (fail)
   go_ret
   exact ⟨Z0e (by rw [←HR.out];simp [HK1.out,HK2.out,HK3.out]),y0⟩
  ·have hs0:(0:Int)<(ns:Int):=by omega
   by_cases k1:k=1
   ·subst k1
    go_enter Tryz.func252,Tryz.ntmps252
    go_wp2_with (fail)
    go_ret
    exact ⟨Z0e (by rw [←HR.out];simp only [NR.out,NS.out,NP.out];first|(simp;done)|(simp<;>omega)),y0⟩
   have kb1:(k==1)=false:=beq_eq_false_iff_ne.2 k1
   by_cases k3:k=3
   ·subst k3
    by_cases hp:np=0
    ·subst hp
     go_enter Tryz.func252,Tryz.ntmps252
     go_wp2_with (fail)
     go_ret
     exact ⟨Z0e (by rw [←HR.out];simp only [NR.out,NS.out,NP.out];first|(simp;done)|(simp<;>omega)),y0⟩
    ·have hpb:((np:Int)==0)=false:=beq_eq_false_iff_ne.2 (by omega)
     go_enter Tryz.func252,Tryz.ntmps252
     go_wp2_with (fail)
     go_ret
     exact ⟨Z0e (by rw [←HR.out];simp only [NR.out,NS.out,NP.out];first|(simp [hp];done)|(simp [hp]<;>omega)),y0⟩
   have kb3:(k==3)=false:=beq_eq_false_iff_ne.2 k3
   by_cases k2:k=2
   ·subst k2
    by_cases hn:n=0
    ·subst hn
     by_cases hp:np=0
     ·subst hp
      go_enter Tryz.func252,Tryz.ntmps252
      go_wp2_with (go_at_call 322;refine Hid.out ?_)
      refine hid ?_
      refine (Z24 Ar _ cr r _ ?hn HH.out (by omega)).mono ?_
      case hn=>first|exact NR.out.symm|(have:=NR.out;omega)
      rintro e w' ⟨rfl,rfl⟩
      generalize hca:r.any (fun r => !mayR r)=C
      have HCA:=hid hca
      clear hca
      go_wp2_with (fail)
      go_ret
      exact ⟨Z0e (by rw [←HR.out];simp [NP.out,HCA.out]),y0⟩
     ·have hpb:((np:Int)==0)=false:=beq_eq_false_iff_ne.2 (by omega)
      go_enter Tryz.func252,Tryz.ntmps252
      go_wp2_with (fail)
      go_ret
      exact ⟨Z0e (by rw [←HR.out];simp only [NR.out,NS.out,NP.out];first|(simp [hp];done)|(simp [hp]<;>omega)),y0⟩
    ·have hnb:(n==0)=false:=beq_eq_false_iff_ne.2 hn
     go_enter Tryz.func252,Tryz.ntmps252
     go_wp2_with (fail)
     go_ret
     exact ⟨Z0e (by rw [←HR.out];simp only [NR.out,NS.out,NP.out];first|(simp [hn];done)|(simp [hn]<;>omega)),y0⟩
   have kb2:(k==2)=false:=beq_eq_false_iff_ne.2 k2
   have HK1:=hid k1
   have HK2:=hid k2
   have HK3:=hid k3
   clear k1 k2 k3
   go_enter Tryz.func252,Tryz.ntmps252
   go_wp2_with (fail)
   go_ret
   exact ⟨Z0e (by rw [←HR.out];simp [HK1.out,HK2.out,HK3.out]),y0⟩
 ·have hr0:(0:Int)<(nr:Int):=by omega
  by_cases k1:k=1
  ·subst k1
   go_enter Tryz.func252,Tryz.ntmps252
   go_wp2_with (fail)
   go_ret
   exact ⟨Z0e (by rw [←HR.out];simp only [NR.out,NS.out,NP.out];first|(simp;done)|(simp<;>omega)),y0⟩
  have kb1:(k==1)=false:=beq_eq_false_iff_ne.2 k1
  by_cases k3:k=3
  ·subst k3
   by_cases hp:np=0
   ·subst hp
    go_enter Tryz.func252,Tryz.ntmps252
    go_wp2_with (fail)
    go_ret
    exact ⟨Z0e (by rw [←HR.out];simp only [NR.out,NS.out,NP.out];first|(simp;done)|(simp<;>omega)),y0⟩
   ·have hpb:((np:Int)==0)=false:=beq_eq_false_iff_ne.2 (by omega)
    go_enter Tryz.func252,Tryz.ntmps252
    go_wp2_with (fail)
    go_ret
    exact ⟨Z0e (by rw [←HR.out];simp only [NR.out,NS.out,NP.out];first|(simp [hp];done)|(simp [hp]<;>omega)),y0⟩
  have kb3:(k==3)=false:=beq_eq_false_iff_ne.2 k3
  by_cases k2:k=2
  ·subst k2
   by_cases hn:n=0
   ·subst hn
    by_cases hp:np=0
    ·subst hp
     go_enter Tryz.func252,Tryz.ntmps252
     go_wp2_with (go_at_call 322;refine Hid.out ?_)
     refine hid ?_
     refine (Z24 Ar _ cr r _ ?hn HH.out (by omega)).mono ?_
     case hn=>first|exact NR.out.symm|(have:=NR.out;omega)
     rintro e w' ⟨rfl,rfl⟩
     generalize hca:r.any (fun r => !mayR r)=C
     have HCA:=hid hca
     clear hca
     go_wp2_with (fail)
     go_ret
     exact ⟨Z0e (by rw [←HR.out];simp [NP.out,HCA.out]),y0⟩
    ·have hpb:((np:Int)==0)=false:=beq_eq_false_iff_ne.2 (by omega)
     go_enter Tryz.func252,Tryz.ntmps252
     go_wp2_with (fail)
     go_ret
     exact ⟨Z0e (by rw [←HR.out];simp only [NR.out,NS.out,NP.out];first|(simp [hp];done)|(simp [hp]<;>omega)),y0⟩
   ·have hnb:(n==0)=false:=beq_eq_false_iff_ne.2 hn
    go_enter Tryz.func252,Tryz.ntmps252
    go_wp2_with (fail)
    go_ret
    exact ⟨Z0e (by rw [←HR.out];simp only [NR.out,NS.out,NP.out];first|(simp [hn];done)|(simp [hn]<;>omega)),y0⟩
  have kb2:(k==2)=false:=beq_eq_false_iff_ne.2 k2
  have HK1:=hid k1
  have HK2:=hid k2
  have HK3:=hid k3
  clear k1 k2 k3
  go_enter Tryz.func252,Tryz.ntmps252
  go_wp2_with (fail)
  go_ret
  exact ⟨Z0e (by rw [←HR.out];simp [HK1.out,HK2.out,HK3.out]),y0⟩
def oneP (l:List Ky) (o:Opd):Int:=
 if Z1J o=true∧1≤Z07 o∧Z07 o≤536870912 then (if mayS l o.s=0 then mayP l o.p else mayS l o.s) else 3
def okOp (o:Opd):Prop:=okVr o.s∧okVs o.p∧o.r.length≤100000000∧o.s.length≤100000000∧o.p.length≤100000000
theorem Y3y (sc:Nat) (l:List Ky) (k n:Int) (Ar As Ap:Option Addr) (r:List Int) (s:List At) (p:List Ch) (cr cs cp:Nat) (w:World) (hS:Sch w sc l) (h1:Z11 w w.heap.size Ar r) (h2:RdAt w w.heap.size As s) (h3:RdCh w w.heap.size Ap p) (ho:okOp ⟨k,n,r,s,p⟩) (hT:Utf8Tabs 0 1 w) :
 Calls Tryz.prog 168 #[.pointer (some ⟨sc,0,none⟩),.agg #[.int .u8 k,.int .i64 n,.slice Ar r.length cr,.slice As s.length cs,.slice Ap p.length cp]] w fun e w'=>e=.returned (.int .i64 (oneP l ⟨k,n,r,s,p⟩))∧Below w.heap.size w w':=by
 obtain ⟨v1,v2,b1,b2,b3⟩:=ho
 simp only at v1 v2 b1 b2 b3
 have y:=Z0b w (.cells #[.int .u8 k,.int .i64 n,.slice Ar r.length cr,.slice As s.length cs,.slice Ap p.length cp] 36)
 have hbx:=heap_alloc_new w (.cells #[.int .u8 k,.int .i64 n,.slice Ar r.length cr,.slice As s.length cs,.slice Ap p.length cp] 36)
 obtain ⟨R,hR⟩:∃ X,oneP l ⟨k,n,r,s,p⟩=X:=⟨_,rfl⟩
 rw [hR]
 unfold oneP at hR
 have HR:=hid hR
 have HBX:=hid hbx
 clear hR hbx
 go_enter Tryz.func168,Tryz.ntmps168
 go_wp2_with (go_at_call 252;refine Hid.out ?_)
 refine hid ?_
 refine (Y3x k n Ar As Ap r s p cr cs cp _ (h1.ext y) (by omega)).mono ?_
 rintro e w1 ⟨rfl,y1⟩
 have HBX:=hid ((y1.block _ (Z0c HBX.out)).trans HBX.out)
 replace y:=Z0a y y1
 clear y1
 generalize hF:Z1J ⟨k,n,r,s,p⟩=F
 have HF:=hid hF
 clear hF
 cases F with
 | false=>
   go_wp2_with (fail)
   go_ret
   exact ⟨Z0k (by rw [←HR.out,HF.out];rfl),y⟩
 | true=>
   obtain ⟨c0,c1,c2,c3,c4⟩:=Z0x HBX.out
   go_wp2_with (go_at_call 160;refine Hid.out ?_)
   refine hid ?_
   refine (Z5W k n Ar As Ap r.length s.length p.length cr cs cp _).mono ?_
   rintro e w2 ⟨rfl,y2⟩
   have HBX:=hid ((y2.block _ (Z0c HBX.out)).trans HBX.out)
   replace y:=Z0a y y2
   clear y2 c0 c1 c2 c3 c4
   obtain ⟨Z,hZ⟩:∃ Z:Int,(if k=2 then (r.length:Int) else n)=Z:=⟨_,rfl⟩
   rw [hZ]
   have HZ:Hid (Z07 ⟨k,n,r,s,p⟩=Z):=hid hZ
   have HZ2:=hid hZ
   clear hZ
   by_cases z1:Z<1
   ·go_wp2_with (fail)
    go_ret
    exact ⟨Z0k (by rw [←HR.out,HZ.out,if_neg (show ¬ (_∧1≤Z∧_) by omega)]),y⟩
   ·obtain ⟨c0,c1,c2,c3,c4⟩:=Z0x HBX.out
    go_wp2_with (go_at_call 160;refine Hid.out ?_)
    refine hid ?_
    refine (Z5W k n Ar As Ap r.length s.length p.length cr cs cp _).mono ?_
    rintro e w2 ⟨rfl,y2⟩
    have HBX:=hid ((y2.block _ (Z0c HBX.out)).trans HBX.out)
    replace y:=Z0a y y2
    clear y2 c0 c1 c2 c3 c4
    rw [HZ2.out]
    by_cases z2:536870912<Z
    ·go_wp2_with (fail)
     go_ret
     exact ⟨Z0k (by rw [←HR.out,HZ.out,if_neg (show ¬ (_∧1≤Z∧Z≤536870912) by omega)]),y⟩
    ·have HR2:Hid ((if mayS l s=0 then mayP l p else mayS l s)=R):=hid (by rw [←HR.out,HZ.out,HF.out,if_pos (show true=true∧1≤Z∧Z≤536870912 from ⟨rfl,by omega,by omega⟩)])
     obtain ⟨c0,c1,c2,c3,c4⟩:=Z0x HBX.out
     go_wp2_with (go_at_call 52;refine Hid.out ?_)
     refine hid ?_
     refine (Z7Q sc l As s.length cs s _ rfl (h2.ext y) (by omega) (hS.ext y) v1 (Utf8Tabs_below hT y)).mono ?_
     rintro e w3 ⟨rfl,y3⟩
     have HBX:=hid ((y3.block _ (Z0c HBX.out)).trans HBX.out)
     replace y:=Z0a y y3
     clear y3 c0 c1 c2 c3 c4
     generalize mayS l s=E at HR2 ⊢
     by_cases hE:E=0
     ·subst hE
      have HR3:Hid (mayP l p=R):=hid (by rw [←HR2.out,if_pos rfl])
      obtain ⟨c0,c1,c2,c3,c4⟩:=Z0x HBX.out
      go_wp2_with (go_at_call 107;refine Hid.out ?_)
      refine hid ?_
      refine (Y5p sc l Ap p.length cp p _ rfl (h3.ext y) (by omega) (hS.ext y) v2 (Utf8Tabs_below hT y)).mono ?_
      rintro e w4 ⟨rfl,y4⟩
      rw [HR3.out]
      replace y:=Z0a y y4
      go_wp2_with (fail)
      go_ret
      exact ⟨rfl,y⟩
     ·have hne:(E==0)=false:=beq_eq_false_iff_ne.2 hE
      have HE:Hid (E=R):=hid (by rw [←HR2.out,if_neg hE])
      clear hE
      go_wp2_with (fail)
      go_ret
      exact ⟨Z0k HE.out,y⟩
def Z0z (l:List Ky) (st:Bool×Int) (x:OpS):Bool×Int:=
 if st.1=true then st else if oneP l x.o=3 then (true,3) else (false,if oneP l x.o=0 then st.2 else oneP l x.o)
def mayO (l:List Ky) (x:List OpS):Int:=
 if (x.foldl (Z0z l) (false,0)).1=true then 3 else if Z0W x≤536870912∧Z04 x≤536870912 then (x.foldl (Z0z l) (false,0)).2 else 3
theorem Z1T (l:List Ky) (a:Int):∀ x:List OpS,x.foldl (Z0z l) (true,a)=(true,a)
 | []=>rfl
 | x::r=>by rw [List.foldl_cons];unfold Z0z;simp only [if_true];exact Z1T l a r
theorem Y16 {l:List Ky} {x:List OpS} {m:Nat} {o:OpS} {a:Int} {R:Bool×Int} (hd:x.drop m=o::x.drop (m+1)) (h:(x.drop m).foldl (Z0z l) (false,a)=R):(x.drop (m+1)).foldl (Z0z l) (Z0z l (false,a) o)=R:=by
 rw [hd] at h;exact h
theorem Z5v (sc:Nat) (l:List Ky) (A:Option Addr) (n c:Nat) (x:List OpS) (w:World) (hn:n=x.length) (h:RdOp w w.heap.size A x) (hb:n≤140737488355328) (hS:Sch w sc l) (ho:∀ o∈x,okOp o.o) (hT:Utf8Tabs 0 1 w) :
 Calls Tryz.prog 86 #[.pointer (some ⟨sc,0,none⟩),.slice A n c] w fun e w'=>e=.returned (.int .i64 (mayO l x))∧Below w.heap.size w w':=by
 have N:=hid hn
 obtain ⟨R,hR⟩:∃ X,mayO l x=X:=⟨_,rfl⟩
 rw [hR]
 unfold mayO at hR
 obtain ⟨ST,hST⟩:∃ X,x.foldl (Z0z l) (false,0)=X:=⟨_,rfl⟩
 rw [hST] at hR
 have HR:=hid hR
 have HST:=hid hST
 clear hR hST hn
 go_enter Tryz.func86,Tryz.ntmps86
 go_wp2_with (fail)
 go_loopg [5,11] n (fun g av iv wr => ∃ (m:Nat) (a:Int),m≤n∧g=n-m∧av=.int .i64 a∧iv=.int .i64 (m:Int)∧Below w.heap.size w wr∧Hid ((x.drop m).foldl (Z0z l) (false,a)=ST))
 case atStart=>exact ⟨0,0,by omega,rfl,rfl,rfl,Below.refl _ _,hid (by rw [List.drop_zero];exact HST.out)⟩
 case round=>
  obtain ⟨m,a,hm,hg,rfl,rfl,y,HI⟩:=hrel
  have HG:=hid hg
  clear hg
  by_cases hlt:m<n
  ·have hl1:m<x.length:=by have:=N.out;omega
   obtain ⟨ad,o,had0,had,hd1,hx1,hc0⟩:=(h.1.below y (Nat.le_refl _)).el hl1
   subst had0
   have hmem:=List.mem_of_getElem? hx1
   have hok:=ho o hmem
   obtain ⟨g1,g2,g3⟩:=h.2 o hmem
   have HI2:=hid (Y16 hd1 HI.out)
   obtain ⟨⟨k,nn,r,s,p⟩,Ar,cr,As,cs,Ap,cp⟩:=o
   obtain ⟨r0,r1,r2,r3,r4⟩:=Z0r hc0
   simp only at g1 g2 g3
   have y2:=Z0a y (Z0b wr (.cells #[.int .u8 k,.int .i64 nn,.slice Ar r.length cr,.slice As s.length cs,.slice Ap p.length cp] 36))
   have hw2:IntKind.i64.wrap ((m:Int)+1)=(m:Int)+1:=IntWalk.i64_in _ (by omega)
   clear hc0 hd1 hx1 hmem HI
   go_wp2_with (go_at_call 168;refine Hid.out ?_)
   refine hid ?_
   refine (Y3y sc l k nn Ar As Ap r s p cr cs cp _ (hS.ext y2) (g1.ext y2) (g2.ext y2) (g3.ext y2) hok (Utf8Tabs_below hT y2)).mono ?_
   rintro e w3 ⟨rfl,y3⟩
   have yy:=Z0a y2 y3
   have HI3:Hid ((x.drop (m+1)).foldl (Z0z l) (if oneP l ⟨k,nn,r,s,p⟩=3 then (true,3) else (false,if oneP l ⟨k,nn,r,s,p⟩=0 then a else oneP l ⟨k,nn,r,s,p⟩))=ST):=hid HI2.out
   generalize oneP l ⟨k,nn,r,s,p⟩=E at HI3 ⊢
   clear HI2
   by_cases e3:E=3
   ·subst e3
    have HS3:Hid (ST=(true,3)):=hid (by rw [←HI3.out,if_pos rfl,Z1T])
    go_wp2_with (fail)
    go_ret
    exact ⟨Z0k (by rw [←HR.out,HS3.out];rfl),yy⟩
   ·have e3b:(E==3)=false:=beq_eq_false_iff_ne.2 e3
    by_cases e0:E=0
    ·subst e0
     have HI4:Hid ((x.drop (m+1)).foldl (Z0z l) (false,a)=ST):=hid (by rw [←HI3.out,if_neg e3,if_pos rfl])
     clear e3 e3b
     go_wp2_with (fail)
     go_roundg (n-(m+1))
     case measure=>have:=HG.out;omega
     case rel=>exact ⟨m+1,a,by omega,rfl,rfl,by go_num,yy,HI4⟩
    ·have e0b:(E==0)=false:=beq_eq_false_iff_ne.2 e0
     have HI4:Hid ((x.drop (m+1)).foldl (Z0z l) (false,E)=ST):=hid (by rw [←HI3.out,if_neg e3,if_neg e0])
     clear e3 e0
     go_wp2_with (fail)
     go_roundg (n-(m+1))
     case measure=>have:=HG.out;omega
     case rel=>exact ⟨m+1,E,by omega,rfl,rfl,by go_num,yy,HI4⟩
  ·have HS4:Hid (ST=(false,a)):=hid (by rw [←HI.out,List.drop_eq_nil_of_le (by have:=N.out;omega)];rfl)
   have HR2:Hid ((if Z0W x≤536870912∧Z04 x≤536870912 then a else 3)=R):=hid (by rw [←HR.out,HS4.out];rfl)
   clear HI HG
   go_wp2_with (go_at_call 81;refine Hid.out ?_)
   refine hid ?_
   refine (Z5Y A n c x _ N.out (h.ext y).1 hb).mono ?_
   rintro e w3 ⟨rfl,y3⟩
   replace y:=Z0a y y3
   generalize Z0W x=T at HR2 ⊢
   by_cases t1:536870912<T
   ·go_wp2_with (fail)
    go_ret
    exact ⟨Z0k (by rw [←HR2.out,if_neg (by omega)]),y⟩
   ·go_wp2_with (go_at_call 82;refine Hid.out ?_)
    refine hid ?_
    refine (Z8l A n c x _ N.out (h.ext y).1 hb).mono ?_
    rintro e w4 ⟨rfl,y4⟩
    replace y:=Z0a y y4
    generalize Z04 x=U at HR2 ⊢
    by_cases u1:536870912<U
    ·go_wp2_with (fail)
     go_ret
     exact ⟨Z0k (by rw [←HR2.out,if_neg (by omega)]),y⟩
    ·have HR3:Hid (a=R):=hid (by rw [←HR2.out,if_pos ⟨by omega,by omega⟩])
     go_wp2_with (fail)
     go_ret
     exact ⟨Z0k HR3.out,y⟩
theorem Z6M (b1 b2:Nat) (pr:At→Bool) (A:Option Addr) (n c:Nat) (l:List At) (w:World) (hn:n=l.length) (h:RdAt w w.heap.size A l) (hb:n≤140737488355328)
 (hcl:∀ (x1 x2 x3 x4:Int) (x5:ByteArray) (w':World),Below w.heap.size w w'→Calls Tryz.prog 126 #[.agg #[.int .i64 x1,.int .u8 x2,.int .i64 x3,.int .u64 x4,.string x5],.pointer (some ⟨b1,0,none⟩),.pointer (some ⟨b2,0,none⟩)] w' fun e w''=>e=.returned (.bool (pr ⟨x1,⟨x2,x3,x4,x5⟩⟩))∧Below w'.heap.size w' w'') :
 Calls Tryz.prog 219 #[.slice A n c,.func (.func 126) #[] #[.pointer (some ⟨b1,0,none⟩),.pointer (some ⟨b2,0,none⟩)]] w fun e w' => ∃ i:Int,e=.returned (.int .i64 i)∧Z6l pr l i∧Below w.heap.size w w':=by
 have N:=hid hn
 have HCL:=hid hcl
 clear hn hcl
 go_enter Tryz.func219,Tryz.ntmps219
 go_wp2_with (fail)
 go_loopg [8] n (fun g iv wr => ∃ i:Nat,i≤n∧g=n-i∧iv=.int .i64 i∧Below w.heap.size w wr∧Hid (∀ x∈l.take i,pr x=false))
 case atStart=>exact ⟨0,by omega,rfl,rfl,Below.refl _ _,hid (by simp)⟩
 case round=>
  obtain ⟨i,hi,hg,rfl,hbw,HI⟩:=hrel
  have HG:=hid hg
  clear hg
  by_cases hlt:i<n
  ·have hil:i<l.length:=by have:=N.out;omega
   obtain ⟨ad,x,rfl,_,_,hx,hc1⟩:=(h.below hbw (Nat.le_refl _)).el hil
   have HT:Hid (l.take (i+1)=l.take i++[x]):=hid (by rw [List.take_add_one,hx];rfl)
   have HX:=hid hx
   clear hx hil
   obtain ⟨x1,x2,x3,x4,x5⟩:=x
   obtain ⟨r0,r1,r2,r3,r4⟩:=Z0P hc1
   clear hc1
   by_cases hp:pr ⟨x1,⟨x2,x3,x4,x5⟩⟩=true
   ·go_wp2_with (go_at_call 126;refine (HCL.out _ _ _ _ _ _ hbw).mono ?_;rintro e w' ⟨rfl,hb'⟩)
    go_ret
    exact ⟨i,rfl,.inr ⟨i,rfl,by have:=N.out;omega,HI.out,_,HX.out,hp⟩,hbw.trans (hb'.mono hbw.size)⟩
   ·have hp':pr ⟨x1,⟨x2,x3,x4,x5⟩⟩=false:=by simpa using hp
    clear hp
    go_wp2_with (go_at_call 126;refine (HCL.out _ _ _ _ _ _ hbw).mono ?_;rintro e w' ⟨rfl,hb'⟩)
    have hbw':=hbw.trans (hb'.mono hbw.size)
    go_roundg (n-(i+1))
    case measure=>have:=HG.out;omega
    case rel=>
     refine ⟨i+1,by omega,rfl,by go_num,hbw',hid ?_⟩
     intro y hy
     rw [HT.out] at hy
     rcases List.mem_append.1 hy with hy|hy
     ·exact HI.out y hy
     ·simp at hy;rw [hy];exact hp'
  ·go_wp2_with (fail)
   go_ret
   refine ⟨-1,rfl,.inl ⟨rfl,?_⟩,hbw⟩
   have h1:=HI.out
   rw [List.take_of_length_le (by have:=N.out;omega)] at h1
   exact h1
theorem Z6m (b1 b2:Nat) (pr:At→Bool) (A:Option Addr) (n c base:Nat) (l:List At) (w:World) (hown:OwAt w base (.slice A n c) l) (hbase:base≤w.heap.size) (hb:n≤100000000) (hn:n=l.length)
 (hcl:∀ (x1 x2 x3 x4:Int) (x5:ByteArray) (w':World),Below base w w'→Calls Tryz.prog 126 #[.agg #[.int .i64 x1,.int .u8 x2,.int .i64 x3,.int .u64 x4,.string x5],.pointer (some ⟨b1,0,none⟩),.pointer (some ⟨b2,0,none⟩)] w' fun e w''=>e=.returned (.bool (pr ⟨x1,⟨x2,x3,x4,x5⟩⟩))∧Below w'.heap.size w' w'') :
 Calls Tryz.prog 124 #[.slice A n c,.func (.func 126) #[] #[.pointer (some ⟨b1,0,none⟩),.pointer (some ⟨b2,0,none⟩)]] w fun e w'=>
  ∃ A' c',e=.returned (.slice A' (l.filter (fun x => !pr x)).length c')∧OwAt w' base (.slice A' (l.filter (fun x => !pr x)).length c') (l.filter (fun x => !pr x))∧Below base w w':=by
 have N:=hid hn
 have HCL:=hid hcl
 have hcap:=hown.cap
 have hlc:n≤c:=by rw [hn];exact hcap.1
 have hcm:c≤2 ^ 63-1:=hcap.2
 clear hn hcl hcap
 generalize hR:l.filter (fun x => !pr x)=R
 have HR:=hid hR
 clear hR
 go_enter Tryz.func124,Tryz.ntmps124
 go_wp2_with (go_at_call 219;refine Hid.out ?_)
 refine hid ?_
 refine (Z6M b1 b2 pr A n c l w N.out (hown.rd At.enc_len) (by omega) (fun x1 x2 x3 x4 x5 w' hb'=>HCL.out x1 x2 x3 x4 x5 w' (hb'.mono hbase))).mono ?_
 rintro e w1 ⟨ix,rfl,hix,hb1⟩
 have hbw1:Below base w w1:=hb1.mono hbase
 have hown1:=hown.below hb1 (Nat.le_refl _)
 have hbase1:base≤w1.heap.size:=Nat.le_trans hbase hb1.size
 clear hown hb1
 rcases hix with ⟨rfl,hall⟩ | ⟨i0,rfl,hi0,hpre,x0,hx0,hpx0⟩
 ·have hRl:R=l:=by
   rw [←HR.out]
   exact List.filter_eq_self.2 (fun x hx=>by simp [hall x hx])
  have HRL:=hid hRl
  clear hRl hall
  go_wp2_with (fail)
  go_ret
  refine ⟨A,c,?_,?_,hbw1⟩
  ·rw [HRL.out,←N.out];rfl
  ·rw [HRL.out,←N.out];exact hown1
 ·have hne:((i0:Int) == -1)=false:=beq_eq_false_iff_ne.2 (by omega)
  have hi0n:i0<n:=by rw [N.out];exact hi0
  have hst:Hid (l.take i0=(l.take (i0+1)).filter (fun x => !pr x)):=hid (by
   rw [List.take_add_one,hx0,List.filter_append,List.filter_eq_self.2 (fun x hx=>by simp [hpre x hx])]
   simp [hpx0])
  clear hpre hx0 hpx0 hi0
  go_wp2_with (fail)
  go_loopg [5,6] (n-(i0+1)) (fun g iv jv wr => ∃ (i j:Nat) (m:List At),i<j∧j≤n∧g=n-j∧iv=.int .i64 i∧jv=.int .i64 j∧OwAt wr base (.slice A n c) m∧base≤wr.heap.size∧Below base w wr ∧
   Hid (m.length=n∧m.drop j=l.drop j∧m.take i=(l.take j).filter (fun x => !pr x)))
  case atStart=>exact ⟨i0,i0+1,l,by omega,by omega,rfl,rfl,by go_num,hown1,hbase1,hbw1,hid ⟨N.out.symm,rfl,hst.out⟩⟩
  case round=>
   clear hown1 hbase1 hbw1 hst hne hi0n
   obtain ⟨i,j,m,hij,hj,hg,rfl,rfl,hown,hbs,hbw,HI⟩:=hrel
   have HG:=hid hg
   clear hg
   by_cases hlt:j<n
   ·have hjm:j<m.length:=by have:=HI.out.1;omega
    obtain ⟨ad,x,rfl,_,hdm,hx,hc1⟩:=(hown.rd At.enc_len).el hjm
    have HX:Hid (l.take (j+1)=l.take j++[x]∧m.drop (j+1)=l.drop (j+1)):=hid (by
     obtain ⟨h1,h2,h3⟩:=HI.out
     have h4:l[j]? = some x:=by
      have:=congrArg (fun t=>t[0]?) h2
      simp only [List.getElem?_drop,Nat.add_zero] at this
      rw [←this,hx]
     refine ⟨by rw [List.take_add_one,h4];rfl,?_⟩
     have:=congrArg (fun t=>t.drop 1) h2
     simpa [List.drop_drop] using this)
    clear hdm hx hjm
    obtain ⟨x1,x2,x3,x4,x5⟩:=x
    obtain ⟨r0,r1,r2,r3,r4⟩:=Z0P hc1
    clear hc1
    have hbx0:=heap_alloc_new wr (.cells #[.int .i64 x1,.int .u8 x2,.int .i64 x3,.int .u64 x4,.string x5] 108)
    have hbwA:=hbw.alloc hbs (.cells #[.int .i64 x1,.int .u8 x2,.int .i64 x3,.int .u64 x4,.string x5] 108)
    have hownA:=hown.alloc (.cells #[.int .i64 x1,.int .u8 x2,.int .i64 x3,.int .u64 x4,.string x5] 108)
    have hsz:=Z5L wr (.cells #[.int .i64 x1,.int .u8 x2,.int .i64 x3,.int .u64 x4,.string x5] 108)
    have hwbA:∀ k,wb (.slice (some ad) n c)=some k→k<wr.heap.size:=fun k hk=>(hown.wb_lt k hk).2
    by_cases hp:pr ⟨x1,⟨x2,x3,x4,x5⟩⟩=true
    ·have HBX0:=hid hbx0
     have HWB:=hid hwbA
     have HSZ:=hid hsz
     clear hbx0 hwbA hsz
     go_wp2_with (go_at_call 126;refine (HCL.out _ _ _ _ _ _ hbwA).mono ?_;rintro e w2 ⟨rfl,hb2⟩)
     have hbw2:Below base w w2:=hbwA.trans (hb2.mono (by rw [←HSZ.out];omega))
     have hown2:=hownA.below hb2 (Nat.le_refl _)
     have hbs2:base≤w2.heap.size:=by have:=hb2.size;rw [←HSZ.out] at this;omega
     go_roundg (n-(j+1))
     case measure=>have:=HG.out;omega
     case rel=>
      obtain ⟨h1,h2,h3⟩:=HI.out
      obtain ⟨h4,h5⟩:=HX.out
      exact ⟨i,j+1,m,by omega,by omega,rfl,rfl,by go_num,hown2,hbs2,hbw2,hid ⟨h1,h5,by rw [h4,List.filter_append,h3];simp [hp]⟩⟩
    ·have hp':pr ⟨x1,⟨x2,x3,x4,x5⟩⟩=false:=by simpa using hp
     clear hp
     have HBX0:=hid hbx0
     have HWB:=hid hwbA
     have HSZ:=hid hsz
     clear hbx0 hwbA hsz
     go_wp2_with (go_at_call 126;refine Hid.out ?_)
     refine hid ?_
     refine (HCL.out _ _ _ _ _ _ hbwA).mono ?_
     rintro e w2 ⟨rfl,hb2⟩
     have hbw2:Below base w w2:=hbwA.trans (hb2.mono (by rw [←HSZ.out];omega))
     have hown2:=hownA.below hb2 (Nat.le_refl _)
     have hbs2:base≤w2.heap.size:=by have:=hb2.size;rw [←HSZ.out] at this;omega
     have hbx2:=(hb2.block wr.heap.size (by rw [←HSZ.out];omega)).trans HBX0.out
     obtain ⟨b0,b1,b2,b3,b4⟩:=Z0x hbx2
     have him:i<m.length:=by have:=HI.out.1;omega
     have hin:i<n:=by omega
     clear hbx2
     obtain ⟨i1,hi1,hz1,hz2,hz3⟩:=info_parts Tryz.infoAt
     have I1:=hid hi1
     have Z2:=hid hz2
     clear hi1 hz1 hz2 hz3 hownA hbwA
     go_wp2_with (refine Z3V rfl 108 (.tmp 33) (.tmp 32) rfl rfl i1 I1.out Z2.out At.enc_len At.enc_one hown2 him ⟨x1,⟨x2,x3,x4,x5⟩⟩ (cs:=#[.int .i64 x1,.int .u8 x2,.int .i64 x3,.int .u64 x4,.string x5]) rfl (p:=ad.add (i*5)) rfl rfl rfl ?_;intro w3 hown3 hg3)
     have hbw3:Below base w w3:=hbw2.grown hg3 hbs2 (fun k hk=>(hown2.wb_lt k hk).1)
     have hbs3:base≤w3.heap.size:=Nat.le_trans hbs2 hg3.size
     go_roundg (n-(j+1))
     case measure=>have:=HG.out;omega
     case rel=>
      obtain ⟨h1,h2,h3⟩:=HI.out
      obtain ⟨h4,h5⟩:=HX.out
      refine ⟨i+1,j+1,m.set i ⟨x1,⟨x2,x3,x4,x5⟩⟩,by omega,by omega,rfl,by go_num,by go_num,hown3,hbs3,hbw3,hid ⟨by rw [List.length_set];exact h1,by rw [List.drop_set_of_lt (by omega)];exact h5,?_⟩⟩
      rw [h4,List.filter_append,List.take_add_one,List.getElem?_set_self him,List.take_set_of_le (Nat.le_refl i),h3]
      simp [hp']
   ·have hjn:j=n:=by omega
    have hm0:=HI.out
    obtain ⟨i1,hi1,hz1,hz2,hz3⟩:=info_parts Tryz.infoAt
    have I1:=hid hi1
    have Z1:=hid hz1
    have hmR:m.take i=R:=by
     obtain ⟨h1,h2,h3⟩:=hm0
     rw [h3,←HR.out,List.take_of_length_le (by have:=N.out;omega)]
    have him:i≤m.length:=by have:=hm0.1;omega
    have hiR:i=R.length:=by rw [←hmR,List.length_take,Nat.min_eq_left him]
    have HIR:=hid hiR
    have HMR:=hid hmR
    have HML:Hid (m.length=n):=hid hm0.1
    clear hi1 hz1 hz2 hz3 hmR hiR hm0 hjn
    rcases Nat.lt_or_ge i c with hci|hci
    ·have hne:¬ c=i:=by omega
     go_wp2_with (refine Z1w (i:=i) (X:=A.map (fun x=>x.add (i*5))) rfl (.tmp 38) _ rfl rfl Tryz.slAt i1 _ I1.out Z1.out rfl (by intro u hu;exact At.enc_one ⟨0,V.zero⟩ u hu) At.enc_len hown him (by exact .inr rfl) (by rw [HML.out]) rfl ?_;intro w3 hown3 hg3)
     have hbw3:Below base w w3:=hbw.grown hg3 hbs (fun k hk=>(hown.wb_lt k hk).1)
     rw [HMR.out] at hown3
     have hri:=HIR.out
     subst hri
     go_ret
     exact ⟨A,c,rfl,hown3,hbw3⟩
    ·go_wp2_with (refine Z1w (i:=i) (X:=A) rfl (.tmp 38) _ rfl rfl Tryz.slAt i1 _ I1.out Z1.out rfl (by intro u hu;exact At.enc_one ⟨0,V.zero⟩ u hu) At.enc_len hown him (by have:=HML.out;left;omega) (by rw [HML.out]) rfl ?_;intro w3 hown3 hg3)
     have hbw3:Below base w w3:=hbw.grown hg3 hbs (fun k hk=>(hown.wb_lt k hk).1)
     rw [HMR.out] at hown3
     have hri:=HIR.out
     subst hri
     go_ret
     exact ⟨A,c,rfl,hown3,hbw3⟩
theorem Y0X {x:Int}:∀ {keys:List Int},keys.Pairwise (· < ·)→keys.length≤(keys.filter (fun k=>decide (k≠x))).length+1
 | [],_=>by simp
 | a::r,h=>by
   have h1:=List.pairwise_cons.1 h
   by_cases e:a=x
   ·have hf:(a::r).filter (fun k=>decide (k≠x))=r:=by
     rw [List.filter_cons,if_neg (by simp [e])]
     refine List.filter_eq_self.2 fun b hb=>?_
     have:=h1.1 b hb
     simp;omega
    rw [hf];simp
   ·rw [List.filter_cons,if_pos (by simp [e])]
    have:=Y0X h1.2 (x:=x)
    simp only [List.length_cons];omega
theorem Y5s {l:List Ky}:∀ {keys:List Int},keys.Pairwise (· < ·)→(∀ k∈keys,(Z0O l k).isSome=true)→keys.length≤l.length:=by
 induction l with
 | nil=>
   intro keys _ h
   cases keys with
   | nil=>simp
   | cons a r=>have:=h a (by simp);simp [Z0O] at this
 | cons x l ih=>
   intro keys hp h
   have h1:=ih (keys:=keys.filter (fun k=>decide (k≠x.id))) (List.Pairwise.filter _ hp) (fun k hk=>by
    obtain ⟨hk1,hk2⟩:=List.mem_filter.1 hk
    have hk2:¬ k=x.id:=by simpa using hk2
    have h3:=h k hk1
    have h4:¬ x.id=k:=fun e=>hk2 e.symm
    simpa [Z0O,h4] using h3)
   have h2:=Y0X (x:=x.id) hp
   simp only [List.length_cons];omega
theorem Z8H {l:List Ky} {id:Int} {v:V} (h:Z2o l id v=true):(Z0O l id).isSome=true:=by
 unfold Z2o at h
 cases hq:Z0O l id with
 | none=>rw [hq] at h;cases h
 | some k=>rfl
theorem Y3z {l:List Ky} {p:List At} (hp:Z4b p=true) (h:∀ c∈p,Z05 l c=true):p.length≤l.length:=by
 have h1:=Z2M.1 hp
 have h2:(p.map (·.key)).Pairwise (· < ·):=List.pairwise_map.2 h1
 have h3:=Y5s (l:=l) h2 (fun k hk=>by
  obtain ⟨c,hc,rfl⟩:=List.mem_map.1 hk
  exact Z8H (h c hc))
 simpa using h3
theorem stayA {l:List Ky} (hl:l.length≤64) {p:List At} (hs:Srt At.key p) (h:∀ c∈p,okA c=true∧Z05 l c=true):mayS l p=0:=by
 have h1:=Y3z (l:=l) (Z2M.2 hs) (fun c hc=>(h c hc).2)
 unfold mayS
 rw [if_neg (by omega),if_pos ⟨Z2M.2 hs,List.all_eq_true.2 (fun c hc=>(h c hc).1)⟩,if_pos (List.all_eq_true.2 (fun c hc=>(h c hc).2))]
def Z1L (l:List Ky) (b:Bool) (p:List At):List At:=p.filter (fun c=>Z13 l b c.key)
theorem Y3A {l:List Ky} {id:Int} (h:(Z0O l id).isSome=true):Z13 l true id = !Z13 l false id:=by
 unfold Z13
 cases hq:Z0O l id with
 | none=>rw [hq] at h;cases h
 | some k=>simp only;cases k.block<;>rfl
theorem Y3B {l:List Ky} {p:List At} (ht:∀ a∈p,Z05 l a=true):(Z1L l false p).length+(Z1L l true p).length=p.length:=by
 induction p with
 | nil=>rfl
 | cons c p ih=>
   have h1:=ih (fun a ha=>ht a (List.mem_cons_of_mem _ ha))
   have h3:=Y3A (Z8H (ht c (by simp)))
   unfold Z1L at *
   rw [List.filter_cons,List.filter_cons]
   cases h4:Z13 l false c.key<;>rw [h4] at h3<;>simp [h3]<;>omega
theorem Z9V (s b1 b2:Nat) (l:List Ky) (b:Bool) (x1 x2 x3 x4:Int) (x5:ByteArray) (w:World) (hS:Sch w s l)
 (h1:w.heap[b1]? = some (.cells #[.pointer (some ⟨s,0,none⟩)] 29 (0,0))) (h2:w.heap[b2]? = some (.cells #[.bool b] 4 (0,0))) :
 Calls Tryz.prog 126 #[.agg #[.int .i64 x1,.int .u8 x2,.int .i64 x3,.int .u64 x4,.string x5],.pointer (some ⟨b1,0,none⟩),.pointer (some ⟨b2,0,none⟩)] w fun e w'=>e=.returned (.bool (!Z13 l b x1))∧Below w.heap.size w w':=by
 have y0:=Z0b w (.cells #[.int .i64 x1,.int .u8 x2,.int .i64 x3,.int .u64 x4,.string x5] 108)
 have c1:=Z2n ((y0.block b1 (Z0c h1)).trans h1)
 have g2:=(y0.block b2 (Z0c h2)).trans h2
 have HS:=hid (hS.ext y0)
 have G2:=hid g2
 clear g2 hS
 go_enter Tryz.func126,Tryz.ntmps126
 go_wp2_with (go_at_call 127;refine Hid.out ?_)
 refine hid ?_
 generalize hw0:w.alloc _=w0 at *
 clear hw0
 refine (Z4e s l x1 w0 HS.out).mono ?_
 rintro e w1 ⟨i,c,kd,d,g,q,ok,rfl,hk,hb,y1⟩
 have y2:=Z0b w1 (.cells #[.int .i64 i,.bool c,.int .u8 kd,.bool d,.bool g,.int .i64 q] 78)
 have g3:=(y1.block b2 (Z0c G2.out)).trans G2.out
 have c2:=Z2n ((y2.block b2 (Z0c g3)).trans g3)
 have yy:=Z0a y0 (Z0a y1 y2)
 have HB:=hid hb
 have HK:=hid hk
 clear g3 hk hb
 cases ok with
 | false=>
   have HE:Hid (Z13 l b x1=false):=hid (by
    have h:=HB.out
    unfold Z13
    cases hq:Z0O l x1 with
    | none=>rfl
    | some k=>rw [hq] at h;cases h)
   go_wp2_with (fail)
   go_ret
   exact ⟨Z0e (by rw [HE.out];rfl),yy⟩
 | true=>
   have HE:Hid (Z13 l b x1=(c==b)):=hid (by
    have h:=HB.out
    have h2:=HK.out
    unfold Z13
    cases hq:Z0O l x1 with
    | none=>rw [hq] at h;cases h
    | some k=>rw [hq] at h2;simp at h2;subst h2;rfl)
   go_wp2_with (fail)
   go_ret
   exact ⟨Z0e (by rw [HE.out]<;>(cases c<;>cases b<;>rfl)),yy⟩
theorem Z8I (s:Nat) (l:List Ky) (b:Bool) (A:Option Addr) (n c:Nat) (p:List At) (w:World) (hn:n=p.length) (h:RdAt w w.heap.size A p) (hb:n≤100000000) (hS:Sch w s l) :
 Calls Tryz.prog 55 #[.pointer (some ⟨s,0,none⟩),.slice A n c,.bool b] w (Y5a (Z1L l b p) w):=by
 have N:=hid hn
 have ya:=Z0b w (.cells #[.pointer (some ⟨s,0,none⟩)] 29)
 have yb:=Z0b (w.alloc (.cells #[.pointer (some ⟨s,0,none⟩)] 29)) (.cells #[.bool b] 4)
 have g1:=heap_alloc_new w (.cells #[.pointer (some ⟨s,0,none⟩)] 29)
 have g2:=heap_alloc_new (w.alloc (.cells #[.pointer (some ⟨s,0,none⟩)] 29)) (.cells #[.bool b] 4)
 have G1:=hid ((yb.block w.heap.size (by simp)).trans g1)
 rw [World.size_alloc] at g2
 have G2:=hid g2
 have y:=Z0a ya yb
 have hh:=h.ext y
 have HS:=hid (hS.ext y)
 clear hn g1 g2 ya yb h hS
 go_enter Tryz.func55,Tryz.ntmps55
 go_wp2_with (go_at_call 125;refine Hid.out ?_)
 refine hid ?_
 refine (Z55 A n c p _ N.out hh hb).mono ?_
 rintro e w1 ⟨A',c',rfl,hown,y1⟩
 have HOW:=hid hown
 have hsz2:((w.alloc (.cells #[.pointer (some ⟨s,0,none⟩)] 29)).alloc (.cells #[.bool b] 4)).heap.size=w.heap.size+2:=by simp
 have G1':=hid ((y1.block w.heap.size (by rw [hsz2];omega)).trans G1.out)
 have G2':=hid ((y1.block (w.heap.size+1) (by rw [hsz2];omega)).trans G2.out)
 have hb1:w.heap.size+2≤w1.heap.size:=by have:=y1.size;omega
 have HSZ:=hid hsz2
 clear hown hsz2
 go_wp2_with (go_at_call 124;refine Hid.out ?_)
 refine hid ?_
 refine (Z6m w.heap.size (w.heap.size+1) (fun c => !Z13 l b c.key) A' p.length c' _ p w1 HOW.out (by rw [HSZ.out];exact hb1) (by have:=N.out;omega) rfl ?cl).mono ?_
 case cl=>
  intro x1 x2 x3 x4 x5 w' hb'
  refine Z9V s _ _ l b x1 x2 x3 x4 x5 w' (HS.out.ext (y1.trans hb')) ?_ ?_
  ·exact (hb'.block _ (by rw [HSZ.out];omega)).trans G1'.out
  ·exact (hb'.block _ (by rw [HSZ.out];omega)).trans G2'.out
 rintro e w2 ⟨A2,c2,rfl,hown2,y2⟩
 have yy:Below w.heap.size w w2:=Z0a y (y1.trans y2)
 have hf:p.filter (fun x => !!Z13 l b x.key)=Z1L l b p:=by simp [Z1L]
 rw [hf] at hown2 ⊢
 have HO2:=hid (hown2.base_le (B:=w.heap.size) (by rw [HSZ.out];omega))
 clear hown2 hf
 go_wp2_with (fail)
 go_ret
 exact ⟨A2,c2,rfl,HO2.out,yy⟩
end Go.Proofs.YtnmedachaeanbaaGreatDoor
