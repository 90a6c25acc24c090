/- Merged texts. -/
import Derived.Test.YtnmedachaeanbaaGreatDoorB21
import Derived.Test.YtnmedachaeanbaaGreatDoorB26
namespace Go.Proofs.YtnmedachaeanbaaGreatDoor
set_option maxRecDepth 100000
set_option maxHeartbeats 1600000
open Go.RowKit
open Go.Lib (hid)
set_option linter.unusedVariables false
set_option linter.unusedSimpArgs false
theorem PartN.base_le {w:World} {B B' g:Nat} {x:OpS} (h:PartN w B g x) (hb:B'≤B):PartN w B' g x:=
 ⟨⟨h.1.1.base_le hb,h.1.2⟩,⟨h.2.1.1.base_le hb,h.2.1.2⟩,⟨h.2.2.1.base_le hb,h.2.2.2⟩⟩
theorem NewOps.late {o:List Opd} {w w2:World} (y:Below w.heap.size w w2) {e:Ending} {w3:World} (h:NewOps o w2 e w3):NewOps o w e w3:=by
 obtain ⟨A,c,l,h1,h2,h3,h4,h5⟩:=h
 exact ⟨A,c,l,h1,h2,h3.base_le y.size,fun x hx=>(h4 x hx).imp fun g p=>p.base_le y.size,Z0a y h5⟩
theorem Mkr.sub {w:World} {F:Nat→Prop} {b:Nat} {vd vi:Value} {D I:List OpS} (h10:∀ x∈D,PartF w F x) (h11:InsF w F b vd vi I) (g:Int):Sub w w.heap.size (D++gapS I g):=by
 intro x hx
 rcases List.mem_append.1 hx with hx|hx
 ·have:=h10 x hx;exact ⟨this.1.1,this.2.1.1,this.2.2.1⟩
 ·unfold gapS at hx
  rcases List.mem_append.1 hx with hx|hx
  ·rcases List.eq_nil_or_concat I with h0 | ⟨t,z,h0⟩
   ·rw [h0] at hx;cases hx
   ·rw [List.concat_eq_append] at h0
    have hx':=hx
    rw [h0] at hx'
    rcases List.mem_append.1 hx' with hx'|hx'
    ·have:=h11.1 x (by rw [h0];simpa using hx');exact ⟨this.1.1,this.2.1.1,this.2.2.1⟩
    ·simp at hx';subst hx'
     have:=h11.2 x (by rw [h0];simp)
     exact ⟨this.1.rd Z1d,this.2.2.1.1,this.2.2.2.1⟩
  ·split at hx
   ·simp at hx;subst hx
    exact ⟨Rd.nil,Rd.nil,Rd.nil⟩
   ·cases hx
theorem Y7m (b:Nat) (w:World) (F:Nat→Prop) (m:Mk) (h:Mkr w F b m) (hmb:m.done.length+m.ins.length≤10000000)
 (hs:∀ o∈m.done++Z0Z m,o.r.length≤100000000∧o.s.length≤100000000∧o.p.length≤100000000) (h0:m.done++Z0Z m=[]) :
 Calls Tryz.prog 68 #[.pointer (some ⟨b,0,none⟩)] w (NewOps (Z1j m) w):=by
 obtain ⟨vd,vi,D,I,h1,h2,h3,h4,h5,h6,h7,h8,h9,h10,h11⟩:=h
 obtain ⟨Ad,cd,rfl,_,_⟩:=h2.form
 obtain ⟨Ai,ci,rfl,_,_⟩:=h3.form
 have HD:=hid (show D.length≤10000000 by rw [←h4,←h5] at hmb;simp [osOf] at hmb;omega)
 have HI:=hid (show I.length≤10000000 by rw [←h4,←h5] at hmb;simp [osOf] at hmb;omega)
 have H1:=hid h1
 have H2:=hid h2
 have H3:=hid h3
 have hlt:=Z0c h1
 obtain ⟨c0,c1,c2⟩:=Z0X h1
 have HSUB:=hid (Mkr.sub h10 h11 m.gone)
 have HL0:Hid (osOf (D++gapS I m.gone)=m.done++Z0Z m):=hid (by
  unfold osOf;rw [List.map_append];show osOf D++osOf (gapS I m.gone)=_;rw [Z3v,h4,h5];rfl)
 have HSZ:Hid (∀ x∈D++gapS I m.gone,x.o.r.length≤100000000∧x.o.s.length≤100000000∧x.o.p.length≤100000000):=hid (fun x hx=>hs x.o (by
  rw [←HL0.out];unfold osOf;exact List.mem_map_of_mem hx))
 have HL:Hid (D++gapS I m.gone=[]):=hid (by have e:=HL0.out;rw [h0] at e;unfold osOf at e;simpa using e)
 have HM:Hid (osOf (D++gapS I m.gone)=Z1j m):=hid (by rw [HL0.out];unfold Z1j;rw [h0];rfl)
 clear h1 h2 h3 h4 h5 hmb hs h6 h7 h8 h9 h10 h11 h0
 generalize hgone:m.gone=gone at *
 have HGO:=hid hgone
 clear hgone
 go_enter Tryz.func68,Tryz.ntmps68
 go_wp2_with (fail)
 go_region_law (first
  | (refine Z0L rfl 140 [.tmp 11] #[110] rfl Tryz.f140 (by kernel_rfl) (by kernel_rfl) (by kernel_rfl) [.pointer (some ⟨b,0,none⟩)] (by rfl) (Z3w b (.slice Ad D.length cd) Ai I.length ci gone I w.drew H1.out rfl (H3.out.rd OpS.enc_len) (by have:=HI.out;omega)) ?_
     rintro e w1 ⟨A1,k1,rfl,o1,y1⟩
     refine ⟨_,rfl,?_⟩
     have hb1:=(y1.block b hlt).trans H1.out
     obtain ⟨d0,d1,d2⟩:=Z0X hb1
     have O1:=hid o1
     have Y1:Hid (Below w.heap.size w w1):=hid ((Z0U (Below.refl _ _)).trans y1)
     clear hb1 o1 y1)
  | (refine Z0L rfl 147 [.tmp 13] #[67] rfl Tryz.f147 (by kernel_rfl) (by kernel_rfl) (by kernel_rfl) [.slice (some ⟨w1.heap.size,0,none⟩) 2 2] (by rfl) (Z2x (some ⟨w1.heap.size,0,none⟩) 2 2 [⟨Ad,D,cd⟩,⟨A1,gapS I gone,k1⟩] (w1.alloc (.cells #[.slice Ad D.length cd,.slice A1 (gapS I gone).length k1] 37)) rfl (Rd.new (enc:=RwS.enc) (size:=1) (fun _=>rfl) w1 _ _ rfl rfl) (fun x hx=>by
   have yy:=Z0b w1 (.cells #[.slice Ad D.length cd,.slice A1 (gapS I gone).length k1] 37)
   rcases List.mem_cons.1 hx with rfl|hx
   ·exact ((H2.out.below Y1.out (Nat.le_refl _)).rd OpS.enc_len).ext yy
   ·simp at hx;subst hx;exact (O1.out.rd OpS.enc_len).ext yy) (by omega) (fun x hx=>by
   have:=HD.out;have:=HI.out;have:=Z08 I gone
   rcases List.mem_cons.1 hx with rfl|hx
   ·simp only;omega
   ·simp at hx;subst hx;simp only;omega)) ?_
     rintro e w2 ⟨A2,k2,he,o2,y2⟩
     have eL:[(⟨Ad,D,cd⟩:RwS),⟨A1,gapS I gone,k1⟩].flatMap (fun x=>x.l)=D++gapS I gone:=by simp
     rw [eL] at he o2
     generalize hnl:(D++gapS I gone).length=nl at he o2
     subst he
     refine ⟨_,rfl,?_⟩
     have hnlb:nl≤20000001:=by rw [←hnl,List.length_append];have:=HD.out;have:=HI.out;have:=Z08 I gone;omega
     have HNL:=hid hnl
     have O2:=hid o2
     have Y2:Hid (Below w.heap.size w w2):=hid (Z0a Y1.out (Z0a (Z0b w1 _) y2))
     clear o2 y2 hnl eL)
  )
 all_goals
  have hnl0:nl=0:=by have:=HNL.out;rw [HL.out] at this;exact this.symm
  subst hnl0
  go_wp2_with (go_at_call 148;refine Hid.out ?_)
  refine hid ?_
  refine (Z23 _ _ k2 (D++gapS I gone) _ HNL.out.symm ⟨O2.out.rd OpS.enc_len,fun x hx=>(HSUB.out.ext Y2.out) x hx⟩ (by omega) (fun x hx=>HSZ.out x hx)).mono ?_
  intro e w3 hN
  have hM:=NewOps.late Y2.out hN
  clear hN
  rw [HM.out] at hM
  obtain ⟨A3,k3,l3,rfl,hM2⟩:=hM
  go_wp2_with (fail)
  go_ret
  exact ⟨A3,k3,l3,rfl,hM2⟩
theorem Y5D (b:Nat) (w:World) (F:Nat→Prop) (m:Mk) (h:Mkr w F b m) (hmb:m.done.length+m.ins.length≤10000000)
 (hs:∀ o∈m.done++Z0Z m,o.r.length≤100000000∧o.s.length≤100000000∧o.p.length≤100000000) (o:Opd) (h0:(m.done++Z0Z m).getLast? = some o) (hk:¬ o.k=1) :
 Calls Tryz.prog 68 #[.pointer (some ⟨b,0,none⟩)] w (NewOps (Z1j m) w):=by
 obtain ⟨vd,vi,D,I,h1,h2,h3,h4,h5,h6,h7,h8,h9,h10,h11⟩:=h
 obtain ⟨Ad,cd,rfl,_,_⟩:=h2.form
 obtain ⟨Ai,ci,rfl,_,_⟩:=h3.form
 have HD:=hid (show D.length≤10000000 by rw [←h4,←h5] at hmb;simp [osOf] at hmb;omega)
 have HI:=hid (show I.length≤10000000 by rw [←h4,←h5] at hmb;simp [osOf] at hmb;omega)
 have H1:=hid h1
 have H2:=hid h2
 have H3:=hid h3
 have hlt:=Z0c h1
 obtain ⟨c0,c1,c2⟩:=Z0X h1
 have HSUB:=hid (Mkr.sub h10 h11 m.gone)
 have HL0:Hid (osOf (D++gapS I m.gone)=m.done++Z0Z m):=hid (by
  unfold osOf;rw [List.map_append];show osOf D++osOf (gapS I m.gone)=_;rw [Z3v,h4,h5];rfl)
 have HSZ:Hid (∀ x∈D++gapS I m.gone,x.o.r.length≤100000000∧x.o.s.length≤100000000∧x.o.p.length≤100000000):=hid (fun x hx=>hs x.o (by
  rw [←HL0.out];unfold osOf;exact List.mem_map_of_mem hx))
 have H0:Hid ((osOf (D++gapS I m.gone)).getLast? = some o):=hid (by rw [HL0.out];exact h0)
 have HM:Hid (osOf (D++gapS I m.gone)=Z1j m):=hid (by rw [HL0.out];unfold Z1j cutR;rw [h0];simp only;rw [if_neg (fun h=>hk h.1)])
 have HK:=hid hk
 clear h1 h2 h3 h4 h5 hmb hs h6 h7 h8 h9 h10 h11 h0 hk
 generalize hgone:m.gone=gone at *
 have HGO:=hid hgone
 clear hgone
 go_enter Tryz.func68,Tryz.ntmps68
 go_wp2_with (fail)
 go_region_law (first
  | (refine Z0L rfl 140 [.tmp 11] #[110] rfl Tryz.f140 (by kernel_rfl) (by kernel_rfl) (by kernel_rfl) [.pointer (some ⟨b,0,none⟩)] (by rfl) (Z3w b (.slice Ad D.length cd) Ai I.length ci gone I w.drew H1.out rfl (H3.out.rd OpS.enc_len) (by have:=HI.out;omega)) ?_
     rintro e w1 ⟨A1,k1,rfl,o1,y1⟩
     refine ⟨_,rfl,?_⟩
     have hb1:=(y1.block b hlt).trans H1.out
     obtain ⟨d0,d1,d2⟩:=Z0X hb1
     have O1:=hid o1
     have Y1:Hid (Below w.heap.size w w1):=hid ((Z0U (Below.refl _ _)).trans y1)
     clear hb1 o1 y1)
  | (refine Z0L rfl 147 [.tmp 13] #[67] rfl Tryz.f147 (by kernel_rfl) (by kernel_rfl) (by kernel_rfl) [.slice (some ⟨w1.heap.size,0,none⟩) 2 2] (by rfl) (Z2x (some ⟨w1.heap.size,0,none⟩) 2 2 [⟨Ad,D,cd⟩,⟨A1,gapS I gone,k1⟩] (w1.alloc (.cells #[.slice Ad D.length cd,.slice A1 (gapS I gone).length k1] 37)) rfl (Rd.new (enc:=RwS.enc) (size:=1) (fun _=>rfl) w1 _ _ rfl rfl) (fun x hx=>by
   have yy:=Z0b w1 (.cells #[.slice Ad D.length cd,.slice A1 (gapS I gone).length k1] 37)
   rcases List.mem_cons.1 hx with rfl|hx
   ·exact ((H2.out.below Y1.out (Nat.le_refl _)).rd OpS.enc_len).ext yy
   ·simp at hx;subst hx;exact (O1.out.rd OpS.enc_len).ext yy) (by omega) (fun x hx=>by
   have:=HD.out;have:=HI.out;have:=Z08 I gone
   rcases List.mem_cons.1 hx with rfl|hx
   ·simp only;omega
   ·simp at hx;subst hx;simp only;omega)) ?_
     rintro e w2 ⟨A2,k2,he,o2,y2⟩
     have eL:[(⟨Ad,D,cd⟩:RwS),⟨A1,gapS I gone,k1⟩].flatMap (fun x=>x.l)=D++gapS I gone:=by simp
     rw [eL] at he o2
     generalize hnl:(D++gapS I gone).length=nl at he o2
     subst he
     refine ⟨_,rfl,?_⟩
     have hnlb:nl≤20000001:=by rw [←hnl,List.length_append];have:=HD.out;have:=HI.out;have:=Z08 I gone;omega
     have HNL:=hid hnl
     have O2:=hid o2
     have Y2:Hid (Below w.heap.size w w2):=hid (Z0a Y1.out (Z0a (Z0b w1 _) y2))
     clear o2 y2 hnl eL)
  )
 all_goals
  obtain ⟨g,x,hnp1,hA',hx,hxo,hLx,⟨cur,hg⟩,hcx⟩:=Z2Q O2.out HNL.out H0.out
  subst hA'
  obtain ⟨⟨xk,xn,xr,xs,xp⟩,Ar,cr,As,cs,Aq,cq⟩:=x
  obtain ⟨z0,z1,z2,z3,z4⟩:=Z0r hcx
  have e1:(1:Int)≤(nl:Int):=by omega
  have e2:(nl:Int)-1<(nl:Int):=by omega
  have hko:xk=o.k:=by rw [←hxo]
  have hpo:xp=o.p:=by rw [←hxo]
  clear hcx hLx hx hxo hg
  have hk1:(xk==1)=false:=beq_eq_false_iff_ne.2 (by rw [hko];exact HK.out)
  clear hko hpo
  go_wp2_with (go_at_call 148;refine Hid.out ?_)
  refine hid ?_
  refine (Z23 _ _ k2 (D++gapS I gone) _ HNL.out.symm ⟨O2.out.rd OpS.enc_len,fun x hx=>(HSUB.out.ext Y2.out) x hx⟩ (by omega) (fun x hx=>HSZ.out x hx)).mono ?_
  intro e w3 hN
  have hM:=NewOps.late Y2.out hN
  clear hN
  rw [HM.out] at hM
  obtain ⟨A3,k3,l3,rfl,hM2⟩:=hM
  go_wp2_with (fail)
  go_ret
  exact ⟨A3,k3,l3,rfl,hM2⟩
theorem Y3V (b:Nat) (w:World) (F:Nat→Prop) (m:Mk) (h:Mkr w F b m) (hmb:m.done.length+m.ins.length≤10000000)
 (hs:∀ o∈m.done++Z0Z m,o.r.length≤100000000∧o.s.length≤100000000∧o.p.length≤100000000) (o:Opd) (h0:(m.done++Z0Z m).getLast? = some o) (hk:o.k=1) (hp:¬ o.p=[]) :
 Calls Tryz.prog 68 #[.pointer (some ⟨b,0,none⟩)] w (NewOps (Z1j m) w):=by
 obtain ⟨vd,vi,D,I,h1,h2,h3,h4,h5,h6,h7,h8,h9,h10,h11⟩:=h
 obtain ⟨Ad,cd,rfl,_,_⟩:=h2.form
 obtain ⟨Ai,ci,rfl,_,_⟩:=h3.form
 have HD:=hid (show D.length≤10000000 by rw [←h4,←h5] at hmb;simp [osOf] at hmb;omega)
 have HI:=hid (show I.length≤10000000 by rw [←h4,←h5] at hmb;simp [osOf] at hmb;omega)
 have H1:=hid h1
 have H2:=hid h2
 have H3:=hid h3
 have hlt:=Z0c h1
 obtain ⟨c0,c1,c2⟩:=Z0X h1
 have HSUB:=hid (Mkr.sub h10 h11 m.gone)
 have HL0:Hid (osOf (D++gapS I m.gone)=m.done++Z0Z m):=hid (by
  unfold osOf;rw [List.map_append];show osOf D++osOf (gapS I m.gone)=_;rw [Z3v,h4,h5];rfl)
 have HSZ:Hid (∀ x∈D++gapS I m.gone,x.o.r.length≤100000000∧x.o.s.length≤100000000∧x.o.p.length≤100000000):=hid (fun x hx=>hs x.o (by
  rw [←HL0.out];unfold osOf;exact List.mem_map_of_mem hx))
 have H0:Hid ((osOf (D++gapS I m.gone)).getLast? = some o):=hid (by rw [HL0.out];exact h0)
 have HM:Hid (osOf (D++gapS I m.gone)=Z1j m):=hid (by rw [HL0.out];unfold Z1j cutR;rw [h0];simp only;rw [if_neg (fun h=>hp h.2)])
 have HK:=hid hk
 have HP:=hid hp
 clear h1 h2 h3 h4 h5 hmb hs h6 h7 h8 h9 h10 h11 h0 hk hp
 generalize hgone:m.gone=gone at *
 have HGO:=hid hgone
 clear hgone
 go_enter Tryz.func68,Tryz.ntmps68
 go_wp2_with (fail)
 go_region_law (first
  | (refine Z0L rfl 140 [.tmp 11] #[110] rfl Tryz.f140 (by kernel_rfl) (by kernel_rfl) (by kernel_rfl) [.pointer (some ⟨b,0,none⟩)] (by rfl) (Z3w b (.slice Ad D.length cd) Ai I.length ci gone I w.drew H1.out rfl (H3.out.rd OpS.enc_len) (by have:=HI.out;omega)) ?_
     rintro e w1 ⟨A1,k1,rfl,o1,y1⟩
     refine ⟨_,rfl,?_⟩
     have hb1:=(y1.block b hlt).trans H1.out
     obtain ⟨d0,d1,d2⟩:=Z0X hb1
     have O1:=hid o1
     have Y1:Hid (Below w.heap.size w w1):=hid ((Z0U (Below.refl _ _)).trans y1)
     clear hb1 o1 y1)
  | (refine Z0L rfl 147 [.tmp 13] #[67] rfl Tryz.f147 (by kernel_rfl) (by kernel_rfl) (by kernel_rfl) [.slice (some ⟨w1.heap.size,0,none⟩) 2 2] (by rfl) (Z2x (some ⟨w1.heap.size,0,none⟩) 2 2 [⟨Ad,D,cd⟩,⟨A1,gapS I gone,k1⟩] (w1.alloc (.cells #[.slice Ad D.length cd,.slice A1 (gapS I gone).length k1] 37)) rfl (Rd.new (enc:=RwS.enc) (size:=1) (fun _=>rfl) w1 _ _ rfl rfl) (fun x hx=>by
   have yy:=Z0b w1 (.cells #[.slice Ad D.length cd,.slice A1 (gapS I gone).length k1] 37)
   rcases List.mem_cons.1 hx with rfl|hx
   ·exact ((H2.out.below Y1.out (Nat.le_refl _)).rd OpS.enc_len).ext yy
   ·simp at hx;subst hx;exact (O1.out.rd OpS.enc_len).ext yy) (by omega) (fun x hx=>by
   have:=HD.out;have:=HI.out;have:=Z08 I gone
   rcases List.mem_cons.1 hx with rfl|hx
   ·simp only;omega
   ·simp at hx;subst hx;simp only;omega)) ?_
     rintro e w2 ⟨A2,k2,he,o2,y2⟩
     have eL:[(⟨Ad,D,cd⟩:RwS),⟨A1,gapS I gone,k1⟩].flatMap (fun x=>x.l)=D++gapS I gone:=by simp
     rw [eL] at he o2
     generalize hnl:(D++gapS I gone).length=nl at he o2
     subst he
     refine ⟨_,rfl,?_⟩
     have hnlb:nl≤20000001:=by rw [←hnl,List.length_append];have:=HD.out;have:=HI.out;have:=Z08 I gone;omega
     have HNL:=hid hnl
     have O2:=hid o2
     have Y2:Hid (Below w.heap.size w w2):=hid (Z0a Y1.out (Z0a (Z0b w1 _) y2))
     clear o2 y2 hnl eL)
  )
 all_goals
  obtain ⟨g,x,hnp1,hA',hx,hxo,hLx,⟨cur,hg⟩,hcx⟩:=Z2Q O2.out HNL.out H0.out
  subst hA'
  obtain ⟨⟨xk,xn,xr,xs,xp⟩,Ar,cr,As,cs,Aq,cq⟩:=x
  obtain ⟨z0,z1,z2,z3,z4⟩:=Z0r hcx
  have e1:(1:Int)≤(nl:Int):=by omega
  have e2:(nl:Int)-1<(nl:Int):=by omega
  have hko:xk=o.k:=by rw [←hxo]
  have hpo:xp=o.p:=by rw [←hxo]
  clear hcx hLx hx hxo hg
  have hk1:xk=1:=by rw [hko];exact HK.out
  clear hko
  subst hk1
  have hp1:((xp.length:Int)==0)=false:=beq_eq_false_iff_ne.2 (by rw [hpo];intro e;exact HP.out (List.eq_nil_of_length_eq_zero (by omega)))
  clear hpo
  go_wp2_with (go_at_call 148;refine Hid.out ?_)
  refine hid ?_
  refine (Z23 _ _ k2 (D++gapS I gone) _ HNL.out.symm ⟨O2.out.rd OpS.enc_len,fun x hx=>(HSUB.out.ext Y2.out) x hx⟩ (by omega) (fun x hx=>HSZ.out x hx)).mono ?_
  intro e w3 hN
  have hM:=NewOps.late Y2.out hN
  clear hN
  rw [HM.out] at hM
  obtain ⟨A3,k3,l3,rfl,hM2⟩:=hM
  go_wp2_with (fail)
  go_ret
  exact ⟨A3,k3,l3,rfl,hM2⟩
theorem Y7n (b:Nat) (w:World) (F:Nat→Prop) (m:Mk) (h:Mkr w F b m) (hmb:m.done.length+m.ins.length≤10000000)
 (hs:∀ o∈m.done++Z0Z m,o.r.length≤100000000∧o.s.length≤100000000∧o.p.length≤100000000) (o:Opd) (h0:(m.done++Z0Z m).getLast? = some o) (hk:o.k=1) (hp:o.p=[]) :
 Calls Tryz.prog 68 #[.pointer (some ⟨b,0,none⟩)] w (NewOps (Z1j m) w):=by
 obtain ⟨vd,vi,D,I,h1,h2,h3,h4,h5,h6,h7,h8,h9,h10,h11⟩:=h
 obtain ⟨Ad,cd,rfl,_,_⟩:=h2.form
 obtain ⟨Ai,ci,rfl,_,_⟩:=h3.form
 have HD:=hid (show D.length≤10000000 by rw [←h4,←h5] at hmb;simp [osOf] at hmb;omega)
 have HI:=hid (show I.length≤10000000 by rw [←h4,←h5] at hmb;simp [osOf] at hmb;omega)
 have H1:=hid h1
 have H2:=hid h2
 have H3:=hid h3
 have hlt:=Z0c h1
 obtain ⟨c0,c1,c2⟩:=Z0X h1
 have HSUB:=hid (Mkr.sub h10 h11 m.gone)
 have HL0:Hid (osOf (D++gapS I m.gone)=m.done++Z0Z m):=hid (by
  unfold osOf;rw [List.map_append];show osOf D++osOf (gapS I m.gone)=_;rw [Z3v,h4,h5];rfl)
 have HSZ:Hid (∀ x∈D++gapS I m.gone,x.o.r.length≤100000000∧x.o.s.length≤100000000∧x.o.p.length≤100000000):=hid (fun x hx=>hs x.o (by
  rw [←HL0.out];unfold osOf;exact List.mem_map_of_mem hx))
 have H0:Hid ((osOf (D++gapS I m.gone)).getLast? = some o):=hid (by rw [HL0.out];exact h0)
 have HM:Hid (osOf ((D++gapS I m.gone).take ((D++gapS I m.gone).length-1))=Z1j m):=hid (by rw [←List.dropLast_eq_take];unfold osOf;rw [List.map_dropLast];show (osOf _).dropLast=_;rw [HL0.out];unfold Z1j cutR;rw [h0];simp only;rw [if_pos ⟨hk,hp⟩])
 have HK:=hid hk
 have HP:=hid hp
 clear h1 h2 h3 h4 h5 hmb hs h6 h7 h8 h9 h10 h11 h0 hk hp
 generalize hgone:m.gone=gone at *
 have HGO:=hid hgone
 clear hgone
 go_enter Tryz.func68,Tryz.ntmps68
 go_wp2_with (fail)
 go_region_law (first
  | (refine Z0L rfl 140 [.tmp 11] #[110] rfl Tryz.f140 (by kernel_rfl) (by kernel_rfl) (by kernel_rfl) [.pointer (some ⟨b,0,none⟩)] (by rfl) (Z3w b (.slice Ad D.length cd) Ai I.length ci gone I w.drew H1.out rfl (H3.out.rd OpS.enc_len) (by have:=HI.out;omega)) ?_
     rintro e w1 ⟨A1,k1,rfl,o1,y1⟩
     refine ⟨_,rfl,?_⟩
     have hb1:=(y1.block b hlt).trans H1.out
     obtain ⟨d0,d1,d2⟩:=Z0X hb1
     have O1:=hid o1
     have Y1:Hid (Below w.heap.size w w1):=hid ((Z0U (Below.refl _ _)).trans y1)
     clear hb1 o1 y1)
  | (refine Z0L rfl 147 [.tmp 13] #[67] rfl Tryz.f147 (by kernel_rfl) (by kernel_rfl) (by kernel_rfl) [.slice (some ⟨w1.heap.size,0,none⟩) 2 2] (by rfl) (Z2x (some ⟨w1.heap.size,0,none⟩) 2 2 [⟨Ad,D,cd⟩,⟨A1,gapS I gone,k1⟩] (w1.alloc (.cells #[.slice Ad D.length cd,.slice A1 (gapS I gone).length k1] 37)) rfl (Rd.new (enc:=RwS.enc) (size:=1) (fun _=>rfl) w1 _ _ rfl rfl) (fun x hx=>by
   have yy:=Z0b w1 (.cells #[.slice Ad D.length cd,.slice A1 (gapS I gone).length k1] 37)
   rcases List.mem_cons.1 hx with rfl|hx
   ·exact ((H2.out.below Y1.out (Nat.le_refl _)).rd OpS.enc_len).ext yy
   ·simp at hx;subst hx;exact (O1.out.rd OpS.enc_len).ext yy) (by omega) (fun x hx=>by
   have:=HD.out;have:=HI.out;have:=Z08 I gone
   rcases List.mem_cons.1 hx with rfl|hx
   ·simp only;omega
   ·simp at hx;subst hx;simp only;omega)) ?_
     rintro e w2 ⟨A2,k2,he,o2,y2⟩
     have eL:[(⟨Ad,D,cd⟩:RwS),⟨A1,gapS I gone,k1⟩].flatMap (fun x=>x.l)=D++gapS I gone:=by simp
     rw [eL] at he o2
     generalize hnl:(D++gapS I gone).length=nl at he o2
     subst he
     refine ⟨_,rfl,?_⟩
     have hnlb:nl≤20000001:=by rw [←hnl,List.length_append];have:=HD.out;have:=HI.out;have:=Z08 I gone;omega
     have HNL:=hid hnl
     have O2:=hid o2
     have Y2:Hid (Below w.heap.size w w2):=hid (Z0a Y1.out (Z0a (Z0b w1 _) y2))
     clear o2 y2 hnl eL)
  )
 all_goals
  obtain ⟨g,x,hnp1,hA',hx,hxo,hLx,⟨cur,hg⟩,hcx⟩:=Z2Q O2.out HNL.out H0.out
  subst hA'
  obtain ⟨⟨xk,xn,xr,xs,xp⟩,Ar,cr,As,cs,Aq,cq⟩:=x
  obtain ⟨z0,z1,z2,z3,z4⟩:=Z0r hcx
  have e1:(1:Int)≤(nl:Int):=by omega
  have e2:(nl:Int)-1<(nl:Int):=by omega
  have hko:xk=o.k:=by rw [←hxo]
  have hpo:xp=o.p:=by rw [←hxo]
  clear hcx hLx hx hxo hg
  have hk1:xk=1:=by rw [hko];exact HK.out
  clear hko
  subst hk1
  have hp1:xp=[]:=by rw [hpo];exact HP.out
  clear hpo
  subst hp1
  have hcap:nl≤k2:=by have:=O2.out.cap;have:=HNL.out;omega
  go_wp2_with (go_at_call 148;refine Hid.out ?_)
  refine hid ?_
  refine (Z23 _ _ k2 ((D++gapS I gone).take (nl-1)) _ (by rw [List.length_take,HNL.out];omega) ⟨(O2.out.rd OpS.enc_len).take (nl-1),fun x hx=>(HSUB.out.ext Y2.out) x (List.mem_of_mem_take hx)⟩ (by omega) (fun x hx=>HSZ.out x (List.mem_of_mem_take hx))).mono ?_
  intro e w3 hN
  have hM:=NewOps.late Y2.out hN
  clear hN
  rw [←HNL.out,HM.out] at hM
  obtain ⟨A3,k3,l3,rfl,hM2⟩:=hM
  go_wp2_with (fail)
  go_ret
  exact ⟨A3,k3,l3,rfl,hM2⟩
theorem Y3W (b:Nat) (w:World) (F:Nat→Prop) (m:Mk) (h:Mkr w F b m) (hmb:m.done.length+m.ins.length≤10000000)
 (hs:∀ o∈m.done++Z0Z m,o.r.length≤100000000∧o.s.length≤100000000∧o.p.length≤100000000) :
 Calls Tryz.prog 68 #[.pointer (some ⟨b,0,none⟩)] w (NewOps (Z1j m) w):=by
 cases h0:(m.done++Z0Z m).getLast? with
 | none=>exact Y7m b w F m h hmb hs (List.getLast?_eq_none_iff.1 h0)
 | some o=>
   by_cases hk:o.k=1
   ·by_cases hp:o.p=[]
    ·exact Y7n b w F m h hmb hs o h0 hk hp
    ·exact Y3V b w F m h hmb hs o h0 hk hp
   ·exact Y5D b w F m h hmb hs o h0 hk
def Z3W (d:List Cl):Mk:=
 match d.getLast? with
 | none=>Mk.new
 | some c=>Z0v (Y5A Mk.new d.dropLast) 1 (Z7F [] c.s)
theorem Y5E (s:List At):Z7F [] s=s.map chg:=by
 induction s with
 | nil=>rfl
 | cons x s ih=>rw [Y1N,Y1O,ih];rfl
theorem Y7o {a b:At} (h:chg a=chg b):a=b:=by
 unfold chg at h
 injection h with h1 h2 h3
 cases a;cases b
 simp only at h1 h3
 rw [h1,h3]
theorem Z90 {s t:List At} (h:s.map chg=t.map chg):s=t:=by
 induction s generalizing t with
 | nil=>cases t with
   | nil=>rfl
   | cons b t=>cases h
 | cons a s ih=>cases t with
   | nil=>cases h
   | cons b t=>
     simp only [List.map_cons,List.cons.injEq] at h
     rw [Y7o h.1,ih h.2]
def insU (c:Cl):Un:=.ins c.r c.s
theorem Y5F {a b:Cl} (h:insU a=insU b):a=b:=by
 unfold insU at h
 injection h with h1 h2
 cases a;cases b
 simp only at h1 h2
 rw [h1,h2]
theorem Z5c {s t:List Cl} (h:s.map insU=t.map insU):s=t:=by
 induction s generalizing t with
 | nil=>cases t with
   | nil=>rfl
   | cons b t=>cases h
 | cons a s ih=>cases t with
   | nil=>cases h
   | cons b t=>
     simp only [List.map_cons,List.cons.injEq] at h
     rw [Y5F h.1,ih h.2]
theorem MkAt.tell {m:Mk} {K I:List Un} {g:Nat} (h:MkAt m K I g) (d:List Cl):MkAt (Y5A m d) K (I++d.map insU) g:=by
 induction d generalizing m I with
 | nil=>simpa [Y5A] using h
 | cons c d ih=>
   have:=ih (h.insert [c.r] c.s)
   rw [List.append_assoc] at this
   exact this
theorem Y5G (t:List Cl) (c:Cl) (hb:t.length≤1000000):MkAt (Z3W (t++[c])) (t.map insU++[.ret (c.s.map chg)]) [] 0:=by
 have h1:=(MkAt.new.tell t).retain (n:=1) (p:=Z7F [] c.s) (by omega) (by simp;omega)
 have e:Z3W (t++[c])=Z0v (Y5A Mk.new t) 1 (Z7F [] c.s):=by unfold Z3W;simp
 rw [e,Y5E] at *
 simpa using h1
theorem Z6s (t:List Cl) (c:Cl) (hb:t.length≤1000000):Z1q (Z1j (Z3W (t++[c])))∧Z0i (Z1j (Z3W (t++[c])))=trim (t.map insU++[.ret (c.s.map chg)]):=by
 have h:=(Y5G t c hb).ops
 simpa using h
theorem Y5H (t:List Cl):trim (t.map insU)=t.map insU:=Z6b fun u hu=>by
 have hm:=List.mem_of_getLast? hu
 obtain ⟨c,_,rfl⟩:=List.mem_map.1 hm
 intro h;cases h
theorem Z7c (t:List Cl) (s:List At):trim (t.map insU++[.ret (s.map chg)])=if s=[] then t.map insU else t.map insU++[.ret (s.map chg)]:=by
 by_cases h:s=[]
 ·subst h
  rw [if_pos rfl]
  show trim (t.map insU++[.ret []])=_
  rw [Z6a,Y5H]
 ·rw [if_neg h,Z3u]
  intro e
  injection e with e
  exact h (by simpa using e)
theorem Y06 {t t':List Cl} {p:List Ch} (h:t.map insU=t'.map insU++[.ret p]):False:=by
 have:(t.map insU).getLast? = some (.ret p):=by rw [h];simp
 have hm:=List.mem_of_getLast? this
 obtain ⟨c,_,e⟩:=List.mem_map.1 hm
 cases e
theorem Y3X {t t':List Cl} {c c':Cl} (hb:t.length≤1000000) (hb':t'.length≤1000000) (hr:c.r=c'.r) (h:Z1j (Z3W (t++[c]))=Z1j (Z3W (t'++[c']))):t++[c]=t'++[c']:=by
 have h1:=(Z6s t c hb).2
 have h2:=(Z6s t' c' hb').2
 rw [h,h2,Z7c,Z7c] at h1
 have key:t=t'∧c.s=c'.s:=by
  by_cases e:c.s=[]<;>by_cases e':c'.s=[]
  ·rw [if_pos e,if_pos e'] at h1
   exact ⟨(Z5c h1).symm,e.trans e'.symm⟩
  ·rw [if_pos e,if_neg e'] at h1
   exact (Y06 h1.symm).elim
  ·rw [if_neg e,if_pos e'] at h1
   exact (Y06 h1).elim
  ·rw [if_neg e,if_neg e'] at h1
   have h2:=List.append_inj' h1 rfl
   injection h2.2 with h3 _
   injection h3 with h3
   exact ⟨(Z5c h2.1).symm,(Z90 h3).symm⟩
 obtain ⟨rfl,hs⟩:=key
 cases c;cases c'
 simp only at hr hs
 rw [hr,hs]
theorem Z8S {l:List Ky} {d:List Cl} (h:mayD l d=0):∃ t c,d=t++[c]∧c.r=10:=by
 unfold mayD at h
 split at h
 ·cases h
 ·split at h
  ·cases h
  ·split at h
   ·cases h
   ·split at h
    ·cases h
    ·rename_i hl
     rcases List.eq_nil_or_concat d with h0 | ⟨t,c,h0⟩
     ·subst h0;simp at hl
     ·rw [List.concat_eq_append] at h0
      subst h0
      refine ⟨t,c,rfl,?_⟩
      simpa using hl
theorem apart {l:List Ky} {d o:List Cl} (hd:mayD l d=0) (ho:mayD l o=0) (bd:d.length≤1000000) (bo:o.length≤1000000):decide (Z1j (Z3W d)=Z1j (Z3W o))=decide (d=o):=by
 obtain ⟨t,c,rfl,hr⟩:=Z8S hd
 obtain ⟨t',c',rfl,hr'⟩:=Z8S ho
 by_cases h:t++[c]=t'++[c']
 ·rw [decide_eq_true h,decide_eq_true (congrArg (fun x=>Z1j (Z3W x)) h)]
 ·rw [decide_eq_false h]
  refine decide_eq_false fun e=>h (Y3X ?_ ?_ (hr.trans hr'.symm) e)
  ·simp at bd;omega
  ·simp at bo;omega
theorem Z4R:∀ {x:List Opd},Z1q x→∀ o∈x,isOp o
 | [],_=>fun o h=>by cases h
 | a::x,h=>fun o ho=>by
   rcases List.mem_cons.1 ho with rfl|ho
   ·exact h.1
   ·exact Z4R h.2.2 o ho
structure MkB (m:Mk) (K S:Nat):Prop where
 len:m.done.length+m.ins.length≤K
 prt:∀ o∈m.done++m.ins,o.r.length≤K∧o.s.length≤S∧o.p.length≤S
theorem MkB.new (S:Nat):MkB Mk.new 0 S:=⟨Nat.le_refl _,fun o h=>by simp [Mk.new] at h⟩
theorem MkB.mono {m:Mk} {K K' S S':Nat} (h:MkB m K S) (hK:K≤K') (hS:S≤S'):MkB m K' S':=
 ⟨Nat.le_trans h.len hK,fun o ho=>by obtain ⟨h1,h2,h3⟩:=h.prt o ho;exact ⟨by omega,by omega,by omega⟩⟩
theorem MkB.gap {m:Mk} {K S:Nat} (h:MkB m K S):(m.done++Z0Z m).length≤K+1∧∀ o∈m.done++Z0Z m,o.r.length≤K∧o.s.length≤S∧o.p.length≤S:=by
 have h1:=h.len
 refine ⟨?_,fun o ho=>?_⟩
 ·unfold Z0Z
  split<;>simp<;>omega
 ·unfold Z0Z at ho
  rw [←List.append_assoc] at ho
  rcases List.mem_append.1 ho with ho|ho
  ·exact h.prt o ho
  ·split at ho
   ·simp at ho;subst ho;exact ⟨Nat.zero_le _,Nat.zero_le _,Nat.zero_le _⟩
   ·cases ho
theorem Y5I {d:List Opd} {n:Int} {p:List Ch} {K S:Nat} (h:∀ o∈d,o.r.length≤K∧o.s.length≤S∧o.p.length≤S) (hp:p.length≤S) :
 (addR d n p).length≤d.length+1∧∀ o∈addR d n p,o.r.length≤K∧o.s.length≤S∧o.p.length≤S:=by
 have push:(d++[opR n p]).length≤d.length+1∧∀ o∈d++[opR n p],o.r.length≤K∧o.s.length≤S∧o.p.length≤S:=⟨by simp,fun o ho=>by
  rcases List.mem_append.1 ho with ho|ho
  ·exact h o ho
  ·simp at ho;subst ho;exact ⟨Nat.zero_le _,Nat.zero_le _,hp⟩⟩
 unfold addR
 cases hg:d.getLast? with
 | none=>exact push
 | some o=>
   simp only
   by_cases hc:o.k=1∧o.p=p
   ·rw [if_pos hc]
    have hm:=List.mem_of_getLast? hg
    refine ⟨by simp,fun x hx=>?_⟩
    rcases List.mem_append.1 hx with hx|hx
    ·exact h x ((List.dropLast_sublist _).subset hx)
    ·simp at hx;subst hx;exact h o hm
   ·rw [if_neg hc];exact push
theorem MkB.retain {m:Mk} {K S:Nat} (h:MkB m K S) (n:Int) {p:List Ch} (hp:p.length≤S):MkB (Z0v m n p) (K+2) S:=by
 unfold Z0v
 split
 ·exact h.mono (by omega) (Nat.le_refl _)
 ·obtain ⟨g1,g2⟩:=h.gap
  obtain ⟨a1,a2⟩:=Y5I (n:=n) (p:=p) g2 hp
  refine ⟨by show (addR _ n p).length+0≤_;omega,fun o ho=>?_⟩
  have ho':o∈addR (m.done++Z0Z m) n p:=by simpa using ho
  obtain ⟨h1,h2,h3⟩:=a2 o ho'
  exact ⟨by omega,h2,h3⟩
theorem MkB.insert {m:Mk} {K S:Nat} (h:MkB m K S) (l:List Int) {s:List At} (hs:s.length≤S):MkB (Z0J m l s) (K+l.length) S:=by
 unfold Z0J
 by_cases hl:l=[]
 ·rw [if_pos hl];exact h.mono (by omega) (Nat.le_refl _)
 ·rw [if_neg hl]
  have hpos:0<l.length:=List.length_pos_iff.2 hl
  have hlen:=h.len
  have base:∀ o∈m.done++m.ins,o.r.length≤K+l.length∧o.s.length≤S∧o.p.length≤S:=fun o ho=>by obtain ⟨h1,h2,h3⟩:=h.prt o ho;exact ⟨by omega,h2,h3⟩
  have push:MkB { m with ins:=m.ins++[opI l s] } (K+l.length) S:=⟨by simp;omega,fun o ho=>by
   simp only at ho
   rw [←List.append_assoc] at ho
   rcases List.mem_append.1 ho with ho|ho
   ·exact base o ho
   ·simp at ho;subst ho;exact ⟨by simp [opI],hs,Nat.zero_le _⟩⟩
  unfold addI
  cases hg:m.ins.getLast? with
  | none=>exact push
  | some o=>
    simp only
    by_cases hc:o.s=s
    ·rw [if_pos hc]
     have hm:=List.mem_of_getLast? hg
     have hpi:=List.length_pos_of_mem hm
     refine ⟨by simp;omega,fun x hx=>?_⟩
     simp only at hx
     rw [←List.append_assoc] at hx
     rcases List.mem_append.1 hx with hx|hx
     ·refine base x ?_
      rcases List.mem_append.1 hx with hx|hx
      ·exact List.mem_append_left _ hx
      ·exact List.mem_append_right _ ((List.dropLast_sublist _).subset hx)
     ·simp at hx;subst hx
      obtain ⟨h1,h2,h3⟩:=h.prt o (List.mem_append_right _ hm)
      exact ⟨by simp;omega,h2,h3⟩
    ·rw [if_neg hc];exact push
theorem MkB.delete {m:Mk} {K S:Nat} (h:MkB m K S) (n:Int):MkB (Z2u m n) K S:=⟨h.len,h.prt⟩
theorem Y5J (d:List Opd):(cutR d).length≤d.length∧∀ o∈cutR d,o∈d:=by
 unfold cutR
 split
 ·split
  ·exact ⟨(List.dropLast_sublist _).length_le,fun o ho=>(List.dropLast_sublist _).subset ho⟩
  ·exact ⟨Nat.le_refl _,fun o ho=>ho⟩
 ·exact ⟨Nat.le_refl _,fun o ho=>ho⟩
theorem MkB.ops {m:Mk} {K S:Nat} (h:MkB m K S):(Z1j m).length≤K+1∧∀ o∈Z1j m,o.r.length≤K∧o.s.length≤S∧o.p.length≤S:=by
 obtain ⟨g1,g2⟩:=h.gap
 obtain ⟨c1,c2⟩:=Y5J (m.done++Z0Z m)
 exact ⟨Nat.le_trans c1 g1,fun o ho=>g2 o (c2 o ho)⟩
theorem Z7W (b1 b2:Nat) (pr:Ch→Bool) (A:Option Addr) (n c:Nat) (l:List Ch) (w:World) (hn:n=l.length) (h:RdCh w w.heap.size A l) (hb:n≤140737488355328)
 (hcl:∀ (x1 x2 x3 x4:Int) (x6:Bool) (x5:ByteArray) (w':World),Below w.heap.size w w'→Calls Tryz.prog 146 #[.agg #[.int .i64 x1,.bool x6,.int .u8 x2,.int .i64 x3,.int .u64 x4,.string x5],.pointer (some ⟨b1,0,none⟩),.pointer (some ⟨b2,0,none⟩)] w' fun e w''=>e=.returned (.bool (pr ⟨x1,x6,⟨x2,x3,x4,x5⟩⟩))∧Below w'.heap.size w' w'') :
 Calls Tryz.prog 229 #[.slice A n c,.func (.func 146) #[] #[.pointer (some ⟨b1,0,none⟩),.pointer (some ⟨b2,0,none⟩)]] w fun e w' => ∃ i:Int,e=.returned (.int .i64 i)∧Z6l pr l i∧Below w.heap.size w w':=by
 have N:=hid hn
 have HCL:=hid hcl
 clear hn hcl
 go_enter Tryz.func229,Tryz.ntmps229
 go_wp2_with (fail)
 go_loopg [8] n (fun g iv wr => ∃ i:Nat,i≤n∧g=n-i∧iv=.int .i64 i∧Below w.heap.size w wr∧Hid (∀ x∈l.take i,pr x=false))
 case atStart=>exact ⟨0,by omega,rfl,rfl,Below.refl _ _,hid (by simp)⟩
 case round=>
  obtain ⟨i,hi,hg,rfl,hbw,HI⟩:=hrel
  have HG:=hid hg
  clear hg
  by_cases hlt:i<n
  ·have hil:i<l.length:=by have:=N.out;omega
   obtain ⟨ad,x,rfl,_,_,hx,hc1⟩:=(h.below hbw (Nat.le_refl _)).el hil
   have HT:Hid (l.take (i+1)=l.take i++[x]):=hid (by rw [List.take_add_one,hx];rfl)
   have HX:=hid hx
   clear hx hil
   obtain ⟨x1,x6,x2,x3,x4,x5⟩:=x
   obtain ⟨r0,r1,r2,r3,r4,r5⟩:=Z0I hc1
   clear hc1
   by_cases hp:pr ⟨x1,x6,⟨x2,x3,x4,x5⟩⟩=true
   ·go_wp2_with (go_at_call 146;refine (HCL.out _ _ _ _ _ _ _ hbw).mono ?_;rintro e w' ⟨rfl,hb'⟩)
    go_ret
    exact ⟨i,rfl,.inr ⟨i,rfl,by have:=N.out;omega,HI.out,_,HX.out,hp⟩,hbw.trans (hb'.mono hbw.size)⟩
   ·have hp':pr ⟨x1,x6,⟨x2,x3,x4,x5⟩⟩=false:=by simpa using hp
    clear hp
    go_wp2_with (go_at_call 146;refine (HCL.out _ _ _ _ _ _ _ hbw).mono ?_;rintro e w' ⟨rfl,hb'⟩)
    have hbw':=hbw.trans (hb'.mono hbw.size)
    go_roundg (n-(i+1))
    case measure=>have:=HG.out;omega
    case rel=>
     refine ⟨i+1,by omega,rfl,by go_num,hbw',hid ?_⟩
     intro y hy
     rw [HT.out] at hy
     rcases List.mem_append.1 hy with hy|hy
     ·exact HI.out y hy
     ·simp at hy;rw [hy];exact hp'
  ·go_wp2_with (fail)
   go_ret
   refine ⟨-1,rfl,.inl ⟨rfl,?_⟩,hbw⟩
   have h1:=HI.out
   rw [List.take_of_length_le (by have:=N.out;omega)] at h1
   exact h1
theorem Z6N (b1 b2:Nat) (pr:Ch→Bool) (A:Option Addr) (n c base:Nat) (l:List Ch) (w:World) (hown:OwCh w base (.slice A n c) l) (hbase:base≤w.heap.size) (hb:n≤100000000) (hn:n=l.length)
 (hcl:∀ (x1 x2 x3 x4:Int) (x6:Bool) (x5:ByteArray) (w':World),Below base w w'→Calls Tryz.prog 146 #[.agg #[.int .i64 x1,.bool x6,.int .u8 x2,.int .i64 x3,.int .u64 x4,.string x5],.pointer (some ⟨b1,0,none⟩),.pointer (some ⟨b2,0,none⟩)] w' fun e w''=>e=.returned (.bool (pr ⟨x1,x6,⟨x2,x3,x4,x5⟩⟩))∧Below w'.heap.size w' w'') :
 Calls Tryz.prog 144 #[.slice A n c,.func (.func 146) #[] #[.pointer (some ⟨b1,0,none⟩),.pointer (some ⟨b2,0,none⟩)]] w fun e w'=>
  ∃ A' c',e=.returned (.slice A' (l.filter (fun x => !pr x)).length c')∧OwCh w' base (.slice A' (l.filter (fun x => !pr x)).length c') (l.filter (fun x => !pr x))∧Below base w w':=by
 have N:=hid hn
 have HCL:=hid hcl
 have hcap:=hown.cap
 have hlc:n≤c:=by rw [hn];exact hcap.1
 have hcm:c≤2 ^ 63-1:=hcap.2
 clear hn hcl hcap
 generalize hR:l.filter (fun x => !pr x)=R
 have HR:=hid hR
 clear hR
 go_enter Tryz.func144,Tryz.ntmps144
 go_wp2_with (go_at_call 229;refine Hid.out ?_)
 refine hid ?_
 refine (Z7W b1 b2 pr A n c l w N.out (hown.rd Ch.enc_len) (by omega) (fun x1 x2 x3 x4 x6 x5 w' hb'=>HCL.out x1 x2 x3 x4 x6 x5 w' (hb'.mono hbase))).mono ?_
 rintro e w1 ⟨ix,rfl,hix,hb1⟩
 have hbw1:Below base w w1:=hb1.mono hbase
 have hown1:=hown.below hb1 (Nat.le_refl _)
 have hbase1:base≤w1.heap.size:=Nat.le_trans hbase hb1.size
 clear hown hb1
 rcases hix with ⟨rfl,hall⟩ | ⟨i0,rfl,hi0,hpre,x0,hx0,hpx0⟩
 ·have hRl:R=l:=by
   rw [←HR.out]
   exact List.filter_eq_self.2 (fun x hx=>by simp [hall x hx])
  have HRL:=hid hRl
  clear hRl hall
  go_wp2_with (fail)
  go_ret
  refine ⟨A,c,?_,?_,hbw1⟩
  ·rw [HRL.out,←N.out];rfl
  ·rw [HRL.out,←N.out];exact hown1
 ·have hne:((i0:Int) == -1)=false:=beq_eq_false_iff_ne.2 (by omega)
  have hi0n:i0<n:=by rw [N.out];exact hi0
  have hst:Hid (l.take i0=(l.take (i0+1)).filter (fun x => !pr x)):=hid (by
   rw [List.take_add_one,hx0,List.filter_append,List.filter_eq_self.2 (fun x hx=>by simp [hpre x hx])]
   simp [hpx0])
  clear hpre hx0 hpx0 hi0
  go_wp2_with (fail)
  go_loopg [5,6] (n-(i0+1)) (fun g iv jv wr => ∃ (i j:Nat) (m:List Ch),i<j∧j≤n∧g=n-j∧iv=.int .i64 i∧jv=.int .i64 j∧OwCh wr base (.slice A n c) m∧base≤wr.heap.size∧Below base w wr ∧
   Hid (m.length=n∧m.drop j=l.drop j∧m.take i=(l.take j).filter (fun x => !pr x)))
  case atStart=>exact ⟨i0,i0+1,l,by omega,by omega,rfl,rfl,by go_num,hown1,hbase1,hbw1,hid ⟨N.out.symm,rfl,hst.out⟩⟩
  case round=>
   clear hown1 hbase1 hbw1 hst hne hi0n
   obtain ⟨i,j,m,hij,hj,hg,rfl,rfl,hown,hbs,hbw,HI⟩:=hrel
   have HG:=hid hg
   clear hg
   by_cases hlt:j<n
   ·have hjm:j<m.length:=by have:=HI.out.1;omega
    obtain ⟨ad,x,rfl,_,hdm,hx,hc1⟩:=(hown.rd Ch.enc_len).el hjm
    have HX:Hid (l.take (j+1)=l.take j++[x]∧m.drop (j+1)=l.drop (j+1)):=hid (by
     obtain ⟨h1,h2,h3⟩:=HI.out
     have h4:l[j]? = some x:=by
      have:=congrArg (fun t=>t[0]?) h2
      simp only [List.getElem?_drop,Nat.add_zero] at this
      rw [←this,hx]
     refine ⟨by rw [List.take_add_one,h4];rfl,?_⟩
     have:=congrArg (fun t=>t.drop 1) h2
     simpa [List.drop_drop] using this)
    clear hdm hx hjm
    obtain ⟨x1,x6,x2,x3,x4,x5⟩:=x
    obtain ⟨r0,r1,r2,r3,r4,r5⟩:=Z0I hc1
    clear hc1
    have hbx0:=heap_alloc_new wr (.cells #[.int .i64 x1,.bool x6,.int .u8 x2,.int .i64 x3,.int .u64 x4,.string x5] 75)
    have hbwA:=hbw.alloc hbs (.cells #[.int .i64 x1,.bool x6,.int .u8 x2,.int .i64 x3,.int .u64 x4,.string x5] 75)
    have hownA:=hown.alloc (.cells #[.int .i64 x1,.bool x6,.int .u8 x2,.int .i64 x3,.int .u64 x4,.string x5] 75)
    have hsz:=Z5L wr (.cells #[.int .i64 x1,.bool x6,.int .u8 x2,.int .i64 x3,.int .u64 x4,.string x5] 75)
    have hwbA:∀ k,wb (.slice (some ad) n c)=some k→k<wr.heap.size:=fun k hk=>(hown.wb_lt k hk).2
    by_cases hp:pr ⟨x1,x6,⟨x2,x3,x4,x5⟩⟩=true
    ·have HBX0:=hid hbx0
     have HWB:=hid hwbA
     have HSZ:=hid hsz
     clear hbx0 hwbA hsz
     go_wp2_with (go_at_call 146;refine (HCL.out _ _ _ _ _ _ _ hbwA).mono ?_;rintro e w2 ⟨rfl,hb2⟩)
     have hbw2:Below base w w2:=hbwA.trans (hb2.mono (by rw [←HSZ.out];omega))
     have hown2:=hownA.below hb2 (Nat.le_refl _)
     have hbs2:base≤w2.heap.size:=by have:=hb2.size;rw [←HSZ.out] at this;omega
     go_roundg (n-(j+1))
     case measure=>have:=HG.out;omega
     case rel=>
      obtain ⟨h1,h2,h3⟩:=HI.out
      obtain ⟨h4,h5⟩:=HX.out
      exact ⟨i,j+1,m,by omega,by omega,rfl,rfl,by go_num,hown2,hbs2,hbw2,hid ⟨h1,h5,by rw [h4,List.filter_append,h3];simp [hp]⟩⟩
    ·have hp':pr ⟨x1,x6,⟨x2,x3,x4,x5⟩⟩=false:=by simpa using hp
     clear hp
     have HBX0:=hid hbx0
     have HWB:=hid hwbA
     have HSZ:=hid hsz
     clear hbx0 hwbA hsz
     go_wp2_with (go_at_call 146;refine Hid.out ?_)
     refine hid ?_
     refine (HCL.out _ _ _ _ _ _ _ hbwA).mono ?_
     rintro e w2 ⟨rfl,hb2⟩
     have hbw2:Below base w w2:=hbwA.trans (hb2.mono (by rw [←HSZ.out];omega))
     have hown2:=hownA.below hb2 (Nat.le_refl _)
     have hbs2:base≤w2.heap.size:=by have:=hb2.size;rw [←HSZ.out] at this;omega
     have hbx2:=(hb2.block wr.heap.size (by rw [←HSZ.out];omega)).trans HBX0.out
     obtain ⟨b0,b1,b2,b3,b4,b5⟩:=Z4a hbx2
     have him:i<m.length:=by have:=HI.out.1;omega
     have hin:i<n:=by omega
     clear hbx2
     obtain ⟨i1,hi1,hz1,hz2,hz3⟩:=info_parts Tryz.infoCh
     have I1:=hid hi1
     have Z2:=hid hz2
     clear hi1 hz1 hz2 hz3 hownA hbwA
     go_wp2_with (refine Z3V rfl 75 (.tmp 33) (.tmp 32) rfl rfl i1 I1.out Z2.out Ch.enc_len Ch.enc_one hown2 him ⟨x1,x6,⟨x2,x3,x4,x5⟩⟩ (cs:=#[.int .i64 x1,.bool x6,.int .u8 x2,.int .i64 x3,.int .u64 x4,.string x5]) rfl (p:=ad.add (i*6)) rfl rfl rfl ?_;intro w3 hown3 hg3)
     have hbw3:Below base w w3:=hbw2.grown hg3 hbs2 (fun k hk=>(hown2.wb_lt k hk).1)
     have hbs3:base≤w3.heap.size:=Nat.le_trans hbs2 hg3.size
     go_roundg (n-(j+1))
     case measure=>have:=HG.out;omega
     case rel=>
      obtain ⟨h1,h2,h3⟩:=HI.out
      obtain ⟨h4,h5⟩:=HX.out
      refine ⟨i+1,j+1,m.set i ⟨x1,x6,⟨x2,x3,x4,x5⟩⟩,by omega,by omega,rfl,by go_num,by go_num,hown3,hbs3,hbw3,hid ⟨by rw [List.length_set];exact h1,by rw [List.drop_set_of_lt (by omega)];exact h5,?_⟩⟩
      rw [h4,List.filter_append,List.take_add_one,List.getElem?_set_self him,List.take_set_of_le (Nat.le_refl i),h3]
      simp [hp']
   ·have hjn:j=n:=by omega
    have hm0:=HI.out
    obtain ⟨i1,hi1,hz1,hz2,hz3⟩:=info_parts Tryz.infoCh
    have I1:=hid hi1
    have Z1:=hid hz1
    have hmR:m.take i=R:=by
     obtain ⟨h1,h2,h3⟩:=hm0
     rw [h3,←HR.out,List.take_of_length_le (by have:=N.out;omega)]
    have him:i≤m.length:=by have:=hm0.1;omega
    have hiR:i=R.length:=by rw [←hmR,List.length_take,Nat.min_eq_left him]
    have HIR:=hid hiR
    have HMR:=hid hmR
    have HML:Hid (m.length=n):=hid hm0.1
    clear hi1 hz1 hz2 hz3 hmR hiR hm0 hjn
    rcases Nat.lt_or_ge i c with hci|hci
    ·have hne:¬ c=i:=by omega
     go_wp2_with (refine Z1w (i:=i) (X:=A.map (fun x=>x.add (i*6))) rfl (.tmp 38) _ rfl rfl Tryz.slCh i1 _ I1.out Z1.out rfl (by intro u hu;exact Ch.enc_one ⟨0,false,V.zero⟩ u hu) Ch.enc_len hown him (by exact .inr rfl) (by rw [HML.out]) rfl ?_;intro w3 hown3 hg3)
     have hbw3:Below base w w3:=hbw.grown hg3 hbs (fun k hk=>(hown.wb_lt k hk).1)
     rw [HMR.out] at hown3
     have hri:=HIR.out
     subst hri
     go_ret
     exact ⟨A,c,rfl,hown3,hbw3⟩
    ·go_wp2_with (refine Z1w (i:=i) (X:=A) rfl (.tmp 38) _ rfl rfl Tryz.slCh i1 _ I1.out Z1.out rfl (by intro u hu;exact Ch.enc_one ⟨0,false,V.zero⟩ u hu) Ch.enc_len hown him (by have:=HML.out;left;omega) (by rw [HML.out]) rfl ?_;intro w3 hown3 hg3)
     have hbw3:Below base w w3:=hbw.grown hg3 hbs (fun k hk=>(hown.wb_lt k hk).1)
     rw [HMR.out] at hown3
     have hri:=HIR.out
     subst hri
     go_ret
     exact ⟨A,c,rfl,hown3,hbw3⟩
end Go.Proofs.YtnmedachaeanbaaGreatDoor
