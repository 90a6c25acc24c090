/- Merged texts. -/
import Derived.Test.YtnmedachaeanbaaGreatDoorB22
namespace Go.Proofs.YtnmedachaeanbaaGreatDoor
set_option maxRecDepth 100000
set_option maxHeartbeats 1600000
open Go.RowKit
open Go.Lib (hid)
set_option linter.unusedVariables false
set_option linter.unusedSimpArgs false
theorem Y3U (b:Nat) (Ap:Option Addr) (n:Int) (np cp:Nat) (p:List Ch) (w:World) (F:Nat→Prop) (m:Mk) (h:Mkr w F b m)
 (hnp:np=p.length) (rp:RdCh w w.heap.size Ap p) (op:OffF F Ap p.length) (hb:np≤1048576) (hn1:¬ n<1) (hmb:m.done.length+m.ins.length≤10000000) (o:Opd) (h0:(m.done++Z0Z m).getLast? = some o) (hob:o.p.length≤1048576) (hk:o.k=1) (hp:¬ o.p=p) :
 Calls Tryz.prog 65 #[.pointer (some ⟨b,0,none⟩),.int .i64 n,.slice Ap np cp] w (Z5m (Z0v m n p) w F b):=by
 obtain ⟨vd,vi,D,I,h1,h2,h3,h4,h5,h6,h7,h8,h9,h10,h11⟩:=h
 obtain ⟨Ad,cd,rfl,_,_⟩:=h2.form
 obtain ⟨Ai,ci,rfl,_,_⟩:=h3.form
 have HD:=hid (show D.length≤10000000 by rw [←h4,←h5] at hmb;simp [osOf] at hmb;omega)
 have HI:=hid (show I.length≤10000000 by rw [←h4,←h5] at hmb;simp [osOf] at hmb;omega)
 have NP:=hid hnp
 have H1:=hid h1
 have H2:=hid h2
 have H3:=hid h3
 have hlt:=Z0c h1
 obtain ⟨c0,c1,c2⟩:=Z0X h1
 have hf:=Z0h h1 0
 have H4:=hid h4
 have H5:=hid h5
 have HL0:Hid (osOf (D++gapS I m.gone)=m.done++Z0Z m):=hid (by
  unfold osOf;rw [List.map_append];show osOf D++osOf (gapS I m.gone)=_;rw [Z3v,h4,h5];rfl)
 have HM:Hid (Z0v m n p=⟨m.done++Z0Z m++[opR n p],[],0⟩):=hid (by unfold Z0v addR;rw [if_neg hn1,h0];simp only;rw [if_neg (fun h=>hp h.2)])
 have H0:Hid ((osOf (D++gapS I m.gone)).getLast? = some o):=hid (by rw [HL0.out];exact h0)
 have HK:=hid hk
 have HP:=hid hp
 clear hnp h1 h2 h3 h4 h5 hmb h0 hk hp
 generalize hgone:m.gone=gone at *
 go_enter Tryz.func65,Tryz.ntmps65
 go_wp2_with (fail)
 go_region_law (first
  | (refine Z0L rfl 140 [.tmp 18] #[110] rfl Tryz.f140 (by kernel_rfl) (by kernel_rfl) (by kernel_rfl) [.pointer (some ⟨b,0,none⟩)] (by rfl) (Z3w b (.slice Ad D.length cd) Ai I.length ci gone I w.drew H1.out rfl (H3.out.rd OpS.enc_len) (by have:=HI.out;omega)) ?_
     rintro e w1 ⟨A1,k1,rfl,o1,y1⟩
     refine ⟨_,rfl,?_⟩
     have hb1:=(y1.block b hlt).trans H1.out
     obtain ⟨d0,d1,d2⟩:=Z0X hb1
     have hf1:=Z0h hb1 0
     have HB1:=hid hb1
     have O1:=hid o1
     have Y1:Hid (Below w.heap.size w w1):=hid ((Z0U (Below.refl _ _)).trans y1)
     clear hb1 o1 y1)
  | (refine Z22 (m:=gapS I gone) rfl (.tmp 17) (.tmp 19) (by rfl) (by rfl) (H2.out.below Y1.out (Nat.le_refl _)) w1.heap.size A1 k1 (gapS I gone).length (by rfl) rfl (O1.out.rd OpS.enc_len) (by have:=HD.out;have:=HI.out;have:=Z08 I gone;omega) (Nat.zero_le _) ?_
     intro vd' w4 ho hgr hv
     obtain ⟨A',c',hv',_,_⟩:=ho.form
     subst hv'
     generalize hnl:(D++gapS I gone).length=nl at ho hv
     have hbv:wb (.slice Ad D.length cd)≠some b:=fun e=>(h8 b e).2.1 rfl
     have hb4:=(hgr.block b (Z0c HB1.out) (fun e=>hbv e.symm)).trans HB1.out
     obtain ⟨q0,q1,q2⟩:=Z0X hb4
     have hf4:=Z0h hb4 0
     have hf4b:=Z0h hb4 1
     have hf4c:=Z0h hb4 2
     have HB4:=hid hb4
     have HO:=hid ho
     have HG:=hid hgr
     have HV:=hid hv
     have HNL:=hid hnl
     have hnlb:nl≤20000001:=by rw [←hnl,List.length_append];have:=HD.out;have:=HI.out;have:=Z08 I gone;omega
     clear ho hgr hv hb4 hbv hnl))
 all_goals
  obtain ⟨F2,hF2,hG2⟩:=Z5u (m:=m) (by rw [hgone];exact H1.out) H2.out H3.out H4.out H5.out h6 h7 h8 h9 h10 h11 Y1.out (by rw [hgone];exact HO.out) HG.out HV.out
  obtain ⟨g,x,hnp1,hA',hx,hxo,hLx,⟨cur,hg⟩,hcx⟩:=Z2Q HO.out HNL.out H0.out
  subst hA'
  have hgb:g≠b:=(hF2.2.2.2.2.1 g (by obtain ⟨q,hq⟩:∃ q,c'=q+1:=⟨c'-1,by have:=HO.out.cap;have:=HNL.out;omega⟩;rw [hq];rfl)).2
  have hgb':b≠g:=fun e=>hgb e.symm
  have hPF:=hF2.2.2.2.2.2 x (by rw [hgone];rw [hLx];simp)
  obtain ⟨⟨xk,xn,xr,xs,xp⟩,Ar,cr,As,cs,Aq,cq⟩:=x
  obtain ⟨z0,z1,z2,z3,z4⟩:=Z0r hcx
  have e1:(1:Int)≤(nl:Int):=by omega
  have e2:(nl:Int)-1<(nl:Int):=by omega
  have hzf:w4.frozen? ⟨g,(nl-1)*5+1,none⟩=false:=Z0h hg _
  have hko:xk=o.k:=by rw [←hxo]
  have hpo:xp=o.p:=by rw [←hxo]
  have rpE:=rp.grow hG2 op
  have rqE:=hPF.2.2.1
  have hqb:xp.length≤1048576:=by rw [hpo];exact hob
  have HCX:=hid hcx
  have HLX:=hid hLx
  have HX:=hid hx
  have HXO:=hid hxo
  clear hcx hPF hLx hx hxo
  have hk1:xk=1:=by rw [hko];exact HK.out
  clear hko
  subst hk1
  have hfp:decide (xp=p)=false:=by rw [hpo];exact decide_eq_false HP.out
  clear hpo
  go_wp2_with (go_at_call 141;refine (Z5P Aq Ap xp.length np cq cp xp p _ rfl NP.out rqE rpE (by omega) (by omega)).mono ?_;rintro e w5 ⟨rfl,q,rfl⟩)
  have hF2:=hF2.below (Z0m _ q)
  have hG2:=hG2.trans (Grow.of (Z0m _ q))
  generalize (((w4.setCell ⟨b,0,none⟩ (.slice (some ⟨g,0,none⟩) nl c')).setCell ⟨b,1,none⟩ (.slice none 0 0)).setCell ⟨b,2,none⟩ (.int .i64 0)).drewN q=W at hF2 hG2 ⊢
  have rpW:=rp.grow hG2 op
  rw [hgone] at hF2
  have hW:=hF2.1
  obtain ⟨a0,a1,a2⟩:=Z0X hW
  have haf:=Z0h hW 0
  have hWlt:=Z0c hW
  have HF2:=hid hF2
  have HW:=hid hW
  clear hF2 hW
  go_region_law (first
   | (refine Z0L rfl 142 [.tmp 78] #[24] rfl Tryz.f142 (by kernel_rfl) (by kernel_rfl) (by kernel_rfl) [.slice Ap np cp] (by rfl) (Z4k Ap np cp p W.drew NP.out (rpW.ext (Z0U (Below.refl _ _))) (by omega)) ?_
      rintro e w5 ⟨A3,k3,rfl,o5,y5⟩
      refine ⟨_,rfl,?_⟩
      have hb5:=(y5.block b hWlt).trans HW.out
      obtain ⟨d0,d1,d2⟩:=Z0X hb5
      have hf5:=Z0h hb5 0
      have O5:=hid o5
      have Y5:Hid (Below W.heap.size W w5):=hid ((Z0U (Below.refl _ _)).trans y5)
      have y6:=Z0b w5 (.cells #[.int .u8 1,.int .i64 n,.slice none 0 0,.slice none 0 0,.slice A3 p.length k3] 36)
      have hb6:=(y6.block b (Z0c hb5)).trans hb5
      obtain ⟨g0,g1,g2⟩:=Z0X hb6
      have hf6:=Z0h hb6 0
      have HB6:=hid hb6
      have Y6:=hid y6
      clear hb5 hb6 o5 y5 y6)
   | (refine Z22 (m:=[retS n p A3 k3]) rfl (.tmp 76) (.tmp 81) (by rfl) (by rfl) ((HF2.out.2.1.below Y5.out (Nat.le_refl _)).below Y6.out (Nat.le_refl _)) _ _ 1 1 (by rfl) rfl (Z3j (enc:=OpS.enc) (size:=5) w5 _ (retS n p A3 k3) rfl) (by have:=HNL.out;simp only [List.length_singleton];omega) (Nat.zero_le _) ?_
      intro vd6 w6 ho hgr hv
      obtain ⟨A6,c6,hv6,_,_⟩:=ho.form
      subst hv6
      generalize hnl6:(D++gapS I gone++[retS n p A3 k3]).length=nl6 at ho hv
      have hbv:wb (.slice (some ⟨g,0,none⟩) nl c')≠some b:=fun e=>(HF2.out.2.2.2.2.1 b e).2 rfl
      have hb7:=(hgr.block b (Z0c HB6.out) (fun e=>hbv e.symm)).trans HB6.out
      obtain ⟨q0',q1',q2'⟩:=Z0X hb7
      have hf7:=Z0h hb7 0
      have HO6:=hid ho
      have HG6:=hid hgr
      have HV6:=hid hv
      clear ho hgr hv hb7 hbv hnl6))
  all_goals go_wp2_with (fail)
  all_goals
   refine bodyPost_ret (results_none rfl _ _ _) rfl ?_
   obtain ⟨F3,f1,f2⟩:=Z9P HF2.out Y5.out O5.out Y6.out HO6.out HG6.out HV6.out
   rw [HM.out]
   have e9:osOf (D++gapS I gone++[retS n p A3 k3])=m.done++Z0Z m++[opR n p]:=by rw [←HL0.out];simp [osOf,retS]
   rw [←e9]
   exact ⟨rfl,F3,f1.mkr,hG2.trans f2⟩
end Go.Proofs.YtnmedachaeanbaaGreatDoor
