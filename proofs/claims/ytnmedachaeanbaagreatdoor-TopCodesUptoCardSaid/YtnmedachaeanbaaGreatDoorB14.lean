/- Merged texts. -/
import Derived.Test.YtnmedachaeanbaaGreatDoorB13
namespace Go.Proofs.YtnmedachaeanbaaGreatDoor
set_option maxRecDepth 100000
set_option maxHeartbeats 1600000
open Go.RowKit
open Go.Lib (hid)
set_option linter.unusedVariables false
set_option linter.unusedSimpArgs false
theorem Z4k (A:Option Addr) (n c:Nat) (l:List Ch) (w:World) (hn:n=l.length) (h:RdCh w w.heap.size A l) (hb:n≤100000000) :
 Calls Tryz.prog 142 #[.slice A n c] w (Y7a l w):=by
 have N:=hid hn
 clear hn
 go_enter Tryz.func142,Tryz.ntmps142
 go_wp2_with (go_at_call 145;refine Hid.out ?_)
 refine hid ?_
 refine (Z56 A n c l w N.out h hb).mono ?_
 rintro e w1 ⟨A',c',rfl,hown,y⟩
 go_wp2_with (fail)
 go_ret
 exact ⟨A',c',rfl,hown,y⟩
theorem Y5f (b:Nat) (Ap:Option Addr) (n:Int) (np cp:Nat) (p:List Ch) (w:World) (F:Nat→Prop) (m:Mk) (h:Mkr w F b m) (hn:n<1) :
 Calls Tryz.prog 65 #[.pointer (some ⟨b,0,none⟩),.int .i64 n,.slice Ap np cp] w (Z5m (Z0v m n p) w F b):=by
 have H:=hid h
 have e:Z0v m n p=m:=by unfold Z0v;rw [if_pos hn]
 rw [e]
 clear h e
 go_enter Tryz.func65,Tryz.ntmps65
 go_wp2_with (fail)
 refine bodyPost_ret (results_none rfl _ _ _) rfl ?_
 exact ⟨rfl,F,H.out,Grow.refl _ _⟩
theorem Y5g (b:Nat) (Ap:Option Addr) (n:Int) (np cp:Nat) (p:List Ch) (w:World) (F:Nat→Prop) (m:Mk) (h:Mkr w F b m)
 (hnp:np=p.length) (rp:RdCh w w.heap.size Ap p) (op:OffF F Ap p.length) (hb:np≤1048576) (hn1:¬ n<1) (hmb:m.done.length+m.ins.length≤10000000) (h0:m.done++Z0Z m=[]) :
 Calls Tryz.prog 65 #[.pointer (some ⟨b,0,none⟩),.int .i64 n,.slice Ap np cp] w (Z5m (Z0v m n p) w F b):=by
 obtain ⟨vd,vi,D,I,h1,h2,h3,h4,h5,h6,h7,h8,h9,h10,h11⟩:=h
 obtain ⟨Ad,cd,rfl,_,_⟩:=h2.form
 obtain ⟨Ai,ci,rfl,_,_⟩:=h3.form
 have HD:=hid (show D.length≤10000000 by rw [←h4,←h5] at hmb;simp [osOf] at hmb;omega)
 have HI:=hid (show I.length≤10000000 by rw [←h4,←h5] at hmb;simp [osOf] at hmb;omega)
 have NP:=hid hnp
 have H1:=hid h1
 have H2:=hid h2
 have H3:=hid h3
 have hlt:=Z0c h1
 obtain ⟨c0,c1,c2⟩:=Z0X h1
 have hf:=Z0h h1 0
 have H4:=hid h4
 have H5:=hid h5
 have HL0:Hid (D++gapS I m.gone=[]):=hid (by
  have e:osOf (D++gapS I m.gone)=[]:=by rw [←h0];unfold osOf;rw [List.map_append];show osOf D++osOf (gapS I m.gone)=_;rw [Z3v,h4,h5];rfl
  unfold osOf at e
  simpa using e)
 have HM:Hid (Z0v m n p=⟨[opR n p],[],0⟩):=hid (by unfold Z0v addR;rw [if_neg hn1,h0];rfl)
 clear hnp h1 h2 h3 h4 h5 hmb h0
 generalize hgone:m.gone=gone at *
 go_enter Tryz.func65,Tryz.ntmps65
 go_wp2_with (fail)
 go_region_law (first
  | (refine Z0L rfl 140 [.tmp 18] #[110] rfl Tryz.f140 (by kernel_rfl) (by kernel_rfl) (by kernel_rfl) [.pointer (some ⟨b,0,none⟩)] (by rfl) (Z3w b (.slice Ad D.length cd) Ai I.length ci gone I w.drew H1.out rfl (H3.out.rd OpS.enc_len) (by have:=HI.out;omega)) ?_
     rintro e w1 ⟨A1,k1,rfl,o1,y1⟩
     refine ⟨_,rfl,?_⟩
     have hb1:=(y1.block b hlt).trans H1.out
     obtain ⟨d0,d1,d2⟩:=Z0X hb1
     have hf1:=Z0h hb1 0
     have HB1:=hid hb1
     have O1:=hid o1
     have Y1:Hid (Below w.heap.size w w1):=hid ((Z0U (Below.refl _ _)).trans y1)
     clear hb1 o1 y1)
  | (refine Z22 (m:=gapS I gone) rfl (.tmp 17) (.tmp 19) (by rfl) (by rfl) (H2.out.below Y1.out (Nat.le_refl _)) w1.heap.size A1 k1 (gapS I gone).length (by rfl) rfl (O1.out.rd OpS.enc_len) (by have:=HD.out;have:=HI.out;have:=Z08 I gone;omega) (Nat.zero_le _) ?_
     intro vd' w4 ho hgr hv
     obtain ⟨A',c',hv',_,_⟩:=ho.form
     subst hv'
     generalize hnl:(D++gapS I gone).length=nl at ho hv
     have hbv:wb (.slice Ad D.length cd)≠some b:=fun e=>(h8 b e).2.1 rfl
     have hb4:=(hgr.block b (Z0c HB1.out) (fun e=>hbv e.symm)).trans HB1.out
     obtain ⟨q0,q1,q2⟩:=Z0X hb4
     have hf4:=Z0h hb4 0
     have hf4b:=Z0h hb4 1
     have hf4c:=Z0h hb4 2
     have HB4:=hid hb4
     have HO:=hid ho
     have HG:=hid hgr
     have HV:=hid hv
     have HNL:=hid hnl
     have hnl0:nl=0:=by rw [←hnl,HL0.out];rfl
     subst hnl0
     clear ho hgr hv hb4 hbv hnl))
 all_goals
  obtain ⟨F2,hF2,hG2⟩:=Z5u (m:=m) (by rw [hgone];exact H1.out) H2.out H3.out H4.out H5.out h6 h7 h8 h9 h10 h11 Y1.out (by rw [hgone];exact HO.out) HG.out HV.out
  go_wp2_with (fail)
  generalize ((w4.setCell ⟨b,0,none⟩ (.slice A' 0 c')).setCell ⟨b,1,none⟩ (.slice none 0 0)).setCell ⟨b,2,none⟩ (.int .i64 0)=W at hF2 hG2 ⊢
  have rpW:=rp.grow hG2 op
  rw [hgone,HL0.out] at hF2
  have hW:=hF2.1
  obtain ⟨a0,a1,a2⟩:=Z0X hW
  have haf:=Z0h hW 0
  have hWlt:=Z0c hW
  have HF2:=hid hF2
  have HW:=hid hW
  clear hF2 hW
  go_region_law (first
   | (refine Z0L rfl 142 [.tmp 78] #[24] rfl Tryz.f142 (by kernel_rfl) (by kernel_rfl) (by kernel_rfl) [.slice Ap np cp] (by rfl) (Z4k Ap np cp p W.drew NP.out (rpW.ext (Z0U (Below.refl _ _))) (by omega)) ?_
      rintro e w5 ⟨A3,k3,rfl,o5,y5⟩
      refine ⟨_,rfl,?_⟩
      have hb5:=(y5.block b hWlt).trans HW.out
      obtain ⟨d0,d1,d2⟩:=Z0X hb5
      have hf5:=Z0h hb5 0
      have O5:=hid o5
      have Y5:Hid (Below W.heap.size W w5):=hid ((Z0U (Below.refl _ _)).trans y5)
      have y6:=Z0b w5 (.cells #[.int .u8 1,.int .i64 n,.slice none 0 0,.slice none 0 0,.slice A3 p.length k3] 36)
      have hb6:=(y6.block b (Z0c hb5)).trans hb5
      obtain ⟨g0,g1,g2⟩:=Z0X hb6
      have hf6:=Z0h hb6 0
      have HB6:=hid hb6
      have Y6:=hid y6
      clear hb5 hb6 o5 y5 y6)
   | (refine Z22 (m:=[retS n p A3 k3]) rfl (.tmp 76) (.tmp 81) (by rfl) (by rfl) ((HF2.out.2.1.below Y5.out (Nat.le_refl _)).below Y6.out (Nat.le_refl _)) _ _ 1 1 (by rfl) rfl (Z3j (enc:=OpS.enc) (size:=5) w5 _ (retS n p A3 k3) rfl) (by simp) (Nat.zero_le _) ?_
      intro vd6 w6 ho hgr hv
      obtain ⟨A6,c6,hv6,_,_⟩:=ho.form
      subst hv6
      generalize hnl6:([]++[retS n p A3 k3]).length=nl6 at ho hv
      have hbv:wb (.slice A' 0 c')≠some b:=fun e=>(HF2.out.2.2.2.2.1 b e).2 rfl
      have hb7:=(hgr.block b (Z0c HB6.out) (fun e=>hbv e.symm)).trans HB6.out
      obtain ⟨q0',q1',q2'⟩:=Z0X hb7
      have hf7:=Z0h hb7 0
      have HO6:=hid ho
      have HG6:=hid hgr
      have HV6:=hid hv
      clear ho hgr hv hb7 hbv hnl6))
  all_goals go_wp2_with (fail)
  all_goals
   refine bodyPost_ret (results_none rfl _ _ _) rfl ?_
   obtain ⟨F3,f1,f2⟩:=Z9P HF2.out Y5.out O5.out Y6.out HO6.out HG6.out HV6.out
   rw [HM.out]
   exact ⟨rfl,F3,f1.mkr,hG2.trans f2⟩
end Go.Proofs.YtnmedachaeanbaaGreatDoor
