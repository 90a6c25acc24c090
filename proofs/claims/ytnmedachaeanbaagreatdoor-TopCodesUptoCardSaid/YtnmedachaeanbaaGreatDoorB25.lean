/- Merged texts. -/
import Derived.Test.YtnmedachaeanbaaGreatDoorB22
namespace Go.Proofs.YtnmedachaeanbaaGreatDoor
set_option maxRecDepth 100000
set_option maxHeartbeats 1600000
open Go.RowKit
open Go.Lib (hid)
set_option linter.unusedVariables false
set_option linter.unusedSimpArgs false
theorem Y5C (b:Nat) (Ap:Option Addr) (n:Int) (np cp:Nat) (p:List Ch) (w:World) (F:Nat→Prop) (m:Mk) (h:Mkr w F b m)
 (hnp:np=p.length) (rp:RdCh w w.heap.size Ap p) (op:OffF F Ap p.length) (hb:np≤1048576) (hn1:¬ n<1) (hmb:m.done.length+m.ins.length≤10000000) (o:Opd) (h0:(m.done++Z0Z m).getLast? = some o) (hob:o.p.length≤1048576) (hk:o.k=1) (hp:o.p=p) :
 Calls Tryz.prog 65 #[.pointer (some ⟨b,0,none⟩),.int .i64 n,.slice Ap np cp] w (Z5m (Z0v m n p) w F b):=by
 obtain ⟨vd,vi,D,I,h1,h2,h3,h4,h5,h6,h7,h8,h9,h10,h11⟩:=h
 obtain ⟨Ad,cd,rfl,_,_⟩:=h2.form
 obtain ⟨Ai,ci,rfl,_,_⟩:=h3.form
 have HD:=hid (show D.length≤10000000 by rw [←h4,←h5] at hmb;simp [osOf] at hmb;omega)
 have HI:=hid (show I.length≤10000000 by rw [←h4,←h5] at hmb;simp [osOf] at hmb;omega)
 have NP:=hid hnp
 have H1:=hid h1
 have H2:=hid h2
 have H3:=hid h3
 have hlt:=Z0c h1
 obtain ⟨c0,c1,c2⟩:=Z0X h1
 have hf:=Z0h h1 0
 have H4:=hid h4
 have H5:=hid h5
 have HL0:Hid (osOf (D++gapS I m.gone)=m.done++Z0Z m):=hid (by
  unfold osOf;rw [List.map_append];show osOf D++osOf (gapS I m.gone)=_;rw [Z3v,h4,h5];rfl)
 have HM:Hid (Z0v m n p=⟨(m.done++Z0Z m).dropLast++[{ o with n:=IntKind.i64.wrap (o.n+n) }],[],0⟩):=hid (by unfold Z0v addR;rw [if_neg hn1,h0];simp only;rw [if_pos ⟨hk,hp⟩])
 have H0:Hid ((osOf (D++gapS I m.gone)).getLast? = some o):=hid (by rw [HL0.out];exact h0)
 have HK:=hid hk
 have HP:=hid hp
 clear hnp h1 h2 h3 h4 h5 hmb h0 hk hp
 generalize hgone:m.gone=gone at *
 go_enter Tryz.func65,Tryz.ntmps65
 go_wp2_with (fail)
 go_region_law (first
  | (refine Z0L rfl 140 [.tmp 18] #[110] rfl Tryz.f140 (by kernel_rfl) (by kernel_rfl) (by kernel_rfl) [.pointer (some ⟨b,0,none⟩)] (by rfl) (Z3w b (.slice Ad D.length cd) Ai I.length ci gone I w.drew H1.out rfl (H3.out.rd OpS.enc_len) (by have:=HI.out;omega)) ?_
     rintro e w1 ⟨A1,k1,rfl,o1,y1⟩
     refine ⟨_,rfl,?_⟩
     have hb1:=(y1.block b hlt).trans H1.out
     obtain ⟨d0,d1,d2⟩:=Z0X hb1
     have hf1:=Z0h hb1 0
     have HB1:=hid hb1
     have O1:=hid o1
     have Y1:Hid (Below w.heap.size w w1):=hid ((Z0U (Below.refl _ _)).trans y1)
     clear hb1 o1 y1)
  | (refine Z22 (m:=gapS I gone) rfl (.tmp 17) (.tmp 19) (by rfl) (by rfl) (H2.out.below Y1.out (Nat.le_refl _)) w1.heap.size A1 k1 (gapS I gone).length (by rfl) rfl (O1.out.rd OpS.enc_len) (by have:=HD.out;have:=HI.out;have:=Z08 I gone;omega) (Nat.zero_le _) ?_
     intro vd' w4 ho hgr hv
     obtain ⟨A',c',hv',_,_⟩:=ho.form
     subst hv'
     generalize hnl:(D++gapS I gone).length=nl at ho hv
     have hbv:wb (.slice Ad D.length cd)≠some b:=fun e=>(h8 b e).2.1 rfl
     have hb4:=(hgr.block b (Z0c HB1.out) (fun e=>hbv e.symm)).trans HB1.out
     obtain ⟨q0,q1,q2⟩:=Z0X hb4
     have hf4:=Z0h hb4 0
     have hf4b:=Z0h hb4 1
     have hf4c:=Z0h hb4 2
     have HB4:=hid hb4
     have HO:=hid ho
     have HG:=hid hgr
     have HV:=hid hv
     have HNL:=hid hnl
     have hnlb:nl≤20000001:=by rw [←hnl,List.length_append];have:=HD.out;have:=HI.out;have:=Z08 I gone;omega
     clear ho hgr hv hb4 hbv hnl))
 all_goals
  obtain ⟨F2,hF2,hG2⟩:=Z5u (m:=m) (by rw [hgone];exact H1.out) H2.out H3.out H4.out H5.out h6 h7 h8 h9 h10 h11 Y1.out (by rw [hgone];exact HO.out) HG.out HV.out
  obtain ⟨g,x,hnp1,hA',hx,hxo,hLx,⟨cur,hg⟩,hcx⟩:=Z2Q HO.out HNL.out H0.out
  subst hA'
  have hgb:g≠b:=(hF2.2.2.2.2.1 g (by obtain ⟨q,hq⟩:∃ q,c'=q+1:=⟨c'-1,by have:=HO.out.cap;have:=HNL.out;omega⟩;rw [hq];rfl)).2
  have hgb':b≠g:=fun e=>hgb e.symm
  have hPF:=hF2.2.2.2.2.2 x (by rw [hgone];rw [hLx];simp)
  obtain ⟨⟨xk,xn,xr,xs,xp⟩,Ar,cr,As,cs,Aq,cq⟩:=x
  obtain ⟨z0,z1,z2,z3,z4⟩:=Z0r hcx
  have e1:(1:Int)≤(nl:Int):=by omega
  have e2:(nl:Int)-1<(nl:Int):=by omega
  have hzf:w4.frozen? ⟨g,(nl-1)*5+1,none⟩=false:=Z0h hg _
  have hko:xk=o.k:=by rw [←hxo]
  have hpo:xp=o.p:=by rw [←hxo]
  have rpE:=rp.grow hG2 op
  have rqE:=hPF.2.2.1
  have hqb:xp.length≤1048576:=by rw [hpo];exact hob
  have HCX:=hid hcx
  have HLX:=hid hLx
  have HX:=hid hx
  have HXO:=hid hxo
  clear hcx hPF hLx hx hxo
  have hk1:xk=1:=by rw [hko];exact HK.out
  clear hko
  subst hk1
  have hfp:decide (xp=p)=true:=by rw [hpo];exact decide_eq_true HP.out
  clear hpo
  go_wp2_with (go_at_call 141;refine (Z5P Aq Ap xp.length np cq cp xp p _ rfl NP.out rqE rpE (by omega) (by omega)).mono ?_;rintro e w5 ⟨rfl,q,rfl⟩)
  refine bodyPost_ret (results_none rfl _ _ _) rfl ?_
  have hF3:=hF2.below (Z0m _ q)
  have hG3:=hG2.trans (Grow.of (Z0m _ q))
  rw [hgone] at hF3
  have hw:IntKind.i64.wrap (xn+n)=wrap64 (xn+n):=by rw [IntWalk.i64_left]
  obtain ⟨f1,f2⟩:=Y7e hF3 HX.out HLX.out (wrap64 (xn+n))
  rw [HNL.out] at f1 f2
  have e9:osOf ((D++gapS I gone).dropLast++[({ o:={ k:=1,n:=wrap64 (xn+n),r:=xr,s:=xs,p:=xp },Ar:=Ar,cr:=cr,As:=As,cs:=cs,Ap:=Aq,cp:=cq }:OpS)])=(m.done++Z0Z m).dropLast++[{ o with n:=IntKind.i64.wrap (o.n+n) }]:=by
   rw [←HL0.out,←HXO.out];simp [osOf,List.map_dropLast,hw]
  rw [HM.out,←e9]
  exact ⟨rfl,F2,f1.mkr,hG3.trans f2⟩
end Go.Proofs.YtnmedachaeanbaaGreatDoor
