/- Merged texts. -/
import Derived.Test.YtnmedachaeanbaaGreatDoorB12
namespace Go.Proofs.YtnmedachaeanbaaGreatDoor
set_option maxRecDepth 100000
set_option maxHeartbeats 1600000
open Go.RowKit
open Go.Lib (hid)
set_option linter.unusedVariables false
set_option linter.unusedSimpArgs false
theorem Z7M {w:World} {base c:Nat} {A:Option Addr} {I:List OpS} {o:Opd} (h:OwOs w base (.slice A I.length c) I) (ho:(osOf I).getLast? = some o) :
 ∃ (g:Nat) (x:OpS),0<I.length∧A=some ⟨g,0,none⟩∧I.getLast? = some x∧x.o=o∧I=I.dropLast++[x] ∧
   (∃ cur,w.heap[g]? = some (.cells cur 36 (0,0)))∧CellsAt w ⟨g,(I.length-1)*5,none⟩ x.enc:=by
 rcases List.eq_nil_or_concat I with h0 | ⟨t,x,h0⟩
 ·subst h0;cases ho
 ·rw [List.concat_eq_append] at h0
  have hlen:I.length=t.length+1:=by rw [h0];simp
  obtain ⟨g,cur,hA,_,_,hg,_,_,_,_⟩:=h.row (by omega)
  have hi:t.length<I.length:=by omega
  obtain ⟨ad,hA2,_,hc⟩:=(h.rd OpS.enc_len).at_ hi
  rw [hA] at hA2
  injection hA2 with hA2
  subst hA2
  rw [Z54] at hc
  have hx:I[t.length]=x:=by simp [h0]
  rw [hx] at hc
  refine ⟨g,x,by omega,hA,by rw [h0];simp,?_,by rw [h0];simp,⟨cur,hg⟩,by rw [hlen,Nat.add_sub_cancel];exact hc⟩
  rw [h0] at ho
  simpa [osOf] using ho
theorem Y5d (b:Nat) (A A2:Option Addr) (n c n2 c2:Nat) (l:List Int) (s:List At) (w:World) (F:Nat→Prop) (m:Mk) (h:Mkr w F b m)
 (hn:n=l.length) (hn2:n2=s.length) (r1:Z11 w w.heap.size A l) (r2:RdAt w w.heap.size A2 s) (hb:n≤10000000) (hb2:n2≤10000000) (hl:l≠[]) (o:Opd) (h0:m.ins.getLast? = some o) (hne:¬ o.s=s)
 (hmb:m.ins.length≤10000000) (hob:o.s.length≤10000000) :
 Calls Tryz.prog 64 #[.pointer (some ⟨b,0,none⟩),.slice A n c,.slice A2 n2 c2] w (Z5m (Z0J m l s) w F b):=by
 obtain ⟨vd,vi,D,I,h1,h2,h3,h4,h5,h6,h7,h8,h9,h10,h11⟩:=h
 obtain ⟨Ai,ci,rfl,hci,hcm⟩:=h3.form
 obtain ⟨g,x,hN0,hAi,hx,hxo,hI,⟨cur,hg⟩,hcx⟩:=Z7M h3 (by rw [h5];exact h0)
 subst hAi
 have hml:I.length≤10000000:=by rw [←h5] at hmb;simpa [osOf] using hmb
 have hnp:n≠0:=by rw [hn];intro e;exact hl (List.eq_nil_of_length_eq_zero e)
 have hn0:((n:Int)==0)=false:=beq_eq_false_iff_ne.2 (by omega)
 have N:=hid hn
 have N2:=hid hn2
 have H1:=hid h1
 have H3:=hid h3
 have hlt:=Z0c h1
 obtain ⟨c0,c1,c2'⟩:=Z0X h1
 have hf:=Z0h h1 1
 have HL:=hid hl
 have H5:=hid h5
 have H0:=hid h0
 have HNE:=hid hne
 have hpos:0<n:=by omega
 have hL:=h11.2 x hx
 obtain ⟨⟨k,nn,r,sx,p⟩,Ar,cr,As,cs,Ap,cp⟩:=x
 obtain ⟨z0,z1,z2,z3,z4⟩:=Z0r hcx
 have hs:o.s=sx:=by rw [←hxo]
 have RS:=hid hL.2.2.1.1
 have SL:=hid (show sx.length≤10000000 by rw [←hs];exact hob)
 have hfn:decide (sx=s)=false:=by rw [←hs];exact decide_eq_false hne
 have HX:=hid hx
 have HI:=hid hI
 have e1:(1:Int)≤(I.length:Int):=by omega
 clear hn hn2 h1 h3 h5 h0 hl hnp hL hx hI hne hcx
 go_enter Tryz.func64,Tryz.ntmps64
 go_wp2_with (go_at_call 73;refine (Z1G As A2 sx.length n2 cs c2 sx s _ rfl N2.out RS.out r2 (by have:=SL.out;omega) (by omega)).mono ?_;rintro e w1 ⟨rfl,q,rfl⟩)
 have YQ:Hid (Below w.heap.size w (w.drewN q).drew):=hid (Z0U (Z0m w q))
 go_region_law (first
  | (refine Z0L rfl 138 [.tmp 56] #[33] rfl Tryz.f138 (by kernel_rfl) (by kernel_rfl) (by kernel_rfl) [.slice A n c] (by rfl) (Z3s A n c l (w.drewN q).drew N.out (r1.ext YQ.out) (by omega)) ?_
     rintro e w1 ⟨A1,k1,rfl,o1,y1⟩
     refine ⟨_,rfl,?_⟩
     have hb1:=(y1.block b hlt).trans H1.out
     obtain ⟨d0,d1,d2⟩:=Z0X hb1
     have hf1:=Z0h hb1 1
     have HB1:=hid hb1
     have O1:=hid o1
     have Y1:Hid (Below w.heap.size w w1):=hid (YQ.out.trans y1)
     clear hb1 o1 y1)
  | (refine Z0L rfl 139 [.tmp 58] #[34] rfl Tryz.f139 (by kernel_rfl) (by kernel_rfl) (by kernel_rfl) [.slice A2 n2 c2] (by rfl) (Z4j A2 n2 c2 s w1 N2.out (r2.ext Y1.out) (by omega)) ?_
     rintro e w2 ⟨A3,k3,rfl,o2,y2⟩
     refine ⟨_,rfl,?_⟩
     have hb2:=(y2.block b (Z0c HB1.out)).trans HB1.out
     obtain ⟨e0,e1,e2⟩:=Z0X hb2
     have hf2:=Z0h hb2 1
     have y3:=Z0b w2 (.cells #[.int .u8 2,.int .i64 0,.slice A1 l.length k1,.slice A3 s.length k3,.slice none 0 0] 36)
     have hb3:=(y3.block b (Z0c hb2)).trans hb2
     obtain ⟨g0,g1,g2⟩:=Z0X hb3
     have hf3:=Z0h hb3 1
     have HB3:=hid hb3
     have O2:=hid o2
     have Y2:=hid y2
     clear hb2 hb3 o2 y2)
  | (refine Z22 (m:=[insS l s A1 k1 A3 k3]) rfl (.tmp 55) (.tmp 61) (by rfl) (by rfl) ((H3.out.below Y1.out (Nat.le_refl _)).below (Z0a Y2.out y3) (Nat.le_refl _)) _ _ 1 1 (by rfl) rfl (Z3j (enc:=OpS.enc) (size:=5) w2 _ (insS l s A1 k1 A3 k3) rfl) (by simp only [List.length_singleton];omega) (Nat.zero_le _) ?_
     intro vi' w4 ho hgr hv
     obtain ⟨A',c',hv',_,_⟩:=ho.form
     subst hv'
     have el:(I++[insS l s A1 k1 A3 k3]).length=I.length+1:=by simp
     rw [el] at ho hv
     have hbv:wb (.slice (some ⟨g,0,none⟩) I.length ci)≠some b:=fun e=>(h9 b e).2 rfl
     have hb4:=(hgr.block b (Z0c HB3.out) (fun e=>hbv e.symm)).trans HB3.out
     obtain ⟨q0,q1,q2⟩:=Z0X hb4
     have hf4:=Z0h hb4 1
     have HO:=hid ho
     have HG:=hid hgr
     have HV:=hid hv
     clear ho hgr hv hb4 hbv))
 all_goals go_wp2_with (fail)
 all_goals
  refine bodyPost_ret (results_none rfl _ _ _) rfl ?_
  refine ⟨rfl,Z63 H1.out h2 H3.out h4 H5.out h6 h7 h8 h9 h10 h11 HL.out (fun o' ho=>by rw [H0.out] at ho;injection ho with ho;rw [←ho];exact HNE.out) Y1.out O1.out Y2.out O2.out y3 HO.out HG.out ?_ (by simp)⟩
  rcases HV.out with ⟨h,h'⟩|h|h
  ·exact .inr (.inr ⟨h,h'⟩)
  ·exact .inl h
  ·exact .inr (.inl h)
def addS (x:OpS) (l:List Int) (A:Option Addr) (c:Nat):OpS:={ x with o:={ x.o with r:=x.o.r++l },Ar:=A,cr:=c }
theorem Y6A {w:World} {base g n c:Nat} {I:List OpS} (h:OwOs w base (.slice (some ⟨g,0,none⟩) n c) I) (hpos:0<I.length):wb (.slice (some ⟨g,0,none⟩) n c)=some g:=by
 obtain ⟨q,hq⟩:∃ q,c=q+1:=⟨c-1,by have:=h.cap;omega⟩
 rw [hq];rfl
theorem Y0T {α:Type} {I:List α} {x y:α} (h:I=I.dropLast++[x]):I.set (I.length-1) y=I.dropLast++[y]:=by
 have hl:I.length=I.dropLast.length+1:=by conv=>lhs;rw [h]
                                          simp
 conv=>lhs;rw [h]
 rw [List.set_append_right _ _ (by simp)]
 simp
theorem Z9O {w w4:World} {F:Nat→Prop} {b g ci:Nat} {m:Mk} {vd:Value} {D I:List OpS} {x:OpS} {l:List Int} {s:List At} {A':Option Addr} {c' nl:Nat}
 (h1:w.heap[b]? = some (.cells #[vd,.slice (some ⟨g,0,none⟩) I.length ci,.int .i64 m.gone] 189 (0,0))) (h2:OwOs w 0 vd D) (h3:OwOs w 0 (.slice (some ⟨g,0,none⟩) I.length ci) I) (h4:osOf D=m.done) (h5:osOf I=m.ins)
 (h6:∀ k,F k→k<w.heap.size) (h7:F b) (h8:∀ k,wb vd=some k→F k∧k≠b∧wb (.slice (some ⟨g,0,none⟩) I.length ci)≠some k) (h9:∀ k,wb (.slice (some ⟨g,0,none⟩) I.length ci)=some k→F k∧k≠b) (h10:∀ x∈D,PartF w F x) (h11:InsF w F b vd (.slice (some ⟨g,0,none⟩) I.length ci) I)
 (hl:l≠[]) (hx:I.getLast? = some x) (hI:I=I.dropLast++[x]) (hs:x.o.s=s)
 (hnl:nl=(x.o.r++l).length)
 (ho:Z3k w4 0 (.slice A' nl c') (x.o.r++l)) (hgr:w.grownBy w4 (wb (.slice x.Ar x.o.r.length x.cr)))
 (hv:(.slice A' nl c'=Value.slice x.Ar x.o.r.length x.cr∧w4=w)∨wb (.slice A' nl c')=wb (.slice x.Ar x.o.r.length x.cr)∨wb (.slice A' nl c')=some w.heap.size) :
 ∃ F',Mkr (w4.setCell ⟨g,(I.length-1)*5+2,none⟩ (.slice A' nl c')) F' b (Z0J m l s)∧Grow w F (w4.setCell ⟨g,(I.length-1)*5+2,none⟩ (.slice A' nl c')) F':=by
 subst hnl
 have hpos:0<I.length:=by rw [hI];simp
 have hL:=h11.2 x hx
 have hgw:wb (.slice (some ⟨g,0,none⟩) I.length ci)=some g:=by
  obtain ⟨q,hq⟩:∃ q,ci=q+1:=⟨ci-1,by have:=h3.cap;omega⟩
  rw [hq];rfl
 have hgF:=h9 g hgw
 have hglt:=(h3.wb_lt g hgw).2
 have hblt:=Z0c h1
 have hwbx:∀ k,wb (.slice x.Ar x.o.r.length x.cr)=some k→F k∧k≠b∧wb vd≠some k∧k≠g:=fun k hk=>by
  obtain ⟨q1,q2,q3,q4⟩:=hL.2.1 k hk
  exact ⟨q1,q2,q3,fun e=>q4 (by rw [e];exact hgw)⟩
 have hwb':∀ k,wb (.slice A' (x.o.r++l).length c')=some k→wb (.slice x.Ar x.o.r.length x.cr)=some k∨k=w.heap.size:=fun k hk=>by
  rcases hv with ⟨h,_⟩|h|h
  ·rw [h] at hk;exact .inl hk
  ·rw [h] at hk;exact .inl hk
  ·rw [h] at hk;injection hk with hk;exact .inr hk.symm
 have hne:∀ k,wb (.slice A' (x.o.r++l).length c')=some k→k≠b∧wb vd≠some k∧k≠g:=fun k hk=>by
  rcases hwb' k hk with h|h
  ·exact (hwbx k h).2
  ·subst h
   exact ⟨by omega,fun e=>by have:=(h2.wb_lt _ e).2;omega,by omega⟩
 have G1:∀ j,j<w.heap.size→wb (.slice x.Ar x.o.r.length x.cr)≠some j→w4.heap[j]? = w.heap[j]? := fun j hj hn=>hgr.block j hj (fun e=>hn e.symm)
 let F':Nat→Prop:=fun k=>k=b∨wb vd=some k∨k=g∨wb (.slice A' (x.o.r++l).length c')=some k
 have hF':∀ k,F' k→F k∨w.heap.size≤k:=fun k hk=>by
  rcases hk with rfl|hk|rfl|hk
  ·exact .inl h7
  ·exact .inl (h8 k hk).1
  ·exact .inl hgF.1
  ·rcases hwb' k hk with h|h
   ·exact .inl (hwbx k h).1
   ·exact .inr (by omega)
 have gr:Grow w F w4 F':=⟨hgr.os,hgr.tape,hgr.output,hgr.size,fun j hj hn=>G1 j hj (fun e=>hn (hwbx j e).1),hF'⟩
 have gs:=Z0t (w:=w4) g ((I.length-1)*5+2) (.slice A' (x.o.r++l).length c') (show F' g from .inr (.inr (.inl rfl))) 0
 have g2:=gr.trans gs
 have hblk:∀ j,j≠g→(w4.setCell ⟨g,(I.length-1)*5+2,none⟩ (.slice A' (x.o.r++l).length c')).heap[j]? = w4.heap[j]? := fun j hj=>Below.heap_setCell w4 _ _ j (fun e=>hj e)
 have hset:OwOs (w4.setCell ⟨g,(I.length-1)*5+2,none⟩ (.slice A' (x.o.r++l).length c')) 0 (.slice (some ⟨g,0,none⟩) I.length ci) (I.dropLast++[addS x l A' c']):=by
  have h3':OwOs w4 0 (.slice (some ⟨g,0,none⟩) I.length ci) I:=h3.keep fun k hk=>by
   rw [hgw] at hk;injection hk with hk;subst hk
   exact G1 g hglt (fun e=>(hwbx g e).2.2.2 rfl)
  have:=Ow.setEl OpS.enc_len h3' (i:=I.length-1) (j:=2) (u:=.slice A' (x.o.r++l).length c') (a':=addS x l A' c') (by omega) (by omega) (by
   have e:I[I.length-1]'(by omega)=x:=by
    rw [List.getLast?_eq_getElem?] at hx
    rw [List.getElem?_eq_getElem (by omega)] at hx
    exact Option.some.inj hx
   rw [e]
   rfl)
  rw [Y0T hI] at this
  exact this
 have hbb:(w4.setCell ⟨g,(I.length-1)*5+2,none⟩ (.slice A' (x.o.r++l).length c')).heap[b]? = some (.cells #[vd,.slice (some ⟨g,0,none⟩) I.length ci,.int .i64 m.gone] 189 (0,0)):=
  (hblk b (fun e=>hgF.2 e.symm)).trans ((G1 b hblt (fun e=>(hwbx b e).2.1 rfl)).trans h1)
 refine ⟨F',⟨vd,.slice (some ⟨g,0,none⟩) I.length ci,D,I.dropLast++[addS x l A' c'],?_,?_,hset,?_,?_,?_,.inl rfl,?_,?_,fun y hy=>(h10 y hy).grow g2,?_,?_⟩,g2⟩
 ·unfold Z0J;rw [if_neg hl];exact hbb
 ·exact h2.keep fun k hk=>by
   obtain ⟨q1,q2,q3⟩:=h8 k hk
   exact (hblk k (fun e=>q3 (by rw [e];exact hgw))).trans (G1 k (h2.wb_lt k hk).2 (fun e=>(hwbx k e).2.2.1 hk))
 ·unfold Z0J;rw [if_neg hl];exact h4
 ·unfold Z0J addI
  rw [if_neg hl]
  have hg:m.ins.getLast? = some x.o:=by rw [←h5,hI];simp [osOf]
  simp only
  rw [hg]
  simp only
  rw [if_pos hs,←h5]
  conv=>rhs;rw [hI]
  simp [osOf,addS]
 ·intro k hk
  rcases hk with rfl|hk|rfl|hk
  ·exact Nat.lt_of_lt_of_le hblt g2.size
  ·exact Nat.lt_of_lt_of_le (h2.wb_lt k hk).2 g2.size
  ·exact Nat.lt_of_lt_of_le hglt g2.size
  ·have:=(ho.wb_lt k hk).2;exact Nat.lt_of_lt_of_le this gs.size
 ·intro k hk
  exact ⟨.inr (.inl hk),(h8 k hk).2.1,(h8 k hk).2.2⟩
 ·intro k hk
  rw [hgw] at hk;injection hk with hk;subst hk
  exact ⟨.inr (.inr (.inl rfl)),hgF.2⟩
 ·intro y hy
  rw [List.dropLast_concat] at hy
  exact (h11.1 y hy).grow g2
 ·intro y hy
  simp at hy
  subst hy
  refine ⟨ho.keep fun k hk=>hblk k (hne k hk).2.2,fun k hk=>⟨.inr (.inr (.inr hk)),(hne k hk).1,(hne k hk).2.1,fun e=>?_⟩,⟨hL.2.2.1.1.grow g2 hL.2.2.1.2,hL.2.2.1.2.grow hL.2.2.1.1 g2⟩,⟨hL.2.2.2.1.grow g2 hL.2.2.2.2,hL.2.2.2.2.grow hL.2.2.2.1 g2⟩⟩
  rw [hgw] at e;injection e with e
  exact (hne k hk).2.2 e.symm
theorem Y5e (b:Nat) (A A2:Option Addr) (n c n2 c2:Nat) (l:List Int) (s:List At) (w:World) (F:Nat→Prop) (m:Mk) (h:Mkr w F b m)
 (hn:n=l.length) (hn2:n2=s.length) (r1:Z11 w w.heap.size A l) (r2:RdAt w w.heap.size A2 s) (hb:n≤10000000) (hb2:n2≤10000000) (hl:l≠[]) (o:Opd) (h0:m.ins.getLast? = some o) (hne:o.s=s)
 (hmb:m.ins.length≤10000000) (hob:o.s.length≤10000000) (hrb:o.r.length≤100000000) :
 Calls Tryz.prog 64 #[.pointer (some ⟨b,0,none⟩),.slice A n c,.slice A2 n2 c2] w (Z5m (Z0J m l s) w F b):=by
 obtain ⟨vd,vi,D,I,h1,h2,h3,h4,h5,h6,h7,h8,h9,h10,h11⟩:=h
 obtain ⟨Ai,ci,rfl,hci,hcm⟩:=h3.form
 obtain ⟨g,x,hN0,hAi,hx,hxo,hI,⟨cur,hg⟩,hcx⟩:=Z7M h3 (by rw [h5];exact h0)
 subst hAi
 have hml:I.length≤10000000:=by rw [←h5] at hmb;simpa [osOf] using hmb
 have hnp:n≠0:=by rw [hn];intro e;exact hl (List.eq_nil_of_length_eq_zero e)
 have hn0:((n:Int)==0)=false:=beq_eq_false_iff_ne.2 (by omega)
 have N:=hid hn
 have N2:=hid hn2
 have H1:=hid h1
 have H3:=hid h3
 have hlt:=Z0c h1
 obtain ⟨c0,c1,c2'⟩:=Z0X h1
 have hf:=Z0h h1 1
 have HL:=hid hl
 have H5:=hid h5
 have H0:=hid h0
 have HNE:=hid hne
 have hpos:0<n:=by omega
 have hL:=h11.2 x hx
 obtain ⟨⟨k,nn,r,sx,p⟩,Ar,cr,As,cs,Ap,cp⟩:=x
 obtain ⟨z0,z1,z2,z3,z4⟩:=Z0r hcx
 have hs:o.s=sx:=by rw [←hxo]
 have RS:=hid hL.2.2.1.1
 have SL:=hid (show sx.length≤10000000 by rw [←hs];exact hob)
 have hfn:decide (sx=s)=true:=by rw [←hs];exact decide_eq_true hne
 have hs':=hid (show (⟨⟨k,nn,r,sx,p⟩,Ar,cr,As,cs,Ap,cp⟩:OpS).o.s=s by rw [hxo];exact hne)
 have RL:=hid (show r.length≤100000000 by rw [←hxo] at hrb;exact hrb)
 have LR:=hid hL.1
 have hbr:=hid (fun e=>(hL.2.1 b e).2.1 rfl:wb (.slice Ar r.length cr)≠some b)
 have hgr':=hid (fun e=>(hL.2.1 g e).2.2.2 (Y6A h3 (by omega)):wb (.slice Ar r.length cr)≠some g)
 have hfg:=Z0h hg ((I.length-1)*5+2)
 have HGl:=hid hg
 have HX:=hid hx
 have HI:=hid hI
 have e1:(1:Int)≤(I.length:Int):=by omega
 have e2:(I.length:Int)-1<(I.length:Int):=by omega
 clear hn hn2 h1 h3 h5 h0 hl hnp hL hx hI hne hcx
 go_enter Tryz.func64,Tryz.ntmps64
 go_wp2_with (go_at_call 73;refine (Z1G As A2 sx.length n2 cs c2 sx s _ rfl N2.out RS.out r2 (by have:=SL.out;omega) (by omega)).mono ?_;rintro e w1 ⟨rfl,q,rfl⟩)
 have YQ:Hid (Below w.heap.size w (w.drewN q).drew):=hid (Z0U (Z0m w q))
 go_region_law (first
  | (refine Y5b (m:=l) rfl (.tmp 46) (.tmp 47) (by rfl) (by rfl) (LR.out.below YQ.out (Nat.le_refl _)) w.heap.size A c n (by rfl) N.out (r1.below YQ.out (Nat.le_refl _)) (by have:=RL.out;have:=N.out;omega) (Nat.zero_le _) ?_
     intro vr w4 ho hgr hv
     obtain ⟨A',c',hv',_,_⟩:=ho.form
     subst hv'
     generalize hnl:(r++l).length=nl at ho hv
     have hb4:=(hgr.block b hlt (fun e=>hbr.out e.symm)).trans (show (w.drewN q).drew.heap[b]? = _ from H1.out)
     obtain ⟨q0,q1,q2⟩:=Z0X hb4
     have hg4:=(hgr.block g (Z0c HGl.out) (fun e=>hgr'.out e.symm)).trans (show (w.drewN q).drew.heap[g]? = _ from HGl.out)
     have hf4:=Z0h hg4 ((I.length-1)*5+2)
     have z2':w4.cell? { block:=g,off:=(I.length-1)*5+2 }=some (.slice Ar r.length cr):=by
      rw [←z2];simp [World.cell?,hg4,HGl.out]
     have HO:=hid ho
     have HG:=hid hgr
     have HV:=hid hv
     have HNL:=hid hnl
     clear ho hgr hv hb4 hg4 hnl))
 all_goals go_wp2_with (fail)
 all_goals
  refine bodyPost_ret (results_none rfl _ _ _) rfl ?_
  obtain ⟨F',k1,k2⟩:=Z9O (w:=(w.drewN q).drew) H1.out h2 H3.out h4 H5.out h6 h7 h8 h9 h10 h11 HL.out HX.out HI.out hs'.out HNL.out.symm HO.out HG.out HV.out
  exact ⟨rfl,F',k1,(Grow.of YQ.out).trans k2⟩
theorem Z8A (b:Nat) (A A2:Option Addr) (n c n2 c2:Nat) (l:List Int) (s:List At) (w:World) (F:Nat→Prop) (m:Mk) (h:Mkr w F b m)
 (hn:n=l.length) (hn2:n2=s.length) (r1:Z11 w w.heap.size A l) (r2:RdAt w w.heap.size A2 s) (hb:n≤10000000) (hb2:n2≤10000000)
 (hmb:m.ins.length≤10000000) (hob:∀ o∈m.ins,o.s.length≤10000000∧o.r.length≤100000000) :
 Calls Tryz.prog 64 #[.pointer (some ⟨b,0,none⟩),.slice A n c,.slice A2 n2 c2] w (Z5m (Z0J m l s) w F b):=by
 by_cases hl:l=[]
 ·subst hl
  simp at hn
  subst hn
  exact Y7d b A A2 c n2 c2 w F m h s
 ·cases h0:m.ins.getLast? with
  | none=>exact Y3k b A A2 n c n2 c2 l s w F m h hn hn2 r1 r2 hb hb2 hl (by simpa using h0)
  | some o=>
    have hm:=hob o (List.mem_of_getLast? h0)
    by_cases hs:o.s=s
    ·exact Y5e b A A2 n c n2 c2 l s w F m h hn hn2 r1 r2 hb hb2 hl o h0 hs hmb hm.1 hm.2
    ·exact Y5d b A A2 n c n2 c2 l s w F m h hn hn2 r1 r2 hb hb2 hl o h0 hs hmb hm.1
def FlatM (w:World) (F:Nat→Prop) (b:Nat) (vd:Value) (L:List OpS):Prop:=
 w.heap[b]? = some (.cells #[vd,.slice none 0 0,.int .i64 0] 189 (0,0))∧OwOs w 0 vd L ∧
  (∀ k,F k→k<w.heap.size)∧F b∧(∀ k,wb vd=some k→F k∧k≠b)∧∀ x∈L,PartF w F x
theorem FlatM.mkr {w:World} {F:Nat→Prop} {b:Nat} {vd:Value} {L:List OpS} (h:FlatM w F b vd L):Mkr w F b ⟨osOf L,[],0⟩:=by
 obtain ⟨h1,h2,h3,h4,h5,h6⟩:=h
 exact ⟨vd,.slice none 0 0,L,[],h1,h2,Ow.nil _ _,rfl,rfl,h3,h4,fun k hk=>⟨(h5 k hk).1,(h5 k hk).2,fun e=>(by cases e)⟩,fun k hk=>(by cases hk),h6,fun x hx=>(by cases hx),fun x hx=>(by cases hx)⟩
theorem FlatM.below {w w':World} {F:Nat→Prop} {b:Nat} {vd:Value} {L:List OpS} (h:FlatM w F b vd L) (y:Below w.heap.size w w'):FlatM w' F b vd L:=by
 obtain ⟨h1,h2,h3,h4,h5,h6⟩:=h
 exact ⟨(y.block b (Z0c h1)).trans h1,h2.below y (Nat.le_refl _),fun k hk=>Nat.lt_of_lt_of_le (h3 k hk) y.size,h4,h5,fun x hx=>(h6 x hx).grow (Grow.of y)⟩
theorem Y3l {w:World} {b:Nat} {c0 c1 c2:Value} {t:TypeId} (h:w.heap[b]? = some (.cells #[c0,c1,c2] t (0,0))) (u0 u1 u2:Value) :
 (((w.setCell ⟨b,0,none⟩ u0).setCell ⟨b,1,none⟩ u1).setCell ⟨b,2,none⟩ u2).heap[b]? = some (.cells #[u0,u1,u2] t (0,0)):=
 Z0d (Z0d (Z0d h u0) u1) u2
theorem Z5u {w w1 w4:World} {F:Nat→Prop} {b:Nat} {m:Mk} {vd vi:Value} {D I:List OpS} {n' c':Nat} {A':Option Addr}
 (h1:w.heap[b]? = some (.cells #[vd,vi,.int .i64 m.gone] 189 (0,0))) (h2:OwOs w 0 vd D) (h3:OwOs w 0 vi I) (h4:osOf D=m.done) (h5:osOf I=m.ins)
 (h6:∀ k,F k→k<w.heap.size) (h7:F b) (h8:∀ k,wb vd=some k→F k∧k≠b∧wb vi≠some k) (h9:∀ k,wb vi=some k→F k∧k≠b) (h10:∀ x∈D,PartF w F x) (h11:InsF w F b vd vi I)
 (y1:Below w.heap.size w w1)
 (ho:OwOs w4 0 (.slice A' n' c') (D++gapS I m.gone)) (hgr:w1.grownBy w4 (wb vd)) (hv:(Value.slice A' n' c'=vd∧w4=w1)∨wb (.slice A' n' c')=wb vd∨wb (.slice A' n' c')=some w1.heap.size) :
 ∃ F',FlatM (((w4.setCell ⟨b,0,none⟩ (.slice A' n' c')).setCell ⟨b,1,none⟩ (.slice none 0 0)).setCell ⟨b,2,none⟩ (.int .i64 0)) F' b (.slice A' n' c') (D++gapS I m.gone) ∧
   Grow w F (((w4.setCell ⟨b,0,none⟩ (.slice A' n' c')).setCell ⟨b,1,none⟩ (.slice none 0 0)).setCell ⟨b,2,none⟩ (.int .i64 0)) F':=by
 have hb:=Z0c h1
 have hbvd:wb vd≠some b:=fun e=>(h8 b e).2.1 rfl
 have G1:∀ j,j<w.heap.size→wb vd≠some j→w4.heap[j]? = w.heap[j]? := fun j hj hn=>(hgr.block j (Nat.lt_of_lt_of_le hj y1.size) (fun e=>hn e.symm)).trans (y1.block j hj)
 have hwb':∀ k,wb (.slice A' n' c')=some k→wb vd=some k∨w.heap.size≤k:=fun k hk=>by
  rcases hv with ⟨h,_⟩|h|h
  ·rw [h] at hk;exact .inl hk
  ·rw [h] at hk;exact .inl hk
  ·rw [h] at hk;injection hk with hk;have:=y1.size;exact .inr (by omega)
 let F':Nat→Prop:=fun k=>k=b∨wb (.slice A' n' c')=some k
 have hF':∀ k,F' k→F k∨w.heap.size≤k:=fun k hk=>by
  rcases hk with rfl|hk
  ·exact .inl h7
  ·rcases hwb' k hk with h|h
   ·exact .inl (h8 k h).1
   ·exact .inr h
 have gr:Grow w F w4 F':=⟨hgr.os.trans y1.os,hgr.tape.trans y1.tape,hgr.output.trans y1.output,Nat.le_trans y1.size hgr.size,fun j hj hn=>G1 j hj (fun e=>hn (h8 j e).1),hF'⟩
 have s0:=Z0t (w:=w4) b 0 (.slice A' n' c') (show F' b from .inl rfl) 0
 have s1:=Z0t (w:=w4.setCell ⟨b,0,none⟩ (.slice A' n' c')) b 1 (.slice none 0 0) (show F' b from .inl rfl) 0
 have s2:=Z0t (w:=(w4.setCell ⟨b,0,none⟩ (.slice A' n' c')).setCell ⟨b,1,none⟩ (.slice none 0 0)) b 2 (.int .i64 0) (show F' b from .inl rfl) 0
 have g2:=gr.trans (s0.trans (s1.trans s2))
 have hne:∀ k,wb (.slice A' n' c')=some k→k≠b:=fun k hk e=>by
  subst e
  rcases hwb' k hk with h|h
  ·exact hbvd h
  ·omega
 refine ⟨F',⟨Y3l ((G1 b hb hbvd).trans h1) _ _ _,Z2w (Z2w (Z2w ho hne _) hne _) hne _,?_,.inl rfl,fun k hk=>⟨.inr hk,hne k hk⟩,fun x hx=>?_⟩,g2⟩
 ·intro k hk
  rcases hk with rfl|hk
  ·exact Nat.lt_of_lt_of_le hb g2.size
  ·have:=(ho.wb_lt k hk).2;exact Nat.lt_of_lt_of_le this (s0.trans (s1.trans s2)).size
 ·have hlast:∀ x,LastF w F b vd vi x→PartF w4 F' x:=fun x hL=>hL.part gr fun k hk=>by
   obtain ⟨q1,q2,q3,q4⟩:=hL.2.1 k hk
   have hklt:=(hL.1.wb_lt k hk).2
   refine ⟨G1 k hklt q3,fun hf=>?_⟩
   rcases hf with h|h
   ·exact q2 h
   ·rcases hwb' k h with h|h
    ·exact q3 h
    ·omega
  have h4x:PartF w4 F' x:=by
   rcases List.mem_append.1 hx with hx|hx
   ·exact (h10 x hx).grow gr
   ·unfold gapS at hx
    rcases List.mem_append.1 hx with hx|hx
    ·rcases List.eq_nil_or_concat I with h0 | ⟨t,z,h0⟩
     ·rw [h0] at hx;cases hx
     ·rw [List.concat_eq_append] at h0
      have hx':=hx
      rw [h0] at hx'
      rcases List.mem_append.1 hx' with hx'|hx'
      ·exact (h11.1 x (by rw [h0];simpa using hx')).grow gr
      ·simp at hx';subst hx'
       exact hlast x (h11.2 x (by rw [h0];simp))
    ·split at hx
     ·simp at hx;subst hx
      exact ⟨⟨Rd.nil,OffF.zero⟩,⟨Rd.nil,OffF.zero⟩,⟨Rd.nil,OffF.zero⟩⟩
     ·cases hx
  exact h4x.grow (s0.trans (s1.trans s2))
def retS (n:Int) (p:List Ch) (A:Option Addr) (c:Nat):OpS:=⟨opR n p,none,0,none,0,A,c⟩
theorem Z9P {w w1 w3 w4:World} {F:Nat→Prop} {b:Nat} {vd:Value} {L:List OpS} {n:Int} {p:List Ch} {A1 A':Option Addr} {c1 n' c':Nat} (h:FlatM w F b vd L)
 (y1:Below w.heap.size w w1) (o1:OwCh w1 w.heap.size (.slice A1 p.length c1) p) (y3:Below w1.heap.size w1 w3)
 (ho:OwOs w4 0 (.slice A' n' c') (L++[retS n p A1 c1])) (hgr:w3.grownBy w4 (wb vd)) (hv:(Value.slice A' n' c'=vd∧w4=w3)∨wb (.slice A' n' c')=wb vd∨wb (.slice A' n' c')=some w3.heap.size) :
 ∃ F',FlatM (w4.setCell ⟨b,0,none⟩ (.slice A' n' c')) F' b (.slice A' n' c') (L++[retS n p A1 c1])∧Grow w F (w4.setCell ⟨b,0,none⟩ (.slice A' n' c')) F':=by
 obtain ⟨h1,h2,h6,h7,h8,h10⟩:=h
 have y13:=Z0a y1 y3
 have hb:=Z0c h1
 have hbvd:wb vd≠some b:=fun e=>(h8 b e).2 rfl
 have G1:∀ j,j<w.heap.size→wb vd≠some j→w4.heap[j]? = w.heap[j]? := fun j hj hn=>(hgr.block j (Nat.lt_of_lt_of_le hj y13.size) (fun e=>hn e.symm)).trans (y13.block j hj)
 have sz3:=y3.size
 have sz1:=y1.size
 have hwb':∀ k,wb (.slice A' n' c')=some k→wb vd=some k∨w3.heap.size≤k:=fun k hk=>by
  rcases hv with ⟨h,_⟩|h|h
  ·rw [h] at hk;exact .inl hk
  ·rw [h] at hk;exact .inl hk
  ·rw [h] at hk;injection hk with hk;exact .inr (by omega)
 let F':Nat→Prop:=fun k=>k=b∨wb (.slice A' n' c')=some k
 have hF':∀ k,F' k→F k∨w.heap.size≤k:=fun k hk=>by
  rcases hk with rfl|hk
  ·exact .inl h7
  ·rcases hwb' k hk with h|h
   ·exact .inl (h8 k h).1
   ·exact .inr (by omega)
 have gr:Grow w F w4 F':=⟨hgr.os.trans y13.os,hgr.tape.trans y13.tape,hgr.output.trans y13.output,Nat.le_trans y13.size hgr.size,fun j hj hn=>G1 j hj (fun e=>hn (h8 j e).1),hF'⟩
 have s0:=Z0t (w:=w4) b 0 (.slice A' n' c') (show F' b from .inl rfl) 0
 have hne:∀ k,wb (.slice A' n' c')=some k→k≠b:=fun k hk e=>by
  subst e
  rcases hwb' k hk with h|h
  ·exact hbvd h
  ·omega
 refine ⟨F',⟨Z0d ((G1 b hb hbvd).trans h1) _,Z2w ho hne _,?_,.inl rfl,fun k hk=>⟨.inr hk,hne k hk⟩,fun x hx=>?_⟩,gr.trans s0⟩
 ·intro k hk
  rcases hk with rfl|hk
  ·exact Nat.lt_of_lt_of_le hb (gr.trans s0).size
  ·have:=(ho.wb_lt k hk).2;exact Nat.lt_of_lt_of_le this s0.size
 ·rcases List.mem_append.1 hx with hx|hx
  ·exact (h10 x hx).grow (gr.trans s0)
  ·simp at hx;subst hx
   have k1:OwCh w4 0 (.slice A1 p.length c1) p:=by
    refine ((o1.below y3 (Nat.le_refl _)).base_le (B:=0) (Nat.zero_le _)).keep fun k hk=>?_
    have:=o1.wb_lt k hk
    exact hgr.block k (by omega) (fun e=>by have:=(h2.wb_lt k e.symm).2;omega)
   have k2:PartF w4 F' (retS n p A1 c1):=⟨⟨Rd.nil,OffF.zero⟩,⟨Rd.nil,OffF.zero⟩,⟨k1.rd Ch.enc_len,k1.offF Ch.enc_len rfl fun k hk hf=>by
    have:=o1.wb_lt k hk
    rcases hf with h|h
    ·omega
    ·rcases hwb' k h with h|h
     ·have:=(h2.wb_lt k h).2;omega
     ·omega⟩⟩
   exact k2.grow s0
theorem Y7e {w:World} {F:Nat→Prop} {b g n c:Nat} {L:List OpS} {x:OpS} (h:FlatM w F b (.slice (some ⟨g,0,none⟩) n c) L) (hx:L.getLast? = some x) (hL:L=L.dropLast++[x]) (v:Int) :
 FlatM (w.setCell ⟨g,(L.length-1)*5+1,none⟩ (.int .i64 v)) F b (.slice (some ⟨g,0,none⟩) n c) (L.dropLast++[{ x with o:={ x.o with n:=v } }]) ∧
  Grow w F (w.setCell ⟨g,(L.length-1)*5+1,none⟩ (.int .i64 v)) F:=by
 obtain ⟨h1,h2,h6,h7,h8,h10⟩:=h
 have hpos:0<L.length:=by rw [hL];simp
 have hgF:=h8 g (Y6A h2 hpos)
 have gs:=Z0t (w:=w) g ((L.length-1)*5+1) (.int .i64 v) hgF.1 0
 have hset:OwOs (w.setCell ⟨g,(L.length-1)*5+1,none⟩ (.int .i64 v)) 0 (.slice (some ⟨g,0,none⟩) n c) (L.dropLast++[{ x with o:={ x.o with n:=v } }]):=by
  have:=Ow.setEl OpS.enc_len h2 (i:=L.length-1) (j:=1) (u:=.int .i64 v) (a':={ x with o:={ x.o with n:=v } }) (by omega) (by omega) (by
   have e:L[L.length-1]'(by omega)=x:=by
    rw [List.getLast?_eq_getElem?] at hx
    rw [List.getElem?_eq_getElem (by omega)] at hx
    exact Option.some.inj hx
   rw [e]
   rfl)
  rw [Y0T hL] at this
  exact this
 refine ⟨⟨(Below.heap_setCell w _ _ b (fun e=>hgF.2 e.symm)).trans h1,hset,fun k hk=>Nat.lt_of_lt_of_le (h6 k hk) gs.size,h7,h8,fun y hy=>?_⟩,gs⟩
 rcases List.mem_append.1 hy with hy|hy
 ·exact (h10 y (by rw [hL];exact List.mem_append.2 (.inl hy))).grow gs
 ·simp at hy;subst hy
  have:=(h10 x (by rw [hL];simp)).grow gs
  exact this
end Go.Proofs.YtnmedachaeanbaaGreatDoor
