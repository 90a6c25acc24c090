/- Merged texts. -/
import Derived.Test.YtnmedachaeanbaaGreatDoorB27
namespace Go.Proofs.YtnmedachaeanbaaGreatDoor
set_option maxRecDepth 100000
set_option maxHeartbeats 1600000
open Go.RowKit
open Go.Lib (hid)
set_option linter.unusedVariables false
set_option linter.unusedSimpArgs false
theorem Y2i (s b1 b2:Nat) (l:List Ky) (b:Bool) (x1 x2 x3 x4:Int) (x6:Bool) (x5:ByteArray) (w:World) (hS:Sch w s l)
 (h1:w.heap[b1]? = some (.cells #[.pointer (some ⟨s,0,none⟩)] 29 (0,0))) (h2:w.heap[b2]? = some (.cells #[.bool b] 4 (0,0))) :
 Calls Tryz.prog 146 #[.agg #[.int .i64 x1,.bool x6,.int .u8 x2,.int .i64 x3,.int .u64 x4,.string x5],.pointer (some ⟨b1,0,none⟩),.pointer (some ⟨b2,0,none⟩)] w fun e w'=>e=.returned (.bool (!Z13 l b x1))∧Below w.heap.size w w':=by
 have y0:=Z0b w (.cells #[.int .i64 x1,.bool x6,.int .u8 x2,.int .i64 x3,.int .u64 x4,.string x5] 75)
 have c1:=Z2n ((y0.block b1 (Z0c h1)).trans h1)
 have g2:=(y0.block b2 (Z0c h2)).trans h2
 have HS:=hid (hS.ext y0)
 have G2:=hid g2
 clear g2 hS
 go_enter Tryz.func146,Tryz.ntmps146
 go_wp2_with (go_at_call 127;refine Hid.out ?_)
 refine hid ?_
 generalize hw0:w.alloc _=w0 at *
 clear hw0
 refine (Z4e s l x1 w0 HS.out).mono ?_
 rintro e w1 ⟨i,c,kd,d,g,q,ok,rfl,hk,hb,y1⟩
 have y2:=Z0b w1 (.cells #[.int .i64 i,.bool c,.int .u8 kd,.bool d,.bool g,.int .i64 q] 78)
 have g3:=(y1.block b2 (Z0c G2.out)).trans G2.out
 have c2:=Z2n ((y2.block b2 (Z0c g3)).trans g3)
 have yy:=Z0a y0 (Z0a y1 y2)
 have HB:=hid hb
 have HK:=hid hk
 clear g3 hk hb
 cases ok with
 | false=>
   have HE:Hid (Z13 l b x1=false):=hid (by
    have h:=HB.out
    unfold Z13
    cases hq:Z0O l x1 with
    | none=>rfl
    | some k=>rw [hq] at h;cases h)
   go_wp2_with (fail)
   go_ret
   exact ⟨Z0e (by rw [HE.out];rfl),yy⟩
 | true=>
   have HE:Hid (Z13 l b x1=(c==b)):=hid (by
    have h:=HB.out
    have h2:=HK.out
    unfold Z13
    cases hq:Z0O l x1 with
    | none=>rw [hq] at h;cases h
    | some k=>rw [hq] at h2;simp at h2;subst h2;rfl)
   go_wp2_with (fail)
   go_ret
   exact ⟨Z0e (by rw [HE.out]<;>(cases c<;>cases b<;>rfl)),yy⟩
theorem Y5K (s:Nat) (l:List Ky) (b:Bool) (A:Option Addr) (n c:Nat) (p:List Ch) (w:World) (hn:n=p.length) (h:RdCh w w.heap.size A p) (hb:n≤100000000) (hS:Sch w s l) :
 Calls Tryz.prog 67 #[.pointer (some ⟨s,0,none⟩),.slice A n c,.bool b] w (Y7a (Z5n l b p) w):=by
 have N:=hid hn
 have ya:=Z0b w (.cells #[.pointer (some ⟨s,0,none⟩)] 29)
 have yb:=Z0b (w.alloc (.cells #[.pointer (some ⟨s,0,none⟩)] 29)) (.cells #[.bool b] 4)
 have g1:=heap_alloc_new w (.cells #[.pointer (some ⟨s,0,none⟩)] 29)
 have g2:=heap_alloc_new (w.alloc (.cells #[.pointer (some ⟨s,0,none⟩)] 29)) (.cells #[.bool b] 4)
 have G1:=hid ((yb.block w.heap.size (by simp)).trans g1)
 rw [World.size_alloc] at g2
 have G2:=hid g2
 have y:=Z0a ya yb
 have hh:=h.ext y
 have HS:=hid (hS.ext y)
 clear hn g1 g2 ya yb h hS
 go_enter Tryz.func67,Tryz.ntmps67
 go_wp2_with (go_at_call 145;refine Hid.out ?_)
 refine hid ?_
 refine (Z56 A n c p _ N.out hh hb).mono ?_
 rintro e w1 ⟨A',c',rfl,hown,y1⟩
 have HOW:=hid hown
 have hsz2:((w.alloc (.cells #[.pointer (some ⟨s,0,none⟩)] 29)).alloc (.cells #[.bool b] 4)).heap.size=w.heap.size+2:=by simp
 have G1':=hid ((y1.block w.heap.size (by rw [hsz2];omega)).trans G1.out)
 have G2':=hid ((y1.block (w.heap.size+1) (by rw [hsz2];omega)).trans G2.out)
 have hb1:w.heap.size+2≤w1.heap.size:=by have:=y1.size;omega
 have HSZ:=hid hsz2
 clear hown hsz2
 go_wp2_with (go_at_call 144;refine Hid.out ?_)
 refine hid ?_
 refine (Z6N w.heap.size (w.heap.size+1) (fun c => !Z13 l b c.key) A' p.length c' _ p w1 HOW.out (by rw [HSZ.out];exact hb1) (by have:=N.out;omega) rfl ?cl).mono ?_
 case cl=>
  intro x1 x2 x3 x4 x6 x5 w' hb'
  refine Y2i s _ _ l b x1 x2 x3 x4 x6 x5 w' (HS.out.ext (y1.trans hb')) ?_ ?_
  ·exact (hb'.block _ (by rw [HSZ.out];omega)).trans G1'.out
  ·exact (hb'.block _ (by rw [HSZ.out];omega)).trans G2'.out
 rintro e w2 ⟨A2,c2,rfl,hown2,y2⟩
 have yy:Below w.heap.size w w2:=Z0a y (y1.trans y2)
 have hf:p.filter (fun x => !!Z13 l b x.key)=Z5n l b p:=by simp [Z5n]
 rw [hf] at hown2 ⊢
 have HO2:=hid (hown2.base_le (B:=w.heap.size) (by rw [HSZ.out];omega))
 clear hown2 hf
 go_wp2_with (fail)
 go_ret
 exact ⟨A2,c2,rfl,HO2.out,yy⟩
def PartC (w:World) (B:Nat) (v:Value) (x:ClS):Prop:=
 OwAt w B (.slice x.As x.c.s.length x.cs) x.c.s∧∀ k,wb (.slice x.As x.c.s.length x.cs)=some k→wb v≠some k
theorem PartC.below {w w':World} {B:Nat} {v:Value} {x:ClS} (h:PartC w B v x) (y:Below w.heap.size w w'):PartC w' B v x:=⟨h.1.below y (Nat.le_refl _),h.2⟩
theorem PartC.app {w w':World} {B:Nat} {v v':Value} {x:ClS} (h:PartC w B v x) (hg:w.grownBy w' (wb v)) (hv:v'=v∧w'=w∨wb v'=wb v∨wb v'=some w.heap.size):PartC w' B v' x:=by
 refine ⟨h.1.keep fun k hk=>hg.block k (h.1.wb_lt k hk).2 (fun e=>h.2 k hk e.symm),fun k hk=>?_⟩
 have hlt:=(h.1.wb_lt k hk).2
 rcases hv with ⟨rfl,_⟩|hv|hv
 ·exact h.2 k hk
 ·rw [hv];exact h.2 k hk
 ·rw [hv];intro e;injection e with e;omega
theorem PartC.set {w:World} {B g n c j:Nat} {u:Value} {x:ClS} (h:PartC w B (.slice (some ⟨g,0,none⟩) n (c+1)) x):PartC (w.setCell ⟨g,j,none⟩ u) B (.slice (some ⟨g,0,none⟩) n (c+1)) x:=
 ⟨h.1.setCell (p:=⟨g,j,none⟩) (fun e=>h.2 g e rfl) u,h.2⟩
def Y6F (o:List Cl) (w:World) (e:Ending) (w':World):Prop:=
 ∃ A c l,e=.returned (.slice A l.length c)∧Z0g l=o∧OwCs w' w.heap.size (.slice A l.length c) l∧(∀ x∈l,PartC w' w.heap.size (.slice A l.length c) x)∧Below w.heap.size w w'
theorem Z91 (A1 A2:Option Addr) (n1 n2 c1 c2:Nat) (l:List Int) (s:List At) (w:World) (hn1:n1=l.length) (hn2:n2=s.length) (h1:Z11 w w.heap.size A1 l) (h2:RdAt w w.heap.size A2 s) (b1:n1≤100000000) (b2:n2≤100000000) :
 Calls Tryz.prog 183 #[.slice A1 n1 c1,.slice A2 n2 c2] w (Y6F (l.map (fun r=>⟨r,s⟩)) w):=by
 have N1:=hid hn1
 have N2:=hid hn2
 have H1:=hid h1
 have H2:=hid h2
 clear hn1 hn2 h1 h2
 go_enter Tryz.func183,Tryz.ntmps183
 go_wp2_with (fail)
 go_loopg [5,10] n1 (fun g v iv wr => ∃ (i:Nat) (L:List ClS),i≤n1∧g=n1-i∧iv=.int .i64 (i:Int)∧Z0g L=(l.take i).map (fun r=>⟨r,s⟩)∧OwCs wr w.heap.size v L∧(∀ x∈L,PartC wr w.heap.size v x)∧Below w.heap.size w wr)
 case atStart=>exact ⟨0,[],by omega,rfl,rfl,rfl,Ow.nil _ _,fun x hx=>(by cases hx),Below.refl _ _⟩
 case round=>
  obtain ⟨i,L,hi,hg,rfl,hL,ho,hp,y⟩:=hrel
  have HG:=hid hg
  have HO:=hid ho
  have HP:=hid hp
  have HL:=hid hL
  have LN:Hid (L.length=i):=hid (by have:=congrArg List.length hL;rw [Z00] at this;simp at this;have:=N1.out;omega)
  clear hg ho hp hL
  by_cases hlt:i<n1
  ·have hl1:i<l.length:=by have:=N1.out;omega
   obtain ⟨ad,r,rfl,_,_,hx1,hc1⟩:=(H1.out.ext y).el hl1
   have E:=hid (show (l.take (i+1)).map (fun r=>(⟨r,s⟩:Cl))=(l.take i).map (fun r=>⟨r,s⟩)++[⟨r,s⟩] by rw [List.take_add_one,hx1];simp)
   have z0:wr.cell? (ad.add (i*1))=some (.int .i32 r):=by have:=hc1 0 _ rfl;rwa [Z0n] at this
   rw [Nat.mul_one] at z0
   have hw2:IntKind.i64.wrap ((i:Int)+1)=(i:Int)+1:=IntWalk.i64_in _ (by omega)
   clear hx1 hc1 hl1
   go_wp2_with (first
    | (go_at_call 139;refine (Z4j A2 n2 c2 s _ N2.out (H2.out.ext y) b2).mono ?_;rintro e w1 ⟨A3,k3,rfl,o3,y3⟩;have O3:=hid o3;have Y3:=hid y3;clear o3 y3)
    | (at_builtin;refine Y6z (m:=[⟨⟨r,s⟩,A3,k3⟩]) rfl (.tmp 14) (.tmp 19) rfl rfl (by exact (HO.out.below Y3.out (Nat.le_refl _)).alloc _) _ _ 1 1 rfl rfl (by exact Z8d (enc:=ClS.enc) (size:=2) _ _ ⟨⟨r,s⟩,A3,k3⟩ rfl (by simp)) (by have:=LN.out;simp only [List.length_singleton];omega) (by have:=y.size;have:=Y3.out.size;simp at *;omega) ?_;intro v' w' hown' hgr hv'))
   have yz:=Z0a y Y3.out
   have yw:=Z3i (yz.alloc yz.size _) (by have:=yz.size;simp at this ⊢;omega) ((HO.out.below Y3.out (Nat.le_refl _)).alloc _) (Nat.le_refl _) hgr
   have hP':∀ x∈L++[(⟨⟨r,s⟩,A3,k3⟩:ClS)],PartC w' w.heap.size v' x:=fun x hx=>by
    have ho0:=HO.out
    rcases List.mem_append.1 hx with hx|hx
    ·refine PartC.app ?_ hgr hv'
     exact ⟨((HP.out x hx).1.below Y3.out (Nat.le_refl _)).alloc _,(HP.out x hx).2⟩
    ·simp at hx;subst hx
     refine PartC.app ?_ hgr hv'
     refine ⟨(O3.out.base_le y.size).alloc _,fun k hk e=>?_⟩
     have h1:=(O3.out.wb_lt k hk).1
     have h2:=(ho0.wb_lt k e).2
     omega
   have E2:Z0g (L++[(⟨⟨r,s⟩,A3,k3⟩:ClS)])=(l.take (i+1)).map (fun r=>⟨r,s⟩):=by rw [E.out,←HL.out];unfold Z0g;simp
   go_wp2_with (fail)
   go_roundg (n1-(i+1))
   case measure=>have:=HG.out;omega
   case rel=>exact ⟨i+1,L++[⟨⟨r,s⟩,A3,k3⟩],by omega,rfl,by go_num,E2,hown',hP',yw⟩
  ·have hin:i=n1:=by omega
   subst hin
   have e:(l.take i)=l:=List.take_of_length_le (by have:=N1.out;omega)
   have hL:=HL.out
   rw [e] at hL
   obtain ⟨A',c',rfl,_,_⟩:=HO.out.form
   have hO:=HO.out
   have hP:=HP.out
   have HLL:=hid hL
   clear e hL
   go_wp2_with (fail)
   go_ret
   exact ⟨A',c',L,rfl,HLL.out,hO,hP,y⟩
theorem Z7X (A:Option Addr) (n c:Nat) (l:List ClS) (w:World) (hn:n=l.length) (h:RdCl w w.heap.size A l) (hb:n≤100000000) (hs:∀ x∈l,x.c.s.length≤100000000) :
 Calls Tryz.prog 184 #[.slice A n c] w (Y6F (Z0g l) w):=by
 have N:=hid hn
 have HS:=hid hs
 have HR:=hid h.1
 have HP:=hid h.2
 clear hn hs h
 go_enter Tryz.func184,Tryz.ntmps184
 go_wp2_with (go_at_call 260;refine Hid.out ?_)
 refine hid ?_
 refine (Z9M A n c l w N.out HR.out (by omega)).mono ?_
 rintro e w1 ⟨A1,k1,rfl,o1,y1⟩
 have O1:=hid o1
 have Y1:=hid y1
 have LB:=hid (show l.length≤100000000 by have:=N.out;omega)
 clear o1 y1
 go_wp2_with (fail)
 go_loopg [9] l.length (fun g iv wr => ∃ (m:Nat) (D:List ClS),m≤l.length∧g=l.length-m∧iv=.int .i64 (m:Int)∧D.length=m∧Z0g D=Z0g (l.take m) ∧
  OwCs wr w.heap.size (.slice A1 l.length k1) (D++l.drop m)∧(∀ x∈D,PartC wr w.heap.size (.slice A1 l.length k1) x)∧Below w.heap.size w wr)
 case atStart=>exact ⟨0,[],by omega,rfl,rfl,rfl,rfl,O1.out,fun x hx=>(by cases hx),Y1.out⟩
 case round=>
  obtain ⟨m,D,hm,hg,rfl,hD,hDo,ho,hDp,y⟩:=hrel
  have HG:=hid hg
  clear hg
  by_cases hlt:m<l.length
  ·obtain ⟨x,hxi⟩:∃ x,l[m]? = some x:=⟨l[m],by rw [List.getElem?_eq_getElem hlt]⟩
   have hdrop:l.drop m=x::l.drop (m+1):=by
    rw [List.drop_eq_getElem_cons hlt];rw [List.getElem?_eq_getElem hlt] at hxi;injection hxi with hxi;rw [hxi]
   have hxm:=List.mem_of_getElem? hxi
   rw [hdrop] at ho
   have hlen:(D++x::l.drop (m+1)).length=l.length:=by rw [List.length_append,hD,List.length_cons,List.length_drop];omega
   have hi:m<(D++x::l.drop (m+1)).length:=by omega
   obtain ⟨g,cur,hA,hq1,hBg,hgb,hq2,hq3,hq4,hq5⟩:=ho.row (by omega)
   have hk1:0<k1:=by omega
   clear hq1 hq2 hq3 hq4 hq5
   subst hA
   obtain ⟨ad,hA2,_,hcx⟩:=(ho.rd ClS.enc_len).at_ hi
   injection hA2 with hA2
   subst hA2
   rw [Z54] at hcx
   have hx:(D++x::l.drop (m+1))[m]=x:=by simp [List.getElem_append_right,hD]
   rw [hx] at hcx
   have p1:=hid ((HP.out x hxm).ext y)
   have hS:=hid (HS.out x hxm)
   obtain ⟨k2,rfl⟩:∃ k2,k1=k2+1:=⟨k1-1,by omega⟩
   have HDP:=hid hDp
   have hglt:=Z0c hgb
   have HT:=hid (show Z0g (D++[x])=Z0g (l.take (m+1)) by
    rw [List.take_add_one,hxi];unfold Z0g at hDo ⊢;rw [List.map_append,List.map_append,hDo];rfl)
   have HO:=hid ho
   have HGB:=hid hgb
   have HD:=hid hD
   obtain ⟨⟨r,s⟩,As,cs⟩:=x
   obtain ⟨z0,z1⟩:=Z1E hcx
   have hfr:∀ j,wr.frozen? ⟨g,j,none⟩=false:=fun j=>Z0h hgb j
   have e1:(m:Int)<(l.length:Int):=by omega
   have hw2:IntKind.i64.wrap ((m:Int)+1)=(m:Int)+1:=IntWalk.i64_in _ (by have:=LB.out;omega)
   clear hcx hx ho hDp hDo hxi hdrop hgb hD hlen hi hxm z0
   go_wp2_with (go_at_call 139;refine Hid.out ?_)
   refine hid ?_
   refine (Z4j As s.length cs s wr rfl p1.out hS.out).mono ?_
   rintro e w2 ⟨A2,c2,rfl,o2,y2⟩
   have O2:=hid o2
   have Y2:=hid y2
   have hgb2:=(y2.block g hglt).trans HGB.out
   have hf2:w2.frozen? ⟨g,m*2+1,none⟩=false:=Z0h hgb2 _
   have HC2:Hid (∃ cur',w2.heap[g]? = some (.cells cur' 41 (0,0))):=hid ⟨_,hgb2⟩
   have z1':w2.cell? ⟨g,m*2+1,none⟩=some (.slice As s.length cs):=(y2.cell (p:=⟨g,m*2+1,none⟩) hglt).trans z1
   clear o2 y2 hgb2
   go_wp2_with (fail)
   have ho2:=HO.out.below Y2.out (Nat.le_refl _)
   have hS3:=Ow.setEl ClS.enc_len ho2 (i:=m) (j:=1) (u:=.slice A2 s.length c2) (a':=⟨⟨r,s⟩,A2,c2⟩) (by simp;have:=HD.out;omega) (by omega) (by simp [List.getElem_append_right,HD.out,ClS.enc])
   rw [List.set_append_right _ _ (by have:=HD.out;omega),show m-D.length=0 by have:=HD.out;omega,List.set_cons_zero] at hS3
   have yz:=(Z0a y Y2.out).setCell (p:=⟨g,m*2+1,none⟩) hBg (.slice A2 s.length c2)
   have hP3:∀ x∈D++[(⟨⟨r,s⟩,A2,c2⟩:ClS)],PartC (w2.setCell ⟨g,m*2+1,none⟩ (.slice A2 s.length c2)) w.heap.size (.slice (some ⟨g,0,none⟩) l.length (k2+1)) x:=fun x hx=>by
    rcases List.mem_append.1 hx with hx|hx
    ·exact ((HDP.out x hx).below Y2.out).set
    ·simp at hx;subst hx
     refine PartC.set ⟨O2.out.base_le y.size,fun k hk e=>?_⟩
     have h1:=(O2.out.wb_lt k hk).1
     injection e with e
     have e:g=k:=e
     omega
   go_roundg (l.length-(m+1))
   case measure=>have:=HG.out;omega
   case rel=>exact ⟨m+1,D++[⟨⟨r,s⟩,A2,c2⟩],by omega,rfl,by go_num,by rw [List.length_append,HD.out];rfl,by rw [←HT.out];simp [Z0g],by rw [List.append_assoc];exact hS3,hP3,yz⟩
  ·have hml:m=l.length:=by omega
   subst hml
   have HO:=hid ho
   have HDP:=hid hDp
   have HDO:=hid hDo
   have HD:=hid hD
   clear ho hDp hDo hD
   go_wp2_with (fail)
   go_ret
   have hd:l.drop l.length=[]:=by simp
   have ho:=HO.out
   have hp:=HDP.out
   rw [hd,List.append_nil] at ho
   have hl:l.length=D.length:=HD.out.symm
   rw [hl] at ho hp ⊢
   exact ⟨A1,k1,D,rfl,by rw [HDO.out,List.take_length],ho,hp,y⟩
theorem Y6G {P:Un→Prop} (hd:P .del) {us:List Un} (h:∀ u∈us,P u):∀ u∈nf us,P u:=fun u hu=>by
 obtain ⟨k,hk⟩:=Z5y (Z1C us)
 refine Z8Q hd us [] 0 (by simp) h u ?_
 show u∈Z1C us
 rw [hk];exact List.mem_append_left _ hu
theorem Z7Y {x:List OpS} {m:Mk} {us:List Un} {K S:Nat} (hx:osOf x=Z1j m) (ht:Told m us) (hu:∀ u∈us,okUn u) (hB:MkB m K S) (hK:K≤100000000) (hS:S≤100000000):(∀ o∈x,okOp o.o)∧x.length≤K+1:=by
 obtain ⟨h1,h2⟩:=ht.ops
 rw [←hx] at h1 h2
 obtain ⟨b1,b2⟩:=hB.ops
 rw [←hx] at b1 b2
 have hn:=Y6G (P:=okUn) trivial hu
 rw [←h2] at hn
 refine ⟨fun o ho=>?_,by unfold osOf at b1;simpa using b1⟩
 have hom:o.o∈osOf x:=by unfold osOf;exact List.mem_map_of_mem ho
 obtain ⟨l1,l2,l3⟩:=b2 o.o hom
 have hop:=Z4R h1 o.o hom
 have hsub:∀ u∈Z0l o.o,okUn u:=fun u hu=>hn u (Z1t.2 ⟨o,ho,hu⟩)
 have nilr:okVr ([]:List At):=fun c hc=>by cases hc
 have nils:okVs ([]:List Ch):=fun c hc=>by cases hc
 refine ⟨?_,?_,by omega,by omega,by omega⟩
 ·rcases Z0H hop with hk|hk|hk
  ·obtain ⟨e,hr⟩:=Z10 hop hk
   cases hr':o.o.r with
   | nil=>exact absurd hr' hr
   | cons r rs=>exact hsub (.ins r o.o.s) (by unfold Z0l;rw [if_pos hk,hr'];simp)
  ·obtain ⟨e,hr⟩:=Z3e hop hk
   rw [e];exact nilr
  ·obtain ⟨e,hr⟩:=Z2t hop hk
   rw [e];exact nilr
 ·rcases Z0H hop with hk|hk|hk
  ·obtain ⟨e,hr⟩:=Z10 hop hk
   rw [e];exact nils
  ·obtain ⟨e,hr⟩:=Z3e hop hk
   rw [e];exact nils
  ·obtain ⟨e,hr⟩:=Z2t hop hk
   obtain ⟨k,hk2⟩:∃ k,o.o.n.toNat=k+1:=⟨o.o.n.toNat-1,by omega⟩
   exact hsub (.ret o.o.p) (by unfold Z0l;rw [if_neg (by rw [hk];decide),if_pos hk,hk2];simp [List.replicate_succ])
theorem Y3Y {w:World} {B:Nat} {A:Option Addr} {c:Nat} {x:List OpS} (ho:OwOs w B (.slice A x.length c) x) (hp:∀ z∈x,∃ g,PartN w B g z):RdOp w w.heap.size A x:=⟨ho.rd OpS.enc_len,fun z hz=>by
 obtain ⟨g,h1,h2,h3⟩:=hp z hz
 exact ⟨h1.1.rd Z1d,h2.1.rd At.enc_len,h3.1.rd Ch.enc_len⟩⟩
theorem Y5L {w:World} {B B2:Nat} {A:Option Addr} {c:Nat} {v:Value} {L:List ClS} (ho:OwCs w B (.slice A L.length c) L) (hp:∀ z∈L,PartC w B2 v z):RdCl w w.heap.size A L∧(∀ z∈L,z.c.s.length≤z.cs∧z.cs≤maxLen)∧L.length≤c:=⟨⟨ho.rd ClS.enc_len,fun z hz=>(hp z hz).1.rd At.enc_len⟩,fun z hz=>by
 obtain ⟨_,_,hv,hc1,hc2⟩:=(hp z hz).1.form
 injection hv with _ _ hcc
 subst hcc
 exact ⟨hc1,hc2⟩,ho.cap.1⟩
structure SX where
 A:Option Addr
 c:Nat
 l:List OpS
def SX.enc (s:SX):List Value:=[.slice s.A s.l.length s.c]
def szA (s:List At):Nat:=(s.map (fun a=>a.v.s.size)).sum
def szC (p:List Ch):Nat:=(p.map (fun a=>a.v.s.size)).sum
def szO (o:Opd):Nat:=1+o.r.length+o.s.length+o.p.length+szA o.s+szC o.p
def szX (x:List OpS):Nat:=(x.map (fun o=>szO o.o)).sum
theorem Z4o {α:Type} (f:α→Nat) {l:List α} {i:Nat} {a:α} (h:l[i]? = some a):((l.take (i+1)).map f).sum=((l.take i).map f).sum+f a:=by
 rw [List.take_add_one,h];simp
theorem Z2h {α:Type} (f:α→Nat) (l:List α) (i:Nat):((l.take i).map f).sum≤(l.map f).sum:=by
 conv=>rhs;rw [←List.take_append_drop i l]
 rw [List.map_append,List.sum_append];omega
theorem Y3Z {x:List OpS} {o:OpS} (h:o∈x):szO o.o≤szX x:=by
 induction x with
 | nil=>cases h
 | cons a x ih=>
   show _≤szO a.o+szX x
   rcases List.mem_cons.1 h with rfl|h
   ·omega
   ·have:=ih h;omega
theorem Y2j (A:Option Addr) (n c:Nat) (x:List OpS) (w:World) (hn:n=x.length) (h:RdOp w w.heap.size A x) (hb:n≤140737488355328) (hz:szX x≤4611686018427387904) :
 Calls Tryz.prog 29 #[.slice A n c] w fun e w'=>e=.returned (.int .i64 (szX x:Int))∧∃ d,w'=w.drewN d:=by
 have N:=hid hn
 have Z:=hid hz
 clear hn hz
 go_enter Tryz.func29,Tryz.ntmps29
 go_wp2_with (fail)
 go_loopg [3,4] n (fun g av iv wr => ∃ (m a:Nat),m≤n∧g=n-m∧a=szX (x.take m)∧av=.int .i64 (a:Int)∧iv=.int .i64 (m:Int)∧∃ d,wr=w.drewN d)
 case atStart=>exact ⟨0,0,by omega,rfl,rfl,rfl,rfl,0,rfl⟩
 case round=>
  obtain ⟨m,a,hm,hg,ha,rfl,rfl,d,rfl⟩:=hrel
  have HG:=hid hg
  have HA:=hid ha
  clear hg ha
  by_cases hlt:m<n
  ·have hl1:m<x.length:=by have:=N.out;omega
   obtain ⟨ad,o,had0,had,hd1,hx1,hc0⟩:=h.1.el hl1
   subst had0
   have hmem:=List.mem_of_getElem? hx1
   obtain ⟨g1,g2,g3⟩:=h.2 o hmem
   have TK:Hid (szX (x.take (m+1))=a+szO o.o):=hid (by rw [HA.out];exact Z4o (fun o:OpS=>szO o.o) hx1)
   have TB:Hid (a+szO o.o≤4611686018427387904):=hid (by rw [←TK.out];exact Nat.le_trans (Z2h (fun o:OpS=>szO o.o) x (m+1)) Z.out)
   obtain ⟨⟨k,nn,r,s,p⟩,Ar,cr,As,cs,Ap,cp⟩:=o
   simp only at g1 g2 g3 TK TB
   obtain ⟨r0,r1,r2,r3,r4⟩:=Z0r hc0
   obtain ⟨nr,hnr⟩:∃ X,r.length=X:=⟨_,rfl⟩
   obtain ⟨ns,hns⟩:∃ X,s.length=X:=⟨_,rfl⟩
   obtain ⟨np,hnp⟩:∃ X,p.length=X:=⟨_,rfl⟩
   have SO:Hid (szO ⟨k,nn,r,s,p⟩=1+nr+ns+np+szA s+szC p):=hid (by rw [←hnr,←hns,←hnp];rfl)
   have NS:=hid hns
   have NP:=hid hnp
   have B0:a+1+nr+ns+np≤4611686018427387904:=by have:=TB.out;rw [SO.out] at this;omega
   rw [hnr] at r2
   rw [hns] at r3
   rw [hnp] at r4
   have hw2:IntKind.i64.wrap ((m:Int)+1)=(m:Int)+1:=IntWalk.i64_in _ (by omega)
   have e1:IntKind.i64.wrap ((a:Int)+1)=(a:Int)+1:=IntWalk.i64_in _ (by omega)
   have e2:IntKind.i64.wrap ((a:Int)+1+(nr:Int))=(a:Int)+1+nr:=IntWalk.i64_in _ (by omega)
   have e3:IntKind.i64.wrap ((a:Int)+1+(nr:Int)+(ns:Int))=(a:Int)+1+nr+ns:=IntWalk.i64_in _ (by omega)
   have e4:IntKind.i64.wrap ((a:Int)+1+(nr:Int)+(ns:Int)+(np:Int))=(a:Int)+1+nr+ns+np:=IntWalk.i64_in _ (by omega)
   clear hc0 hd1 hx1 hmem hns hnp hnr
   go_wp2_with (fail)
   go_quiet (fail)
   go_wp2_with (fail)
   clear e1 e2 e3
   go_loopg [3,5] ns (fun g av iv wi => ∃ (j b:Nat),j≤ns∧g=ns-j∧b=a+1+nr+ns+np+szA (s.take j)∧av=.int .i64 (b:Int)∧iv=.int .i64 (j:Int)∧∃ d,wi=w.drewN d)
   case atStart=>exact ⟨0,a+1+nr+ns+np,by omega,rfl,rfl,by first|rfl|(go_num)|(simp only [e4];rfl)|(congr 1),rfl,_,(by first|rfl|exact World.drewN_drewN _ _ _)⟩
   case round=>
    obtain ⟨j,b,hj,hg2,hbj,rfl,rfl,d2,rfl⟩:=hrel
    have HG2:=hid hg2
    have HB:=hid hbj
    clear hg2 hbj e4
    by_cases hls:j<ns
    ·obtain ⟨ad2,z,e2,_,_,hzj,hz⟩:=g2.el (i:=j) (by have:=NS.out;omega)
     subst e2
     have T2:Hid (szA (s.take (j+1))=szA (s.take j)+z.v.s.size):=hid (Z4o (fun a:At=>a.v.s.size) hzj)
     have T3:Hid (szA (s.take (j+1))≤szA s):=hid (Z2h (fun a:At=>a.v.s.size) s (j+1))
     obtain ⟨z1,⟨z2,z3,z4,z5⟩⟩:=z
     simp only at T2
     obtain ⟨s0,s1,s2,s3,s4⟩:=Z0P hz
     have hw3:IntKind.i64.wrap ((j:Int)+1)=(j:Int)+1:=IntWalk.i64_in _ (by omega)
     have bnd:b+z5.size≤4611686018427387904:=by
      have h1:=TB.out;have h2:=SO.out;have h3:=T2.out;have h4:=T3.out;have h5:=HB.out;omega
     have hw4:IntKind.i64.wrap ((b:Int)+(z5.size:Int))=(b:Int)+z5.size:=IntWalk.i64_in _ (by omega)
     clear hz hzj
     go_wp2_with (fail)
     go_roundg (ns-(j+1))
     case measure=>have:=HG2.out;omega
     case rel=>exact ⟨j+1,b+z5.size,by omega,rfl,by have:=HB.out;have:=T2.out;omega,by go_num,by go_num,_,rfl⟩
    ·have hjn:j=ns:=by omega
     have HB9:Hid (b=a+1+nr+ns+np+szA s):=hid (by have:=HB.out;rwa [hjn,List.take_of_length_le (by rw [NS.out];omega)] at this)
     clear hjn
     go_wp2_with (fail)
     go_loopg [3,6] np (fun g av iv wi => ∃ (j q:Nat),j≤np∧g=np-j∧q=b+szC (p.take j)∧av=.int .i64 (q:Int)∧iv=.int .i64 (j:Int)∧∃ d,wi=w.drewN d)
     case atStart=>exact ⟨0,b,by omega,rfl,rfl,rfl,rfl,_,rfl⟩
     case round=>
      obtain ⟨t,q,ht,hg2,hq,rfl,rfl,d2,rfl⟩:=hrel
      have HG3:=hid hg2
      have HQ:=hid hq
      clear hg2 hq
      by_cases hls:t<np
      ·obtain ⟨ad2,z,e2,_,_,hzj,hz⟩:=g3.el (i:=t) (by have:=NP.out;omega)
       subst e2
       have T2:Hid (szC (p.take (t+1))=szC (p.take t)+z.v.s.size):=hid (Z4o (fun a:Ch=>a.v.s.size) hzj)
       have T3:Hid (szC (p.take (t+1))≤szC p):=hid (Z2h (fun a:Ch=>a.v.s.size) p (t+1))
       obtain ⟨z1,z6,⟨z2,z3,z4,z5⟩⟩:=z
       simp only at T2
       obtain ⟨s0,s1,s2,s3,s4,s5⟩:=Z0I hz
       have hw3:IntKind.i64.wrap ((t:Int)+1)=(t:Int)+1:=IntWalk.i64_in _ (by omega)
       have bnd:q+z5.size≤4611686018427387904:=by
        have h1:=TB.out;have h2:=SO.out;have h3:=T2.out;have h4:=T3.out;have h5:=HB9.out;have h6:=HQ.out;omega
       have hw4:IntKind.i64.wrap ((q:Int)+(z5.size:Int))=(q:Int)+z5.size:=IntWalk.i64_in _ (by omega)
       clear hz hzj
       go_wp2_with (fail)
       go_roundg (np-(t+1))
       case measure=>have:=HG3.out;omega
       case rel=>exact ⟨t+1,q+z5.size,by omega,rfl,by have:=HQ.out;have:=T2.out;omega,by go_num,by go_num,_,rfl⟩
      ·have htn:t=np:=by omega
       have HQ9:Hid (q=szX (x.take (m+1))):=hid (by
        have h1:=HQ.out
        rw [htn,List.take_of_length_le (by rw [NP.out];omega)] at h1
        rw [TK.out,SO.out,h1,HB9.out];omega)
       clear htn
       go_wp2_with (fail)
       go_roundg (n-(m+1))
       case measure=>have:=HG.out;omega
       case rel=>exact ⟨m+1,q,by omega,rfl,HQ9.out,rfl,by go_num,_,rfl⟩
  ·have HA9:Hid (a=szX x):=hid (by have:=HA.out;rwa [List.take_of_length_le (by have:=N.out;omega)] at this)
   have e:=HA9.out
   clear HA9 HA
   go_wp2_with (fail)
   go_ret
   subst e
   exact ⟨rfl,_,rfl⟩
def tellO (m:Mk) (o:Opd):Mk:=if o.k=1 then Z0v m o.n o.p else if o.k=2 then Z0J m o.r o.s else Z2u m o.n
def ofM (x:List Opd):Mk:=x.foldl tellO Mk.new
theorem Y5M (x:List Opd) (o:Opd):ofM (x++[o])=tellO (ofM x) o:=by unfold ofM;rw [List.foldl_append];rfl
theorem MkB.tellO {m:Mk} {K S:Nat} (h:MkB m K S) {o:Opd} (hs:o.s.length≤S) (hp:o.p.length≤S):MkB (tellO m o) (K+2*(1+o.r.length)) S:=by
 unfold Go.Proofs.YtnmedachaeanbaaGreatDoor.tellO
 split
 ·exact (h.retain o.n hp).mono (by omega) (Nat.le_refl _)
 ·split
  ·exact (h.insert o.r hs).mono (by omega) (Nat.le_refl _)
  ·exact (h.delete o.n).mono (by omega) (Nat.le_refl _)
def szN (x:List OpS):Nat:=(x.map (fun o=>1+o.o.r.length)).sum
theorem Z14 (o:OpS) (x:List OpS):szN (o::x)=1+o.o.r.length+szN x:=rfl
theorem Z2D (x:List OpS):x.length≤szN x:=by
 induction x with
 | nil=>exact Nat.zero_le _
 | cons a x ih=>rw [Z14,List.length_cons];omega
theorem Y7p {x:List OpS} {o:OpS} (h:o∈x):o.o.r.length≤szN x:=by
 induction x with
 | nil=>cases h
 | cons a x ih=>
   rw [Z14]
   rcases List.mem_cons.1 h with rfl|h
   ·omega
   ·have:=ih h;omega
theorem Y5N (x:List OpS) (i:Nat):szN (x.take i)≤szN x:=Z2h (fun o:OpS=>1+o.o.r.length) x i
theorem Y8x (x:List OpS):szN x≤szX x:=by
 induction x with
 | nil=>exact Nat.zero_le _
 | cons a x ih=>
   have e:szX (a::x)=szO a.o+szX x:=rfl
   rw [Z14,e]
   unfold szO;omega
theorem Y8y {S:Nat}:∀ (x:List OpS) {m:Mk} {K:Nat},MkB m K S→(∀ o∈x,o.o.s.length≤S∧o.o.p.length≤S)→MkB ((osOf x).foldl tellO m) (K+2*szN x) S
 | [],m,K,h,_=>h
 | o::x,m,K,h,hs=>by
   have h1:=h.tellO (hs o (by simp)).1 (hs o (by simp)).2
   have h2:=Y8y x h1 (fun z hz=>hs z (List.mem_cons_of_mem _ hz))
   rw [Z14]
   exact h2.mono (by omega) (Nat.le_refl _)
theorem Z3M {S:Nat} (x:List OpS) (hs:∀ o∈x,o.o.s.length≤S∧o.o.p.length≤S):MkB (ofM (osOf x)) (2*szN x) S:=by
 have:=Y8y x (MkB.new S) hs
 rwa [Nat.zero_add] at this
theorem Y2k {m:Mk} {us:List Un} (h:Told m us) {o:Opd} (ho:isOp o) (hb:(us.length:Int)+o.n≤4611686018427387904) (hb2:us.length≤4611686018427387904):Told (tellO m o) (us++Z0l o):=by
 unfold tellO Z0l
 rcases Z0H ho with hk|hk|hk
 ·rw [if_neg (by rw [hk];decide),if_pos hk,if_pos hk];exact h.insert _ _
 ·rw [if_neg (by rw [hk];decide),if_neg (by rw [hk];decide),if_neg (by rw [hk];decide),if_neg (by rw [hk];decide)];exact h.delete _ hb hb2
 ·rw [if_pos hk,if_neg (by rw [hk];decide),if_pos hk];exact h.retain _ _ hb
theorem Z8T {us:List Un}:us.length≤Z0j us+Z0q us:=by
 induction us with
 | nil=>exact Nat.zero_le _
 | cons u us ih=>
   cases u with
   | ins r s=>rw [Z2z,Y0U,List.length_cons];omega
   | del=>rw [Z2y,Z7N,List.length_cons];omega
   | ret p=>rw [Z1H,Z4l,List.length_cons];omega
theorem Z6t:∀ (x:List Opd) {m:Mk} {us:List Un},Told m us→(∀ o∈x,isOp o)→us.length+(Z0i x).length≤4000000000→Told (x.foldl tellO m) (us++Z0i x)
 | [],m,us,h,_,_=>by rw [Z58,List.append_nil];exact h
 | o::x,m,us,h,hi,hb=>by
   rw [Z1e,List.length_append] at hb
   have ho:=hi o (by simp)
   have hn:o.n≤(Z0l o).length:=by
    unfold Z0l
    rcases Z0H ho with hk|hk|hk
    ·obtain ⟨e,hr⟩:=Z10 ho hk
     rw [if_pos hk,e]
     show (0:Int)≤_
     omega
    ·rw [if_neg (by rw [hk];decide),if_neg (by rw [hk];decide),List.length_replicate];omega
    ·rw [if_neg (by rw [hk];decide),if_pos hk,List.length_replicate];omega
   have h1:=Y2k h ho (by omega) (by omega)
   have h2:=Z6t x h1 (fun z hz=>hi z (List.mem_cons_of_mem _ hz)) (by rw [List.length_append];omega)
   rw [List.append_assoc] at h2
   rw [Z1e]
   exact h2
theorem Z5A (x:List Opd) (hi:∀ o∈x,isOp o) (hb:(Z0i x).length≤4000000000):Told (ofM x) (Z0i x):=by
 have:=Z6t x Told.new hi (by simpa using hb)
 rwa [List.nil_append] at this
/-! what is not malformed -/
theorem Y07 {l:List Ky}:∀ (x:List OpS) (a:Int),(x.foldl (Z0z l) (false,a)).1=false→∀ o∈x,oneP l o.o≠3
 | [],_,_,_,ho=>by cases ho
 | z::x,a,h,o,ho=>by
   rw [List.foldl_cons] at h
   unfold Z0z at h
   simp only [Bool.false_eq_true,if_false] at h
   by_cases h3:oneP l z.o=3
   ·rw [if_pos h3] at h
    have:=Z1T l 3 x
    unfold Z0z at this
    rw [this] at h
    cases h
   ·rw [if_neg h3] at h
    rcases List.mem_cons.1 ho with rfl|ho
    ·exact h3
    ·exact Y07 x _ h o ho
theorem Z92 {l:List Ky} {x:List OpS} (h:mayO l x≠3):(∀ o∈x,oneP l o.o≠3)∧Z0W x≤536870912∧Z04 x≤536870912:=by
 unfold mayO at h
 by_cases h1:(x.foldl (Z0z l) (false,0)).1=true
 ·rw [if_pos h1] at h;exact absurd rfl h
 ·rw [if_neg h1] at h
  by_cases h2:Z0W x≤536870912∧Z04 x≤536870912
  ·exact ⟨Y07 x 0 (by simpa using h1),h2.1,h2.2⟩
  ·rw [if_neg h2] at h;exact absurd rfl h
theorem Z7Z {l:List Ky} {o:Opd} (h:oneP l o≠3):Z1J o=true∧1≤Z07 o∧Z07 o≤536870912:=by
 unfold oneP at h
 by_cases h1:Z1J o=true∧1≤Z07 o∧Z07 o≤536870912
 ·exact h1
 ·rw [if_neg h1] at h;exact absurd rfl h
def Z3C (x:OpS):OpS:=⟨⟨x.o.k,x.o.n,x.o.r,[],[]⟩,x.Ar,x.cr,x.As,x.cs,x.Ap,x.cp⟩
theorem Y08 {l:List Ky} {x:OpS} (h:oneP l x.o≠3):oneP l (Z3C x).o=0:=by
 obtain ⟨h1,h2,h3⟩:=Z7Z h
 have e:Z07 (Z3C x).o=Z07 x.o:=rfl
 have f:Z1J (Z3C x).o=true:=by
  obtain ⟨⟨k,n,r,s,p⟩,Ar,cr,As,cs,Ap,cp⟩:=x
  unfold Z1J at h1 ⊢
  unfold Z3C
  simp only at h1 ⊢
  by_cases k1:k=1
  ·rw [if_pos k1] at h1 ⊢
   have:=of_decide_eq_true h1
   exact decide_eq_true ⟨this.1,rfl⟩
  rw [if_neg k1] at h1 ⊢
  by_cases k3:k=3
  ·rw [if_pos k3] at h1 ⊢
   have:=of_decide_eq_true h1
   exact decide_eq_true ⟨⟨this.1.1,rfl⟩,rfl⟩
  rw [if_neg k3] at h1 ⊢
  by_cases k2:k=2
  ·rw [if_pos k2] at h1 ⊢
   have h2:=Bool.and_eq_true_iff.1 h1
   have:=of_decide_eq_true h2.1
   exact Bool.and_eq_true_iff.2 ⟨decide_eq_true ⟨this.1,rfl⟩,h2.2⟩
  ·rw [if_neg k2] at h1;cases h1
 unfold oneP
 rw [if_pos ⟨f,by rw [e];exact h2,by rw [e];exact h3⟩]
 rfl
theorem Y2l (x:List OpS):Z0W (x.map Z3C)=Z0W x:=by unfold Z0W;rw [List.foldl_map];rfl
theorem Y2m (x:List OpS):Z04 (x.map Z3C)=Z04 x:=by unfold Z04;rw [List.foldl_map];rfl
theorem Z8U:∀ x:List OpS,sumT (x.map Z3C)=sumT x
 | []=>rfl
 | o::x=>by show tkI (Z3C o).o+sumT (x.map Z3C)=tkI o.o+sumT x;rw [Z8U x];rfl
theorem Z8V:∀ x:List OpS,sumM (x.map Z3C)=sumM x
 | []=>rfl
 | o::x=>by show mkI (Z3C o).o+sumM (x.map Z3C)=mkI o.o+sumM x;rw [Z8V x];rfl
theorem Y30 {x:OpS} (h:Z1J x.o=true) (hb:isOp (Z3C x).o):isOp x.o:=by
 obtain ⟨⟨k,n,r,s,p⟩,Ar,cr,As,cs,Ap,cp⟩:=x
 unfold Z1J at h
 simp only at h
 rcases hb with ⟨h1,h2,h3,h4⟩ | ⟨h1,h2,h3,h4,h5⟩ | ⟨h1,h2,h3,h4⟩
 ·simp only [Z3C] at h1 h2 h3
  subst h1
  rw [if_neg (by decide),if_neg (by decide),if_pos rfl] at h
  have:=of_decide_eq_true (Bool.and_eq_true_iff.1 h).1
  exact .inl ⟨rfl,h2,h3,List.eq_nil_of_length_eq_zero this.2⟩
 ·simp only [Z3C] at h1 h2 h3
  subst h1
  rw [if_neg (by decide),if_pos rfl] at h
  have:=of_decide_eq_true h
  exact .inr (.inl ⟨rfl,h2,h3,List.eq_nil_of_length_eq_zero this.1.2,List.eq_nil_of_length_eq_zero this.2⟩)
 ·simp only [Z3C] at h1 h2 h3
  subst h1
  rw [if_pos rfl] at h
  have:=of_decide_eq_true h
  exact .inr (.inr ⟨rfl,h2,h3,List.eq_nil_of_length_eq_zero this.2⟩)
theorem Z2i {l:List Ky} {x:List OpS} (h:mayO l x≠3) (hb:x.length≤1048576):(∀ o∈x,isOp o.o)∧(Z0i (osOf x)).length≤1073741824∧Z0j (Z0i (osOf x))≤536870912∧Z0q (Z0i (osOf x))≤536870912:=by
 obtain ⟨h1,h2,h3⟩:=Z92 h
 have hg:goodO l (x.map Z3C):=fun z hz=>by obtain ⟨o,ho,rfl⟩:=List.mem_map.1 hz;exact Y08 (h1 o ho)
 have hi:∀ o∈x,isOp o.o:=fun o ho=>Y30 (Z7Z (h1 o ho)).1 (Z3B (Y08 (h1 o ho)))
 obtain ⟨s1,s2⟩:=Z1A x hi
 have t1:=Z1V hg (by rw [List.length_map];exact hb)
 have t2:=Z2f hg (by rw [List.length_map];exact hb)
 rw [Y2l,Z8U] at t1
 rw [Y2m,Z8V] at t2
 have ul:=Z8T (us:=Z0i (osOf x))
 exact ⟨hi,by omega,by omega,by omega⟩
/-! forms of what may be -/
theorem Z8W:∀ {l seen:List Ky},Z8C seen l=true→∀ k∈l,mayK k=true
 | [],_,_,k,hk=>by cases hk
 | x::r,seen,h,k,hk=>by
   unfold Z8C at h
   simp only [Bool.and_eq_true] at h
   rcases List.mem_cons.1 hk with rfl|hk
   ·exact h.1.1
   ·exact Z8W h.2 k hk
def Z4p (l:List Ky):Prop := ∀ k∈l,1≤k.id∧k.id≤1000
theorem Y7q {l:List Ky} (h:Z9T l=true):Z4p l:=fun k hk=>by
 unfold Z9T at h
 have h1:=Z8W (Bool.and_eq_true_iff.1 h).2 k hk
 unfold mayK at h1
 have:=of_decide_eq_true (Bool.and_eq_true_iff.1 h1).1
 exact ⟨this.1,this.2.1⟩
theorem Y31 {l:List Ky} (h:Z4p l) {id:Int} (hf:(Z0O l id).isSome=true):1≤id∧id≤1000:=by
 obtain ⟨k,hk⟩:=Option.isSome_iff_exists.1 hf
 unfold Z0O at hk
 have e:k.id=id:=by simpa using List.find?_some hk
 rw [←e]
 exact h k (List.mem_of_find?_eq_some hk)
theorem Z6u {v:V} (h:mayV v=true) (hv:okV v):VForm v∧(v.k≠4→v.s=⟨#[]⟩)∧v.s.size≤64:=by
 obtain ⟨k,n,f,s⟩:=v
 obtain ⟨v1,v2,v3,v4,v5,v6⟩:=hv
 simp only at v1 v2 v3 v4 v5 v6
 unfold mayV at h
 unfold VForm
 simp only at h ⊢
 split at h
 ·rename_i hk
  have e:=of_decide_eq_true h
  unfold Y4O at e
  injection e with e1 e2 e3 e4
  subst e4
  exact ⟨.inl ⟨.inl hk,e3,rfl,v3,v4⟩,fun _=>rfl,Nat.zero_le _⟩
 ·split at h
  ·rename_i hk
   have e:=of_decide_eq_true h
   unfold intV at e
   injection e with e1 e2 e3 e4
   subst e4
   exact ⟨.inl ⟨.inr hk,e3,rfl,v3,v4⟩,fun _=>rfl,Nat.zero_le _⟩
  ·split at h
   ·rename_i hk
    have e:=of_decide_eq_true h
    unfold Z3n at e
    injection e with e1 e2 e3 e4
    subst e4
    exact ⟨.inr (.inl ⟨hk,e2,rfl,v5,by omega⟩),fun _=>rfl,Nat.zero_le _⟩
   ·split at h
    ·rename_i hk
     have h1:=of_decide_eq_true (Bool.and_eq_true_iff.1 h).1
     have e:=of_decide_eq_true (Bool.and_eq_true_iff.1 h).2
     unfold Y70 at e
     injection e with e1 e2 e3 e4
     exact ⟨.inr (.inr ⟨hk,e2,e3,by omega⟩),fun hn=>absurd hk hn,h1.1⟩
    ·cases h
theorem Y32 {v:V} (h:VForm v):v.s.size≤(wV v).length:=by
 rw [Z8n]
 unfold wVt
 rcases h with ⟨hk,_,hs,_⟩ | ⟨hk,_,hs,_⟩ | ⟨hk,_⟩
 ·rw [hs];exact Nat.zero_le _
 ·rw [hs];exact Nat.zero_le _
 ·rw [if_neg (by omega),if_neg (by omega),if_pos hk,wB,List.length_append,List.length_append,Z1l];omega
theorem Z26 {α:Type} {f:α→List Int} {a:α}:∀ {l:List α},a∈l→(f a).length≤(l.flatMap f).length
 | b::l,h=>by
   rw [List.flatMap_cons,List.length_append]
   rcases List.mem_cons.1 h with rfl|h
   ·omega
   ·have:=Z26 (f:=f) h;omega
theorem Z27 {α:Type} {f:α→List Int} (hf:∀ a,1≤(f a).length):∀ l:List α,l.length≤(l.flatMap f).length
 | []=>Nat.zero_le _
 | b::l=>by
   rw [List.flatMap_cons,List.length_append,List.length_cons]
   have:=Z27 hf l;have:=hf b;omega
theorem Y09 (n:Nat):1≤(uv n).length:=by
 cases h:uv n with
 | nil=>exact absurd h (uv_ne n)
 | cons a t=>simp
theorem Z6v {α:Type} {f:α→List Int} {l:List α}:(l.flatMap f).length≤(wL f l).length:=by unfold wL;rw [List.length_append];omega
theorem Y7r (a:At):1≤(wAt a).length:=by unfold wAt;rw [List.length_append];have:=Y09 a.key.toNat;omega
theorem Y7s (c:Ch):1≤(wCh c).length:=by unfold wCh;rw [List.length_append];have:=Y09 c.key.toNat;omega
theorem Y6H (o:Opd):1≤(wO o).length:=by unfold wO;rw [List.length_append];have:=Y09 o.k.toNat;omega
theorem Y7t {l:List Ky} (hl:Z4p l) {a:At} (h1:okA a=true) (h2:Z05 l a=true) (hv:okV a.v) {m:Nat} (hm:(wAt a).length≤m):Y24 m a∧Z7D a∧a.v.s.size≤64:=by
 unfold okA at h1
 unfold Z05 at h2
 obtain ⟨f1,f2,f3⟩:=Z6u h1 hv
 have hk:(Z0O l a.key).isSome=true:=by
  unfold Z2o at h2
  cases hf:Z0O l a.key with
  | none=>rw [hf] at h2;cases h2
  | some k=>rfl
 have hb:=Y31 hl hk
 have hs:=Y32 f1
 refine ⟨⟨by omega,by omega,f1,?_⟩,⟨by omega,by omega,hv⟩,f3⟩
 unfold wAt at hm
 rw [List.length_append] at hm
 omega
theorem Y7u {l:List Ky} (hl:Z4p l) {c:Ch} (h1:okC c=true) (h2:Z0A l c=true) (hv:okV c.v) {m:Nat} (hm:(wCh c).length≤m):Y25 m c∧Z7E c:=by
 unfold Z0A at h2
 have hb:=Y31 hl (Bool.and_eq_true_iff.1 h2).1
 unfold okC at h1
 refine ⟨⟨by omega,by omega,?_⟩,⟨by omega,by omega,hv⟩⟩
 by_cases hg:c.gone=true
 ·rw [if_pos hg] at h1 ⊢
  exact of_decide_eq_true h1
 ·rw [if_neg hg] at h1 ⊢
  obtain ⟨f1,f2,f3⟩:=Z6u h1 hv
  have hs:=Y32 f1
  unfold wCh at hm
  rw [if_neg hg,List.length_append] at hm
  exact ⟨f1,by omega⟩
theorem wO2 (r:List Int) (s:List At) (p:List Ch) (n:Int):wO ⟨2,n,r,s,p⟩=uv 2++(wB (Z0D r)++wL wAt s):=by
 unfold wO
 simp
theorem wO1 (r:List Int) (s:List At) (p:List Ch) (n:Int):wO ⟨1,n,r,s,p⟩=uv 1++(uv n.toNat++wL wCh p):=by
 unfold wO
 simp
theorem Z93 {l:List Ky} (hl:Z4p l) {o:Opd} (h:oneP l o=0) (hv:okOp o) {m:Nat} (hm:(wO o).length≤m):Z6K m o∧Y1T o:=by
 obtain ⟨h1,h2,h3,h4,h5⟩:=Z1U h
 have hi:=Z3B h
 obtain ⟨p1,p2,p3,p4⟩:=Z2d h4
 have hp:p1=p1:=rfl
 have hq:Z3Y o.p=true∧o.p.all okC=true∧o.p.all (Z0A l)=true:=by
  unfold mayP at h5
  split at h5
  ·cases h5
  ·split at h5
   ·rename_i hh
    split at h5
    ·rename_i ht;exact ⟨hh.1,hh.2,ht⟩
    ·cases h5
   ·cases h5
 have ws:∀ {a:At},a∈o.s→o.k=2→(wAt a).length≤m:=fun {a} ha hk=>by
  have:=Z26 (f:=wAt) ha
  have:=Z6v (f:=wAt) (l:=o.s)
  unfold wO at hm
  rw [if_neg (by omega),if_pos hk,List.length_append,List.length_append] at hm
  omega
 have wp:∀ {c:Ch},c∈o.p→o.k=1→(wCh c).length≤m:=fun {c} hc hk=>by
  have:=Z26 (f:=wCh) hc
  have:=Z6v (f:=wCh) (l:=o.p)
  unfold wO at hm
  rw [if_pos hk,List.length_append,List.length_append] at hm
  omega
 have sa:∀ a∈o.s,∀ {m:Nat},(wAt a).length≤m→Y24 m a∧Z7D a∧a.v.s.size≤64:=fun a ha {m} hm=>Y7t hl (p3 a ha) (p4 a ha) (hv.1 a ha) hm
 have pc:∀ c∈o.p,∀ {m:Nat},(wCh c).length≤m→Y25 m c∧Z7E c:=fun c hc {m} hm=>Y7u hl (List.all_eq_true.1 hq.2.1 c hc) (List.all_eq_true.1 hq.2.2 c hc) (hv.2.1 c hc).1 hm
 obtain ⟨k,n,r,s,p⟩:=o
 simp only at *
 unfold Z07 at h2 h3
 simp only at h2 h3
 have fin:okR r=true→Y1T ⟨k,n,r,s,p⟩:=fun hr=>by
  refine ⟨?_,?_,?_,?_,hr,fun a ha=>(sa a ha (Nat.le_refl _)).2.1,fun c hc=>(pc c hc (Nat.le_refl _)).2,hv.2.2.1,hv.2.2.2.1,hv.2.2.2.2⟩
  all_goals simp only
  all_goals rcases hi with ⟨hk,hn,_⟩ | ⟨hk,hn,_⟩ | ⟨hk,hn,_⟩
  all_goals simp only at hk hn
  all_goals first|omega|(rw [if_neg (by omega)] at h3;omega)
 rcases hi with ⟨hk,hn,hr,hpn⟩ | ⟨hk,hn,hr,hs,hpn⟩ | ⟨hk,hn,hr,hs⟩
 ·simp only at hk hn hr hpn
  subst hk;subst hn;subst hpn
  have hmr:∀ x∈r,mayR x=true:=Z7U h rfl
  have hok:okR r=true:=List.all_eq_true.2 hmr
  refine ⟨.inr (.inl ⟨rfl,rfl,hok,?_,fun a ha=>(sa a ha (ws ha rfl)).1,?_,rfl⟩),fin hok⟩
  ·rw [wO2,List.length_append,List.length_append,wB,List.length_append] at hm
   simp only
   omega
  ·have:=Z27 Y7r s
   have:=Z6v (f:=wAt) (l:=s)
   rw [wO2,List.length_append,List.length_append] at hm
   simp only
   omega
 ·simp only at hk hn hr hs hpn
  subst hk;subst hr;subst hs;subst hpn
  rw [if_neg (by omega)] at h3
  exact ⟨.inr (.inr ⟨rfl,by simp only;omega,by simp only;omega,rfl,rfl,rfl⟩),fin rfl⟩
 ·simp only at hk hn hr hs
  subst hk;subst hr;subst hs
  rw [if_neg (by omega)] at h3
  refine ⟨.inl ⟨rfl,by simp only;omega,by simp only;omega,rfl,rfl,fun c hc=>(pc c hc (wp hc rfl)).1,?_⟩,fin rfl⟩
  have:=Z27 Y7s p
  have:=Z6v (f:=wCh) (l:=p)
  rw [wO1,List.length_append,List.length_append] at hm
  simp only
  omega
end Go.Proofs.YtnmedachaeanbaaGreatDoor
