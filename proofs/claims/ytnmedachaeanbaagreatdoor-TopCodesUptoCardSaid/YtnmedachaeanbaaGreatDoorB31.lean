/- Merged texts. -/
import Derived.Test.YtnmedachaeanbaaGreatDoorB30
namespace Go.Proofs.YtnmedachaeanbaaGreatDoor
set_option maxRecDepth 100000
set_option maxHeartbeats 3200000
open Go.RowKit
open Go.Lib (hid Utf8Tabs)
set_option linter.unusedVariables false
set_option linter.unusedSimpArgs false
structure DocAt (w:World) (A:Option Addr) (n c:Nat) (L:List ClS):Prop where
 rd:RdCl w w.heap.size A L
 len:n=L.length
 cap:n≤c
 caps:∀ z∈L,z.c.s.length≤z.cs∧z.cs≤maxLen
 vr:∀ z∈L,z.c.s.length≤1000000∧okVr z.c.s
 b:n≤20000
structure OpsAt (w:World) (A:Option Addr) (n:Nat) (x:List OpS):Prop where
 rd:RdOp w w.heap.size A x
 len:n=x.length
 ok:∀ o∈x,okOp o.o
 b:n≤1000000
theorem DocAt.ext {w w':World} {A:Option Addr} {n c:Nat} {L:List ClS} (h:DocAt w A n c L) (y:Below w.heap.size w w'):DocAt w' A n c L:=⟨h.rd.ext y,h.len,h.cap,h.caps,h.vr,h.b⟩
theorem OpsAt.ext {w w':World} {A:Option Addr} {n:Nat} {x:List OpS} (h:OpsAt w A n x) (y:Below w.heap.size w w'):OpsAt w' A n x:=⟨h.rd.ext y,h.len,h.ok,h.b⟩
theorem Y7v {L:List ClS} {z:ClS} (h:z∈L):z.c∈Z0g L:=by unfold Z0g;exact List.mem_map_of_mem h
theorem Y7w {L:List ClS} {c:Cl} (h:c∈Z0g L):∃ z∈L,z.c=c:=by
 obtain ⟨z,hz,e⟩:=List.mem_map.1 h
 exact ⟨z,hz,e⟩
theorem DocAt.cvr {w:World} {A:Option Addr} {n c:Nat} {L:List ClS} (h:DocAt w A n c L):∀ x∈Z0g L,okVr x.s:=fun x hx=>by
 obtain ⟨z,hz,rfl⟩:=Y7w hx
 exact (h.vr z hz).2
theorem DocAt.clen {w:World} {A:Option Addr} {n c:Nat} {L:List ClS} (h:DocAt w A n c L):(Z0g L).length=n:=by rw [Z00,←h.len]
theorem DocAt.made {w:World} {B B2:Nat} {A:Option Addr} {c:Nat} {v:Value} {L:List ClS} (ho:OwCs w B (.slice A L.length c) L) (hp:∀ z∈L,PartC w B2 v z) (hv:∀ x∈Z0g L,x.s.length≤1000000∧okVr x.s) (hb:L.length≤20000):DocAt w A L.length c L:=by
 obtain ⟨h1,h2,h3⟩:=Y5L ho hp
 exact ⟨h1,rfl,h3,h2,fun z hz=>hv _ (Y7v hz),hb⟩
def Y8B (o:List Opd) (w:World) (e:Ending) (w':World):Prop:=
 ∃ A c x,e=.returned (.slice A x.length c)∧osOf x=o∧OpsAt w' A x.length x∧Below w.heap.size w w'
theorem NewOps.op {m:Mk} {us:List Un} {K S:Nat} {w w':World} {e:Ending} (h:NewOps (Z1j m) w e w') (ht:Told m us) (hu:∀ u∈us,okUn u) (hB:MkB m K S) (hK:K≤900000) (hS:S≤100000000):Y8B (Z1j m) w e w':=by
 obtain ⟨A,c,x,he,hx,ho,hp,y⟩:=h
 obtain ⟨h1,h2⟩:=Z7Y hx ht hu hB (by omega) hS
 exact ⟨A,c,x,he,hx,⟨Y3Y ho hp,rfl,h1,by omega⟩,y⟩
section
variable {w:World} {A B:Option Addr} {n c n2 c2:Nat} {L M:List ClS}
theorem Y8C (h1:DocAt w A n c L) (h2:DocAt w B n2 c2 M) {b:Bool} (hb:decide (Z0g L=Z0g M)=b):Calls Tryz.prog 19 #[.slice A n c,.slice B n2 c2] w fun e w'=>e=.returned (.bool b)∧Below w.heap.size w w':=by
 have h:=Z70 A B n n2 c c2 L M w h1.len h2.len h1.rd h2.rd (by have:=h1.b;omega) (by have:=h2.b;omega) (fun x hx=>by have:=(h1.vr x hx).1;omega) (fun x hx=>by have:=(h2.vr x hx).1;omega)
 rw [hb] at h
 exact h
theorem Z4q {s:Nat} {l:List Ky} {most:Int} {N:Nat} {x:List OpS} (h:DocAt w A n c L) (hx:OpsAt w B n2 x) (hS:Sch w s l) (hT:Utf8Tabs 0 1 w) (hl:l.length≤64) (hmo:N≤10000)
 {us:List Un} (hz:Z01 l x (Z0g L) most=0) (hN:Z01 l x (Z0g L) (N:Int)=0) (hu:app l (Z0i (osOf x)) (Z0g L)=app l us (Z0g L)) :
 Calls Tryz.prog 28 #[.pointer (some ⟨s,0,none⟩),.slice A n c,.slice B n2 c2,.int .i64 most] w (fun e w' => ∃ A c M,e=.returned (.tuple #[.slice A M.length c,.int .i64 0])∧Z0g M=app l us (Z0g L)∧mayD l (Z0g M)=0∧M.length≤N∧DocAt w' A M.length c M∧Below w.heap.size w w'):=by
 refine (Z3N s l A B n c n2 c2 L x most w h.len hx.len h.cap (by have:=h.b;omega) (by have:=hx.b;omega) h.rd hx.rd hS (fun z hz=>⟨by have:=(h.vr z hz).1;omega,(h.vr z hz).2⟩) h.caps hx.ok hT).mono ?_
 rintro e w' ⟨y,⟨hne,_⟩ | ⟨_,A',c',M,rfl,hM,oM,pM⟩⟩
 ·exact absurd hz hne
 ·obtain ⟨hg,hf,cm⟩:=came hl (by have:=hx.b;have:=hx.len;omega) (by omega) hx.ok h.cvr hN
  rw [←hM] at cm
  have hlen:M.length≤N:=by
   have h1:=cm.len
   have h2:=hf.m
   rw [Z00] at h1
   omega
  exact ⟨A',c',M,rfl,hM.trans hu,cm.may,hlen,DocAt.made oM pM (fun z hz=>⟨by have:=cm.s64 z hz;omega,cm.vr z hz⟩) (by omega),y⟩
theorem Y1b {s:Nat} {l:List Ky} {most:Int} {x:List OpS} (h:DocAt w A n c L) (hx:OpsAt w B n2 x) (hS:Sch w s l) (hT:Utf8Tabs 0 1 w) {r:Int} (hr:Z01 l x (Z0g L) most=r) (hz:r≠0) :
 Calls Tryz.prog 28 #[.pointer (some ⟨s,0,none⟩),.slice A n c,.slice B n2 c2,.int .i64 most] w (fun e w'=>e=.returned (.tuple #[.slice none 0 0,.int .i64 r])∧Below w.heap.size w w'):=by
 refine (Z3N s l A B n c n2 c2 L x most w h.len hx.len h.cap (by have:=h.b;omega) (by have:=hx.b;omega) h.rd hx.rd hS (fun z hz=>⟨by have:=(h.vr z hz).1;omega,(h.vr z hz).2⟩) h.caps hx.ok hT).mono ?_
 rintro e w' ⟨y,⟨_,rfl⟩ | ⟨h0,_⟩⟩
 ·exact ⟨by rw [hr],y⟩
 ·exact absurd (hr.symm.trans h0) hz
end
set_option linter.unusedVariables false
set_option linter.unusedSimpArgs false
def mkU (us:List Un):List Opd:=enc (nf us)
theorem Y1c (u:Un):isOp (op1 u):=by
 cases u with
 | ins r s=>exact .inl ⟨rfl,rfl,by simp [op1,opI],rfl⟩
 | del=>exact .inr (.inl ⟨rfl,by show (1:Int)≤1;decide,rfl,rfl,rfl⟩)
 | ret p=>exact .inr (.inr ⟨rfl,by show (1:Int)≤1;decide,rfl,rfl⟩)
theorem Z7d (u:Un):Z0l (op1 u)=[u]:=by cases u<;>rfl
theorem Y7x {u:Un} {b:Opd} (hb:isOp b) (h:Z0o (op1 u) b=true):isOp (into u b)∧Z0l (into u b)=u::Z0l b∧∀ c,Z0o (into u b) c=Z0o b c:=by
 obtain ⟨k,n,r,s,p⟩:=b
 rcases Z0H hb with hk|hk|hk
 ·obtain ⟨e,hr⟩:=Z10 hb hk
  simp only at hk hr e
  subst hk
  rw [e] at h ⊢
  cases u with
  | del=>simp [Z0o,op1,opI,opD] at h
  | ret q=>simp [Z0o,op1,opI,opR] at h
  | ins r2 s2=>
    have hs:s2=s:=by simp [Z0o,op1,opI] at h;exact of_decide_eq_true h
    subst hs
    exact ⟨.inl ⟨rfl,rfl,by simp [into,opI],rfl⟩,rfl,fun c=>rfl⟩
 ·obtain ⟨e,hn⟩:=Z3e hb hk
  simp only at hk hn e
  subst hk
  rw [e] at h ⊢
  cases u with
  | ins r2 s2=>simp [Z0o,op1,opI,opD] at h
  | ret q=>simp [Z0o,op1,opD,opR] at h
  | del=>
    refine ⟨.inr (.inl ⟨rfl,by show 1≤n+1;omega,rfl,rfl,rfl⟩),?_,fun c=>rfl⟩
    show List.replicate (n+1).toNat Un.del=.del::List.replicate n.toNat .del
    rw [show (n+1).toNat=n.toNat+1 by omega,List.replicate_succ]
 ·obtain ⟨e,hn⟩:=Z2t hb hk
  simp only at hk hn e
  subst hk
  rw [e] at h ⊢
  cases u with
  | ins r2 s2=>simp [Z0o,op1,opI,opR] at h
  | del=>simp [Z0o,op1,opD,opR] at h
  | ret q=>
    have hq:q=p:=by simp [Z0o,op1,opR] at h;exact of_decide_eq_true h
    subst hq
    refine ⟨.inr (.inr ⟨rfl,by show 1≤n+1;omega,rfl,rfl⟩),?_,fun c=>rfl⟩
    show List.replicate (n+1).toNat (Un.ret q)=.ret q::List.replicate n.toNat (.ret q)
    rw [show (n+1).toNat=n.toNat+1 by omega,List.replicate_succ]
theorem Y5S (u:Un) {x:List Opd} (h:Z1q x):Z1q (Z3t u x)∧Z0i (Z3t u x)=u::Z0i x:=by
 cases x with
 | nil=>exact ⟨⟨Y1c u,trivial,trivial⟩,by show Z0i [op1 u]=_;rw [Z02,Z7d];rfl⟩
 | cons b t=>
   obtain ⟨h1,h2,h3⟩:=h
   have ec:Z3t u (b::t)=if Z0o (op1 u) b=true then into u b::t else op1 u::b::t:=rfl
   rw [ec]
   by_cases hm:Z0o (op1 u) b=true
   ·rw [if_pos hm]
    obtain ⟨g1,g2,g3⟩:=Y7x h1 hm
    refine ⟨⟨g1,?_,h3⟩,by rw [Z1e,g2,Z1e];rfl⟩
    cases t with
    | nil=>trivial
    | cons c t=>show Z0o (into u b) c=false;rw [g3];exact h2
   ·rw [if_neg hm]
    exact ⟨⟨Y1c u,by simpa using hm,h1,h2,h3⟩,by rw [Z1e,Z7d];rfl⟩
theorem Y6I:∀ us:List Un,Z1q (enc us)∧Z0i (enc us)=us
 | []=>⟨trivial,rfl⟩
 | u::us=>by
   obtain ⟨h1,h2⟩:=Y6I us
   obtain ⟨g1,g2⟩:=Y5S u h1
   exact ⟨g1,by show Z0i (Z3t u (enc us))=_;rw [g2,h2]⟩
theorem Y1d (us:List Un):Z1q (mkU us)∧Z0i (mkU us)=nf us:=Y6I (nf us)
theorem Z4r {m:Mk} {us:List Un} (h:Told m us):Z1j m=mkU us:=Y3f h.ops.1 (Y1d us).1 (by rw [h.ops.2,(Y1d us).2])
theorem Z71 {x:List OpS} {us:List Un} (hx:osOf x=mkU us):∀ o∈x,isOp o.o:=fun o ho=>Z4R (by rw [hx];exact (Y1d us).1:Z1q (osOf x)) o.o (by unfold osOf;exact List.mem_map_of_mem ho)
theorem Z2R {x:List OpS} {us:List Un} (hx:osOf x=mkU us):Z0i (osOf x)=nf us:=by rw [hx];exact (Y1d us).2
theorem Y8D (us:List Un):mkU (nf us)=mkU us:=by unfold mkU;rw [Y5m]
theorem Z96 {l:List Ky} {x:List OpS} {us:List Un} {d:List Cl} {most:Nat} (hx:osOf x=mkU us) (hb:x.length≤1048576) (hmo:most≤4294967296) (hd:mayD l d=0) (hf:FitU l us d.length most) :
 Z01 l x d (most:Int)=0∧app l (Z0i (osOf x)) d=app l us d:=by
 have h2:=Z2R hx
 refine ⟨Z25 hd (Y2a hb hmo (Z71 hx) (by rw [h2];exact Y8u hf)),?_⟩
 rw [h2,Y8t]
open Go.RowKit
def capO (o:OpS):Prop:=(o.o.r.length≤o.cr∧o.cr≤maxLen)∧(o.o.s.length≤o.cs∧o.cs≤maxLen)∧(o.o.p.length≤o.cp∧o.cp≤maxLen)
theorem Z2E {α:Type} {enc:α→List Value} {size:Nat} {e:TypeId} {w:World} {B:Nat} {A:Option Addr} {n c:Nat} {l:List α} (h:Ow enc size e w B (.slice A n c) l):l.length≤c∧c≤maxLen:=by
 obtain ⟨A',c',hv,h1,h2⟩:=h.form
 injection hv with _ _ hcc
 subst hcc
 exact ⟨h1,h2⟩
theorem Y5T {w:World} {B g:Nat} {x:OpS} (h:PartN w B g x):capO x:=⟨Z2E h.1.1,Z2E h.2.1.1,Z2E h.2.2.1⟩
structure OpsC (w:World) (A:Option Addr) (n c:Nat) (x:List OpS):Prop where
 at_:OpsAt w A n x
 cap:n≤c
 cm:c≤maxLen
 caps:∀ o∈x,capO o
theorem OpsC.ext {w w':World} {A:Option Addr} {n c:Nat} {x:List OpS} (h:OpsC w A n c x) (y:Below w.heap.size w w'):OpsC w' A n c x:=⟨h.at_.ext y,h.cap,h.cm,h.caps⟩
def Y6J (o:List Opd) (w:World) (e:Ending) (w':World):Prop:=
 ∃ A c x,e=.returned (.slice A x.length c)∧osOf x=o∧OpsC w' A x.length c x∧Below w.heap.size w w'
theorem NewOps.opC {m:Mk} {us:List Un} {K S:Nat} {w w':World} {e:Ending} (h:NewOps (Z1j m) w e w') (ht:Told m us) (hu:∀ u∈us,okUn u) (hB:MkB m K S) (hK:K≤900000) (hS:S≤100000000):Y6J (mkU us) w e w':=by
 obtain ⟨A,c,x,he,hx,ho,hp,y⟩:=h
 obtain ⟨h1,h2⟩:=Z7Y hx ht hu hB (by omega) hS
 obtain ⟨c1,c2⟩:=Z2E ho
 exact ⟨A,c,x,he,hx.trans (Z4r ht),⟨⟨Y3Y ho hp,rfl,h1,by omega⟩,c1,c2,fun z hz=>by obtain ⟨g,hg⟩:=hp z hz;exact Y5T hg⟩,y⟩
theorem Z32 (A:Option Addr) (n c:Nat) (x:List OpS) (w:World) (hn:n=x.length) (h:RdOp w w.heap.size A x) (hz:szN x≤2000000) (hz2:∀ o∈x,o.o.s.length≤1000000∧o.o.p.length≤1000000) :
 Calls Tryz.prog 26 #[.slice A n c] w (NewOps (Z1j (ofM (osOf x))) w):=by
 have N:=hid hn
 have HR:=hid h.1
 have HP:=hid h.2
 have SZ:Hid (∀ o∈x,o.o.r.length≤2000000∧o.o.s.length≤1000000∧o.o.p.length≤1000000):=hid (fun o ho=>by
  have h1:=Y7p ho
  have h2:=hz2 o ho
  omega)
 have NB:Hid (n≤2000000):=hid (by
  have h1:=Z2D x
  omega)
 have HB:Hid (∀ i,MkB (ofM (osOf (x.take i))) 4000000 1000000):=hid (fun i=>by
  have h1:=Z3M (S:=1000000) (x.take i) (fun o ho=>⟨(SZ.out o (List.mem_of_mem_take ho)).2.1,(SZ.out o (List.mem_of_mem_take ho)).2.2⟩)
  have h2:=Y5N x i
  exact h1.mono (by omega) (Nat.le_refl _))
 clear hz2
 clear hn h hz
 go_enter Tryz.func26,Tryz.ntmps26
 go_wp2_with (fail)
 go_step3
 go_wp2_with (go_at_call 62;refine Hid.out ?_)
 refine hid ?_
 refine (Y3h w).mono ?_
 rintro e w1 ⟨rfl,hm,y1⟩
 have HM:=hid hm
 have Y1:=hid y1
 clear hm y1
 have hF:∀ k,k=w.heap.size→w.heap.size≤k:=fun k hk=>by omega
 have HR1:Hid (Rd OpS.enc 5 w1 w1.heap.size A x∧OffF (fun k=>k=w.heap.size) A x.length∧∀ o∈x,(Z11 w1 w1.heap.size o.Ar o.o.r∧OffF (fun k=>k=w.heap.size) o.Ar o.o.r.length)∧(RdAt w1 w1.heap.size o.As o.o.s∧OffF (fun k=>k=w.heap.size) o.As o.o.s.length)∧(RdCh w1 w1.heap.size o.Ap o.o.p∧OffF (fun k=>k=w.heap.size) o.Ap o.o.p.length)):=
  hid ⟨HR.out.ext Y1.out,HR.out.offF hF,fun o ho=>⟨⟨(HP.out o ho).1.ext Y1.out,(HP.out o ho).1.offF hF⟩,⟨(HP.out o ho).2.1.ext Y1.out,(HP.out o ho).2.1.offF hF⟩,⟨(HP.out o ho).2.2.ext Y1.out,(HP.out o ho).2.2.offF hF⟩⟩⟩
 go_wp2_with (fail)
 go_step3
 go_wp2_with (fail)
 go_loopg [9] n (fun g iv wr => ∃ (i:Nat) (F':Nat→Prop),i≤n∧g=n-i∧iv=.int .i64 (i:Int)∧Mkr wr F' w.heap.size (ofM (osOf (x.take i)))∧Grow w1 (fun k=>k=w.heap.size) wr F')
 case atStart=>exact ⟨0,fun k=>k=w.heap.size,by omega,rfl,rfl,HM.out,Grow.refl _ _⟩
 case round=>
  obtain ⟨i,F',hi,hg,rfl,hm,gr⟩:=hrel
  have HG:=hid hg
  have HM:=hid hm
  clear hg hm
  by_cases hlt:i<n
  ·have hl1:i<x.length:=by have:=N.out;omega
   have hlt':(i:Int)<(n:Int):=by omega
   obtain ⟨ad,o,rfl,had,_,hx1,hc1⟩:=(HR1.out.1.grow gr HR1.out.2.1).el hl1
   have hom:=List.mem_of_getElem? hx1
   have HT:Hid (ofM (osOf (x.take (i+1)))=tellO (ofM (osOf (x.take i))) o.o):=hid (by
    have e:osOf (x.take (i+1))=osOf (x.take i)++[o.o]:=by unfold osOf;rw [List.take_add_one,hx1];simp
    rw [e,Y5M])
   obtain ⟨⟨p1,f1⟩,⟨p2,f2⟩,⟨p3,f3⟩⟩:=HR1.out.2.2 o hom
   have PR:=hid (p1.grow gr f1)
   have PS:=hid (p2.grow gr f2)
   have PP:=hid (p3.grow gr f3)
   have FP:=hid (f3.grow p3 gr)
   have SO:=hid (SZ.out o hom)
   have MB:=hid (HB.out i)
   obtain ⟨⟨k,nn,r,s,q⟩,Ar,cr,As,cs,Ap,cp⟩:=o
   obtain ⟨z0,z1,z2,z3,z4⟩:=Z0r hc1
   have yb:=Z0b wr (.cells #[.int .u8 k,.int .i64 nn,.slice Ar r.length cr,.slice As s.length cs,.slice Ap q.length cp] 36)
   have hbx:=heap_alloc_new wr (.cells #[.int .u8 k,.int .i64 nn,.slice Ar r.length cr,.slice As s.length cs,.slice Ap q.length cp] 36)
   obtain ⟨q0,q1,q2,q3,q4⟩:=Z0x hbx
   have Y:=hid yb
   have hw2:IntKind.i64.wrap ((i:Int)+1)=(i:Int)+1:=IntWalk.i64_in _ (by have:=NB.out;omega)
   clear hx1 hom hl1 hc1 had yb hbx p1 f1 p2 f2 p3 f3
   by_cases hk:k=1
   ·subst hk
    have HT2:Hid (ofM (osOf (x.take (i+1)))=Z0v (ofM (osOf (x.take i))) nn q):=hid HT.out
    go_wp2_with (go_at_call 65;refine Hid.out ?_)
    refine hid ?_
    refine (Z8R w.heap.size Ap nn q.length cp q _ F' (ofM (osOf (x.take i))) (HM.out.below Y.out) rfl (PP.out.ext Y.out) FP.out (by have:=SO.out.2.2;omega) (by have:=MB.out.len;omega) (fun o ho=>by have:=(MB.out.gap.2 o ho).2.2;omega)).mono ?_
    rintro e w3 ⟨rfl,F3,hm3,g3⟩
    have gg:=gr.trans ((Grow.of Y.out).trans g3)
    rw [←HT2.out] at hm3
    have HM3:=hid hm3
    clear hm3
    go_wp2_with (fail)
    go_roundg (n-(i+1))
    case measure=>have:=HG.out;omega
    case rel=>exact ⟨i+1,F3,by omega,rfl,by go_num,HM3.out,gg⟩
   by_cases hk2:k=2
   ·have hk:=hk2
    clear hk2
    have hk1:¬ (2:Int)=1:=by decide
    subst hk
    have HT2:Hid (ofM (osOf (x.take (i+1)))=Z0J (ofM (osOf (x.take i))) r s):=hid HT.out
    go_wp2_with (go_at_call 64;refine Hid.out ?_)
    refine hid ?_
    refine (Z8A w.heap.size Ar As r.length cr s.length cs r s _ F' (ofM (osOf (x.take i))) (HM.out.below Y.out) rfl rfl (PR.out.ext Y.out) (PS.out.ext Y.out) (by have:=SO.out.1;omega) (by have:=SO.out.2.1;omega) (by have:=MB.out.len;omega) (fun o ho=>by obtain ⟨h1,h2,h3⟩:=MB.out.prt o (List.mem_append_right _ ho);exact ⟨by omega,by omega⟩)).mono ?_
    rintro e w3 ⟨rfl,F3,hm3,g3⟩
    have gg:=gr.trans ((Grow.of Y.out).trans g3)
    rw [←HT2.out] at hm3
    have HM3:=hid hm3
    clear hm3
    go_wp2_with (fail)
    go_roundg (n-(i+1))
    case measure=>have:=HG.out;omega
    case rel=>exact ⟨i+1,F3,by omega,rfl,by go_num,HM3.out,gg⟩
   ·have HT2:Hid (ofM (osOf (x.take (i+1)))=Z2u (ofM (osOf (x.take i))) nn):=hid (HT.out.trans (by unfold tellO;rw [if_neg hk,if_neg hk2]))
    have hk':(k==1)=false:=beq_eq_false_iff_ne.2 hk
    have hk2':(k==2)=false:=beq_eq_false_iff_ne.2 hk2
    go_wp2_with (go_at_call 63;refine Hid.out ?_)
    refine hid ?_
    refine (Z8z w.heap.size nn _ F' (ofM (osOf (x.take i))) (HM.out.below Y.out)).mono ?_
    rintro e w3 ⟨rfl,F3,hm3,g3⟩
    have gg:=gr.trans ((Grow.of Y.out).trans g3)
    rw [←HT2.out] at hm3
    have HM3:=hid hm3
    clear hm3
    go_wp2_with (fail)
    go_roundg (n-(i+1))
    case measure=>have:=HG.out;omega
    case rel=>exact ⟨i+1,F3,by omega,rfl,by go_num,HM3.out,gg⟩
  ·have hin:i=n:=by omega
   subst hin
   have hlt':¬ (i:Int)<(i:Int):=by omega
   have hm:=HM.out
   rw [List.take_of_length_le (by rw [←N.out];exact Nat.le_refl _)] at hm
   have HMF:Hid (Mkr wr F' w.heap.size (ofM (osOf x))):=hid hm
   have BF:=hid (HB.out i)
   have EX:Hid (x.take i=x):=hid (List.take_of_length_le (by rw [←N.out];exact Nat.le_refl _))
   rw [EX.out] at BF
   have y34:=hid (Y1.out.trans (gr.below (B:=w.heap.size) hF Y1.out.size))
   clear hm gr
   go_wp2_with (go_at_call 68;refine Hid.out ?_)
   refine hid ?_
   refine (Y3W _ wr F' (ofM (osOf x)) HMF.out (by have:=BF.out.len;omega) (fun o ho=>by obtain ⟨h1,h2,h3⟩:=BF.out.gap.2 o ho;exact ⟨by omega,by omega,by omega⟩)).mono ?_
   intro e w5 hN
   have hN2:=hN.late y34.out
   obtain ⟨A2,c2,l2,rfl,hM⟩:=hN2
   go_wp2_with (fail)
   go_ret
   exact ⟨A2,c2,l2,rfl,hM⟩
theorem Z4S (A B:Option Addr) (n m c d:Nat) (l k:List Int) (w:World) (hn:n=l.length) (hm:m=k.length) (h1:Z11 w w.heap.size A l) (h2:Z11 w w.heap.size B k) (hb:n≤140737488355328) (hb2:m≤140737488355328) :
 Calls Tryz.prog 176 #[.slice A n c,.slice B m d] w fun e w'=>e=.returned (.bool (decide (l=k)))∧Below w.heap.size w w':=by
 have N:=hid hn
 have M:=hid hm
 generalize hR:decide (l=k)=R
 have HR:=hid hR
 clear hn hR hm
 by_cases hnm:(n:Int)=m
 ·have hnm':n=m:=by omega
  subst hnm'
  clear hnm
  go_enter Tryz.func176,Tryz.ntmps176
  go_wp2_with (fail)
  go_loopg [13] n (fun g iv wr => ∃ i:Nat,i≤n∧g=n-i∧iv=.int .i64 (i:Int)∧(∃ q,wr=w.drewN q)∧Hid (decide (l.drop i=k.drop i)=R))
  case atStart=>exact ⟨0,by omega,rfl,rfl,⟨0,rfl⟩,hid (by rw [List.drop_zero,List.drop_zero];exact HR.out)⟩
  case round=>
   obtain ⟨i,hi,hg,rfl,⟨q,rfl⟩,HI⟩:=hrel
   have HG:=hid hg
   clear hg HR
   by_cases hlt:i<n
   ·have hl1:i<l.length:=by have:=N.out;omega
    have hl2:i<k.length:=by have:=M.out;omega
    obtain ⟨ad,x,rfl,_,hd1,_,hc1⟩:=h1.el hl1
    obtain ⟨ad2,y,rfl,_,hd2,_,hc2⟩:=h2.el hl2
    have HI':Hid (decide (x::l.drop (i+1)=y::k.drop (i+1))=R):=hid (by rw [←HI.out,hd1,hd2])
    have r0:=hc1 0 _ rfl
    rw [Z0n,Nat.mul_one] at r0
    have s0:=hc2 0 _ rfl
    rw [Z0n,Nat.mul_one] at s0
    clear HI hd1 hd2 hc1 hc2
    by_cases hxy:x=y
    ·subst hxy
     go_wp2_with (go_quiet (fail))
     go_roundg (n-(i+1))
     case measure=>have:=HG.out;omega
     case rel=>exact ⟨i+1,by omega,rfl,by go_num,⟨_,rfl⟩,hid (by rw [←HI'.out];simp only [List.cons.injEq,true_and])⟩
    ·have HXY:=hid hxy
     have hne:(x==y)=false:=beq_eq_false_iff_ne.2 hxy
     clear hxy
     go_wp2_with (go_quiet (fail))
     go_ret
     exact ⟨Z0e (by rw [←HI'.out];exact (decide_eq_false fun e=>HXY.out (List.cons.inj e).1).symm),by rw [World.drewN_drewN];exact Z0m w _⟩
   ·go_wp2_with (fail)
    go_ret
    exact ⟨Z0e (by rw [←HI.out,List.drop_eq_nil_of_le (by have:=N.out;omega),List.drop_eq_nil_of_le (by have:=M.out;omega)];rfl),Z0m w _⟩
 ·have hne:((n:Int)==m)=false:=beq_eq_false_iff_ne.2 hnm
  go_enter Tryz.func176,Tryz.ntmps176
  go_wp2_with (fail)
  go_ret
  refine ⟨Z0e ?_,Below.refl _ _⟩
  rw [←HR.out]
  refine (decide_eq_false fun e=>?_).symm
  have h3:=N.out
  have h4:=M.out
  rw [e] at h3
  omega
def OpIn (w:World) (x:OpS):Prop:=
 Z11 w w.heap.size x.Ar x.o.r∧RdAt w w.heap.size x.As x.o.s∧RdCh w w.heap.size x.Ap x.o.p∧x.o.r.length≤140737488355328∧x.o.s.length≤140737488355328∧x.o.p.length≤140737488355328
theorem OpIn.ext {w w':World} {x:OpS} (h:OpIn w x) (y:Below w.heap.size w w'):OpIn w' x:=⟨h.1.ext y,h.2.1.ext y,h.2.2.1.ext y,h.2.2.2⟩
theorem Z8Y {w:World} {b:Nat} {t:TypeId} {c0 c1 c2 c3 c4:Value} (h:w.heap[b]? = some (.cells #[c0,c1,c2,c3,c4] t (0,0))) :
 w.cell? ⟨b,0,none⟩=some c0∧w.cell? ⟨b,1,none⟩=some c1∧w.cell? ⟨b,2,none⟩=some c2∧w.cell? ⟨b,3,none⟩=some c3∧w.cell? ⟨b,4,none⟩=some c4:=by
 simp [World.cell?,h]
def OpS.val (x:OpS):Value:=.agg #[.int .u8 x.o.k,.int .i64 x.o.n,.slice x.Ar x.o.r.length x.cr,.slice x.As x.o.s.length x.cs,.slice x.Ap x.o.p.length x.cp]
theorem Z97 (x z:OpS) (w:World) (h1:OpIn w x) (h2:OpIn w z) :
 Calls Tryz.prog 175 #[x.val,z.val] w fun e w'=>e=.returned (.bool (decide (x.o=z.o)))∧Below w.heap.size w w':=by
 obtain ⟨⟨k,nn,r,s,p⟩,Ar,cr,As,cs,Ap,cp⟩:=x
 obtain ⟨⟨k',nn',r',s',p'⟩,Ar',cr',As',cs',Ap',cp'⟩:=z
 have y1:=Z0b w (.cells #[.int .u8 k,.int .i64 nn,.slice Ar r.length cr,.slice As s.length cs,.slice Ap p.length cp] 36)
 have y2:=Z0b (w.alloc (.cells #[.int .u8 k,.int .i64 nn,.slice Ar r.length cr,.slice As s.length cs,.slice Ap p.length cp] 36)) (.cells #[.int .u8 k',.int .i64 nn',.slice Ar' r'.length cr',.slice As' s'.length cs',.slice Ap' p'.length cp'] 36)
 have yy:=Z0a y1 y2
 have HB1:=hid ((y2.block w.heap.size (by simp)).trans (heap_alloc_new w (.cells #[.int .u8 k,.int .i64 nn,.slice Ar r.length cr,.slice As s.length cs,.slice Ap p.length cp] 36)))
 have hb2:=heap_alloc_new (w.alloc (.cells #[.int .u8 k,.int .i64 nn,.slice Ar r.length cr,.slice As s.length cs,.slice Ap p.length cp] 36)) (.cells #[.int .u8 k',.int .i64 nn',.slice Ar' r'.length cr',.slice As' s'.length cs',.slice Ap' p'.length cp'] 36)
 rw [World.size_alloc] at hb2
 have HB2:=hid hb2
 obtain ⟨a0,a1,a2,a3,a4⟩:=Z8Y HB1.out
 have Q1:=hid (h1.ext yy)
 have Q2:=hid (h2.ext yy)
 have YY:=hid yy
 clear y1 y2 h1 h2 hb2 yy
 simp only [OpS.val]
 generalize hR:decide ((⟨k,nn,r,s,p⟩:Opd)=⟨k',nn',r',s',p'⟩)=R
 have HR:=hid hR
 clear hR
 by_cases hk:k=k'
 ·subst hk
  by_cases hn:nn=nn'
  ·subst hn
   cases hr:decide (r=r') with
   | false=>
     have hne:R=false:=by rw [←HR.out];exact decide_eq_false (fun e=>absurd (Opd.mk.inj e).2.2.1 (of_decide_eq_false hr))
     subst hne
     have H:=hid hr
     clear hr
     go_enter Tryz.func175,Tryz.ntmps175
     go_wp2_with (go_at_call 176;refine (Z4S Ar Ar' r.length r'.length cr cr' r r' _ rfl rfl Q1.out.1 Q2.out.1 Q1.out.2.2.2.1 Q2.out.2.2.2.1).mono ?_;rintro e w1 ⟨rfl,y1⟩;rw [H.out])
     go_ret
     exact ⟨rfl,Z0a YY.out y1⟩
   | true=>
     have er:r=r':=of_decide_eq_true hr
     subst er
     clear hr
     cases hs:decide (s=s') with
     | false=>
       have hne:R=false:=by rw [←HR.out];exact decide_eq_false (fun e=>absurd (Opd.mk.inj e).2.2.2.1 (of_decide_eq_false hs))
       subst hne
       have H:=hid hs
       clear hs
       go_enter Tryz.func175,Tryz.ntmps175
       go_wp2_with (go_at_call 176;refine Hid.out ?_)
       refine hid ?_
       refine (Z4S Ar Ar' r.length r.length cr cr' r r _ rfl rfl Q1.out.1 Q2.out.1 Q1.out.2.2.2.1 Q2.out.2.2.2.1).mono ?_
       rintro e w1 ⟨rfl,y1⟩
       rw [decide_eq_true (rfl:r=r)]
       have b2:=hid ((y1.block w.heap.size (Z0c HB1.out)).trans HB1.out)
       have b3:=hid ((y1.block (w.heap.size+1) (Z0c HB2.out)).trans HB2.out)
       obtain ⟨d0,d1,d2,d3,d4⟩:=Z8Y b2.out
       obtain ⟨f0,f1,f2,f3,f4⟩:=Z8Y b3.out
       have P1:=hid (Q1.out.ext y1)
       have P2:=hid (Q2.out.ext y1)
       have YZ:=hid (Z0a YY.out y1)
       go_wp2_with (go_at_call 73;refine Hid.out ?_)
       refine hid ?_
       refine (Z1G As As' s.length s'.length cs cs' s s' _ rfl rfl P1.out.2.1 P2.out.2.1 P1.out.2.2.2.2.1 P2.out.2.2.2.2.1).mono ?_
       rintro e w2 ⟨rfl,q,rfl⟩
       rw [H.out]
       go_wp2_with (fail)
       go_ret
       exact ⟨rfl,Z0C YZ.out q⟩
     | true=>
       have es:s=s':=of_decide_eq_true hs
       subst es
       clear hs
       have hp:R=decide (p=p'):=by
        rw [←HR.out]
        by_cases h:p=p'
        ·subst h;simp
        ·rw [decide_eq_false h];exact decide_eq_false (fun e=>h (Opd.mk.inj e).2.2.2.2)
       have HP:=hid hp
       clear hp HR
       go_enter Tryz.func175,Tryz.ntmps175
       go_wp2_with (go_at_call 176;refine Hid.out ?_)
       refine hid ?_
       refine (Z4S Ar Ar' r.length r.length cr cr' r r _ rfl rfl Q1.out.1 Q2.out.1 Q1.out.2.2.2.1 Q2.out.2.2.2.1).mono ?_
       rintro e w1 ⟨rfl,y1⟩
       rw [decide_eq_true (rfl:r=r)]
       have b2:=hid ((y1.block w.heap.size (Z0c HB1.out)).trans HB1.out)
       have b3:=hid ((y1.block (w.heap.size+1) (Z0c HB2.out)).trans HB2.out)
       obtain ⟨d0,d1,d2,d3,d4⟩:=Z8Y b2.out
       obtain ⟨f0,f1,f2,f3,f4⟩:=Z8Y b3.out
       have P1:=hid (Q1.out.ext y1)
       have P2:=hid (Q2.out.ext y1)
       have YZ:=hid (Z0a YY.out y1)
       go_wp2_with (go_at_call 73;refine Hid.out ?_)
       refine hid ?_
       refine (Z1G As As' s.length s.length cs cs' s s _ rfl rfl P1.out.2.1 P2.out.2.1 P1.out.2.2.2.2.1 P2.out.2.2.2.2.1).mono ?_
       rintro e w2 ⟨rfl,q,rfl⟩
       rw [decide_eq_true (rfl:s=s)]
       go_wp2_with (go_at_call 141;refine Hid.out ?_)
       refine hid ?_
       refine (Z5P Ap Ap' p.length p'.length cp cp' p p' (w1.drewN q) rfl rfl (P1.out.2.2.1.drewN q) (P2.out.2.2.1.drewN q) P1.out.2.2.2.2.2 P2.out.2.2.2.2.2).mono ?_
       rintro e w3 ⟨rfl,q2,rfl⟩
       rw [←HP.out]
       cases R
       all_goals
        go_wp2_with (fail)
        go_ret
        exact ⟨rfl,Z0C YZ.out (q+q2)⟩
  ·have hne:R=false:=by rw [←HR.out];exact decide_eq_false (fun e=>hn (Opd.mk.inj e).2.1)
   subst hne
   have hnn:(nn==nn')=false:=beq_eq_false_iff_ne.2 hn
   clear hn
   go_enter Tryz.func175,Tryz.ntmps175
   go_wp2_with (fail)
   go_ret
   exact ⟨rfl,YY.out⟩
 ·have hne:R=false:=by rw [←HR.out];exact decide_eq_false (fun e=>hk (Opd.mk.inj e).1)
  subst hne
  have hkk:(k==k')=false:=beq_eq_false_iff_ne.2 hk
  clear hk
  go_enter Tryz.func175,Tryz.ntmps175
  go_wp2_with (fail)
  go_ret
  exact ⟨rfl,YY.out⟩
theorem Z98 (A B:Option Addr) (n m c d:Nat) (l k:List OpS) (w:World) (hn:n=l.length) (hm:m=k.length) (h1:RdOp w w.heap.size A l) (h2:RdOp w w.heap.size B k) (hb:n≤100000000) (hb2:m≤100000000)
 (hs1:∀ x∈l,x.o.r.length≤140737488355328∧x.o.s.length≤140737488355328∧x.o.p.length≤140737488355328) (hs2:∀ x∈k,x.o.r.length≤140737488355328∧x.o.s.length≤140737488355328∧x.o.p.length≤140737488355328) :
 Calls Tryz.prog 174 #[.slice A n c,.slice B m d,.func (.func 175) #[] #[]] w fun e w'=>e=.returned (.bool (decide (osOf l=osOf k)))∧Below w.heap.size w w':=by
 have N:=hid hn
 have M:=hid hm
 have H1:=hid h1
 have H2:=hid h2
 have S1:=hid hs1
 have S2:=hid hs2
 generalize hR:decide (osOf l=osOf k)=R
 have HR:=hid hR
 clear hn hR hm h1 h2 hs1 hs2
 have HL:Hid (∀ x:List OpS,(osOf x).length=x.length):=hid (fun x=>by unfold osOf;simp)
 by_cases hnm:(n:Int)=m
 ·have hnm':n=m:=by omega
  subst hnm'
  clear hnm
  go_enter Tryz.func174,Tryz.ntmps174
  go_wp2_with (fail)
  go_loopg [17] n (fun g iv wr => ∃ i:Nat,i≤n∧g=n-i∧iv=.int .i64 (i:Int)∧Below w.heap.size w wr∧Hid (decide (osOf (l.drop i)=osOf (k.drop i))=R))
  case atStart=>exact ⟨0,by omega,rfl,rfl,Below.refl _ _,hid (by rw [List.drop_zero,List.drop_zero];exact HR.out)⟩
  case round=>
   obtain ⟨i,hi,hg,rfl,y,HI⟩:=hrel
   have HG:=hid hg
   clear hg HR
   by_cases hlt:i<n
   ·have hl1:i<l.length:=by have:=N.out;omega
    have hl2:i<k.length:=by have:=M.out;omega
    obtain ⟨ad,x,rfl,_,hd1,hx1,hc1⟩:=(H1.out.ext y).1.el hl1
    obtain ⟨ad2,x',rfl,had2,hd2,hx2,hc2⟩:=(H2.out.ext y).1.el hl2
    have hm1:=List.mem_of_getElem? hx1
    have hm2:=List.mem_of_getElem? hx2
    have p1:=hid (show OpIn w x from ⟨(H1.out.2 x hm1).1,(H1.out.2 x hm1).2.1,(H1.out.2 x hm1).2.2,S1.out x hm1⟩)
    have p2:=hid (show OpIn w x' from ⟨(H2.out.2 x' hm2).1,(H2.out.2 x' hm2).2.1,(H2.out.2 x' hm2).2.2,S2.out x' hm2⟩)
    have HI':Hid (decide (x.o::osOf (l.drop (i+1))=x'.o::osOf (k.drop (i+1)))=R):=hid (by rw [←HI.out,hd1,hd2];rfl)
    clear HI hd1 hd2 hx1 hx2 hm1 hm2
    obtain ⟨⟨k1,n1,r1,s1,q1⟩,Ar1,cr1,As1,cs1,Ap1,cp1⟩:=x
    obtain ⟨⟨k2,n2,r2,s2,q2⟩,Ar2,cr2,As2,cs2,Ap2,cp2⟩:=x'
    obtain ⟨z0,z1,z2,z3,z4⟩:=Z0r hc1
    have ya:=Z0b wr (.cells #[.int .u8 k1,.int .i64 n1,.slice Ar1 r1.length cr1,.slice As1 s1.length cs1,.slice Ap1 q1.length cp1] 36)
    obtain ⟨u0,u1,u2,u3,u4⟩:=Z0r (hc2.keep (w':=wr.alloc (.cells #[.int .u8 k1,.int .i64 n1,.slice Ar1 r1.length cr1,.slice As1 s1.length cs1,.slice Ap1 q1.length cp1] 36)) fun q hq=>ya.cell (by rw [hq,Z0R];exact had2))
    clear hc1 hc2 hl1 hl2 had2
    have yb:=Z0b (wr.alloc (.cells #[.int .u8 k1,.int .i64 n1,.slice Ar1 r1.length cr1,.slice As1 s1.length cs1,.slice Ap1 q1.length cp1] 36)) (.cells #[.int .u8 k2,.int .i64 n2,.slice Ar2 r2.length cr2,.slice As2 s2.length cs2,.slice Ap2 q2.length cp2] 36)
    have y3:=hid (Z0a y (Z0a ya yb))
    clear ya yb
    go_wp2_with (go_at_call 175;refine Hid.out ?_)
    refine hid ?_
    refine (Z97 ⟨⟨k1,n1,r1,s1,q1⟩,Ar1,cr1,As1,cs1,Ap1,cp1⟩ ⟨⟨k2,n2,r2,s2,q2⟩,Ar2,cr2,As2,cs2,Ap2,cp2⟩ _ (p1.out.ext y3.out) (p2.out.ext y3.out)).mono ?_
    rintro e w' ⟨he,y4⟩
    simp only at he
    subst he
    have yy:=Z0a y3.out y4
    have hw2:IntKind.i64.wrap ((i:Int)+1)=(i:Int)+1:=IntWalk.i64_in _ (by omega)
    by_cases hxy:(⟨k1,n1,r1,s1,q1⟩:Opd)=⟨k2,n2,r2,s2,q2⟩
    ·have HXY:=hid hxy
     rw [decide_eq_true hxy]
     clear hxy
     go_wp2_with (fail)
     go_roundg (n-(i+1))
     case measure=>have:=HG.out;omega
     case rel=>exact ⟨i+1,by omega,rfl,by go_num,yy,hid (by rw [←HI'.out];simp only [List.cons.injEq,HXY.out,true_and])⟩
    ·have HXY:=hid hxy
     rw [decide_eq_false hxy]
     clear hxy
     go_wp2_with (fail)
     go_ret
     exact ⟨Z0e (by rw [←HI'.out];exact (decide_eq_false fun e=>HXY.out (List.cons.inj e).1).symm),yy⟩
   ·go_wp2_with (fail)
    go_ret
    exact ⟨Z0e (by rw [←HI.out,List.drop_eq_nil_of_le (by have:=N.out;omega),List.drop_eq_nil_of_le (by have:=M.out;omega)];rfl),y⟩
 ·have hne:((n:Int)==m)=false:=beq_eq_false_iff_ne.2 hnm
  go_enter Tryz.func174,Tryz.ntmps174
  go_wp2_with (fail)
  go_ret
  refine ⟨Z0e ?_,Below.refl _ _⟩
  rw [←HR.out]
  refine (decide_eq_false fun e=>?_).symm
  have h3:=N.out
  have h4:=M.out
  have h5:=congrArg List.length e
  rw [HL.out,HL.out] at h5
  omega
theorem Z99 (A B:Option Addr) (n m c d:Nat) (l k:List OpS) (w:World) (hn:n=l.length) (hm:m=k.length) (h1:RdOp w w.heap.size A l) (h2:RdOp w w.heap.size B k) (hb:n≤100000000) (hb2:m≤100000000)
 (hs1:∀ x∈l,x.o.r.length≤140737488355328∧x.o.s.length≤140737488355328∧x.o.p.length≤140737488355328) (hs2:∀ x∈k,x.o.r.length≤140737488355328∧x.o.s.length≤140737488355328∧x.o.p.length≤140737488355328) :
 Calls Tryz.prog 89 #[.slice A n c,.slice B m d] w fun e w'=>e=.returned (.bool (decide (osOf l=osOf k)))∧Below w.heap.size w w':=by
 have H:=hid (Z98 A B n m c d l k w hn hm h1 h2 hb hb2 hs1 hs2)
 clear hn hm h1 h2 hs1 hs2
 generalize decide (osOf l=osOf k)=R at *
 go_enter Tryz.func89,Tryz.ntmps89
 go_wp2_with (go_at_call 174;refine Hid.out ?_)
 refine hid ?_
 refine H.out.mono ?_
 rintro e w' ⟨rfl,y⟩
 go_wp2_with (fail)
 go_ret
 exact ⟨rfl,y⟩
theorem sameO {w:World} {A B:Option Addr} {n c n2 c2:Nat} {x z:List OpS} (h1:OpsAt w A n x) (h2:OpsAt w B n2 z) {b:Bool} (hb:decide (osOf x=osOf z)=b) :
 Calls Tryz.prog 89 #[.slice A n c,.slice B n2 c2] w fun e w'=>e=.returned (.bool b)∧Below w.heap.size w w':=by
 have h:=Z99 A B n n2 c c2 x z w h1.len h2.len h1.rd h2.rd (by have:=h1.b;omega) (by have:=h2.b;omega) (fun o ho=>by obtain ⟨_,_,a,b,c⟩:=h1.ok o ho;omega) (fun o ho=>by obtain ⟨_,_,a,b,c⟩:=h2.ok o ho;omega)
 rw [hb] at h
 exact h
theorem Y7y {w:World} {A:Option Addr} {n c:Nat} {x:List OpS} (h:OpsAt w A n x) (hi:∀ o∈x,isOp o.o) (hz:szN x≤400000) (hs:∀ o∈x,o.o.s.length≤1000000∧o.o.p.length≤1000000) (hl:(Z0i (osOf x)).length≤4000000000) :
 Calls Tryz.prog 26 #[.slice A n c] w (Y8B (mkU (Z0i (osOf x))) w):=by
 have ht:=Z5A (osOf x) (fun o ho=>by obtain ⟨z,hz,rfl⟩:=List.mem_map.1 ho;exact hi z hz) hl
 rw [←Z4r ht]
 refine (Z32 A n c x w h.len h.rd (by omega) hs).mono fun e w' hN=>hN.op ht (fun u hu=>?_) (Z3M x hs) (by omega) (by omega)
 obtain ⟨o,ho,hu⟩:=Z1t.1 hu
 exact Z6r (h.ok o ho) u hu
theorem Z7e {w:World} {A:Option Addr} {n c:Nat} {x:List OpS} (h:OpsAt w A n x) (hi:∀ o∈x,isOp o.o) (hz:szN x≤400000) (hs:∀ o∈x,o.o.s.length≤1000000∧o.o.p.length≤1000000) (hl:(Z0i (osOf x)).length≤4000000000) {b:Bool} (hb:decide (mkU (Z0i (osOf x))=osOf x)=b) :
 Calls Tryz.prog 24 #[.slice A n c] w fun e w'=>e=.returned (.bool b)∧Below w.heap.size w w':=by
 have H:=hid h
 have HC:=hid (Y7y (c:=c) h hi hz hs hl)
 have HB:=hid hb
 clear h hi hz hs hl hb
 go_enter Tryz.func24,Tryz.ntmps24
 go_wp2_with (go_at_call 26;refine Hid.out ?_)
 refine hid ?_
 refine HC.out.mono ?_
 rintro e w1 ⟨A2,c2,z,rfl,ez,oz,y⟩
 have OZ:=hid oz
 have Y:=hid y
 have EZ:=hid ez
 clear oz y ez
 go_wp2_with (go_at_call 89;refine Hid.out ?_)
 refine hid ?_
 refine (sameO (b:=b) OZ.out (H.out.ext Y.out) (by rw [EZ.out];exact HB.out)).mono ?_
 rintro e w2 ⟨rfl,y2⟩
 have Y2:=hid (Z0a Y.out y2)
 clear y2
 go_wp2_with (fail)
 go_ret
 exact ⟨rfl,Y2.out⟩
end Go.Proofs.YtnmedachaeanbaaGreatDoor
