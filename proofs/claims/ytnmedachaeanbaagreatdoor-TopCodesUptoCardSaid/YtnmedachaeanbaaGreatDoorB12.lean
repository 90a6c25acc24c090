/- Merged texts. -/
import Derived.Test.YtnmedachaeanbaaGreatDoorB11
import Derived.Lib.AppendZeros
import Derived.Laws.CopyOwn
namespace Go.Proofs.YtnmedachaeanbaaGreatDoor
set_option maxRecDepth 100000
set_option maxHeartbeats 1600000
set_option linter.unusedVariables false
set_option linter.unusedSimpArgs false
structure Mk where
 done:List Opd
 ins:List Opd
 gone:Int
def Mk.new:Mk:=⟨[],[],0⟩
def Z0Z (m:Mk):List Opd:=m.ins++(if 0<m.gone then [opD m.gone] else [])
def addR (d:List Opd) (n:Int) (p:List Ch):List Opd:=
 match d.getLast? with
 | some o=>if o.k=1∧o.p=p then d.dropLast++[{ o with n:=IntKind.i64.wrap (o.n+n) }] else d++[opR n p]
 | none=>d++[opR n p]
def Z0v (m:Mk) (n:Int) (p:List Ch):Mk:=if n<1 then m else ⟨addR (m.done++Z0Z m) n p,[],0⟩
def addI (d:List Opd) (l:List Int) (s:List At):List Opd:=
 match d.getLast? with
 | some o=>if o.s=s then d.dropLast++[{ o with r:=o.r++l }] else d++[opI l s]
 | none=>d++[opI l s]
def Z0J (m:Mk) (l:List Int) (s:List At):Mk:=if l=[] then m else { m with ins:=addI m.ins l s }
def Z2u (m:Mk) (n:Int):Mk:={ m with gone:=IntKind.i64.wrap (m.gone+(if n<0 then 0 else n)) }
def cutR (d:List Opd):List Opd:=
 match d.getLast? with
 | some o=>if o.k=1∧o.p=[] then d.dropLast else d
 | none=>d
def Z1j (m:Mk):List Opd:=cutR (m.done++Z0Z m)
def trim:List Un→List Un
 | []=>[]
 | u::us=>match trim us with
   | []=>if u=.ret [] then [] else [u]
   | v::vs=>u::v::vs
theorem Z2v {u:Un} {us:List Un} (h:trim us≠[]∨u ≠ .ret []):trim (u::us)=u::trim us:=by
 rw [trim]
 cases ht:trim us with
 | nil=>
   rcases h with h|h
   ·exact absurd ht h
   ·simp only;rw [if_neg h]
 | cons v vs=>rfl
theorem Z3u {us:List Un} {u:Un} (h:u ≠ .ret []):trim (us++[u])=us++[u]:=by
 induction us with
 | nil=>show trim [u]=[u];rw [Z2v (.inr h)];rfl
 | cons a us ih=>show trim (a::(us++[u]))=_;rw [Z2v (.inl (by rw [ih];simp)),ih];rfl
theorem Z6a {us:List Un}:trim (us++[.ret []])=trim us:=by
 induction us with
 | nil=>rfl
 | cons a us ih=>show trim (a::(us++[.ret []]))=_;rw [trim,ih];rfl
theorem Y3g {us:List Un} (n:Nat):trim (us++List.replicate n (.ret []))=trim us:=by
 induction n with
 | zero=>simp
 | succ n ih=>rw [List.replicate_succ',←List.append_assoc,Z6a,ih]
theorem Z6b {us:List Un} (h:∀ u,us.getLast? = some u→u ≠ .ret []):trim us=us:=by
 rcases List.eq_nil_or_concat us with rfl | ⟨t,u,rfl⟩
 ·rfl
 ·rw [List.concat_eq_append] at h ⊢
  exact Z3u (h u (by simp))
theorem Z1S {x y:List Opd} (hx:Z1q x) (hy:Z1q y) (h:∀ a b t,x.getLast? = some a→y=b::t→Z0o a b=false):Z1q (x++y):=by
 induction x with
 | nil=>exact hy
 | cons a x ih=>
   obtain ⟨h1,h2,h3⟩:=hx
   refine ⟨h1,?_,ih h3 (fun c b t hc hb=>h c b t ?_ hb)⟩
   ·cases x with
    | nil=>
      cases y with
      | nil=>trivial
      | cons b t=>exact h a b t rfl rfl
    | cons c x=>exact h2
   ·cases x with
    | nil=>cases hc
    | cons d x=>simpa using hc
theorem Z6c {x y:List Opd} (h:Z1q (x++y)):Z1q x:=by
 induction x with
 | nil=>trivial
 | cons a x ih=>
   obtain ⟨h1,h2,h3⟩:=h
   refine ⟨h1,?_,ih h3⟩
   cases x with
   | nil=>trivial
   | cons b x=>exact h2
theorem Z4i {x:List Opd} (h:Z1q x):∀ o∈x,isOp o:=by
 induction x with
 | nil=>intro o ho;cases ho
 | cons a x ih=>
   intro o ho
   rcases List.mem_cons.1 ho with rfl|ho
   ·exact h.1
   ·exact ih h.2.2 o ho
theorem Z5a {x:List Opd} {a b:Opd} (h:Z1q (x++[a])) (hb:isOp b) (hm:∀ c,Z0o c a=false→Z0o c b=false):Z1q (x++[b]):=by
 refine Z1S (Z6c h) ⟨hb,trivial,trivial⟩ (fun c d t hc hd=>?_)
 injection hd with hd _
 subst hd
 refine hm c ?_
 clear hm hb
 induction x with
 | nil=>cases hc
 | cons e x ih=>
   obtain ⟨h1,h2,h3⟩:=h
   cases x with
   | nil=>simp at hc;subst hc;exact h2
   | cons f x=>exact ih h3 (by simpa using hc)
theorem Z4I {x:List Opd} {o:Opd} (h:x.getLast? = some o):x=x.dropLast++[o]:=by
 rcases List.eq_nil_or_concat x with rfl | ⟨t,u,rfl⟩
 ·cases h
 ·rw [List.concat_eq_append] at h ⊢
  simp at h
  subst h
  simp
theorem Z7K {n:Int} {p:List Ch} (h:1≤n):isOp (opR n p):=.inr (.inr ⟨rfl,h,rfl,rfl⟩)
theorem Y5c {n:Int} (h:1≤n):isOp (opD n):=.inr (.inl ⟨rfl,h,rfl,rfl,rfl⟩)
theorem Z7L {l:List Int} {s:List At} (h:l≠[]):isOp (opI l s):=.inl ⟨rfl,rfl,h,rfl⟩
theorem Z1F (n:Int) (p:List Ch):Z0l (opR n p)=List.replicate n.toNat (.ret p):=rfl
theorem Z3K (n:Int):Z0l (opD n)=List.replicate n.toNat .del:=rfl
theorem Z1P (l:List Int) (s:List At):Z0l (opI l s)=l.map (fun r=>Un.ins r s):=rfl
theorem Z02 (o:Opd):Z0i [o]=Z0l o:=by simp [Z0i]
theorem Z8y {x:List Opd} (h:Z1q x) {o:Opd} (ho:o∈x) (hk:o.k≠2):o.n≤(Z0i x).length:=by
 induction x with
 | nil=>cases ho
 | cons a x ih=>
   rw [Z1e,List.length_append]
   rcases List.mem_cons.1 ho with rfl|hm
   ·have:(Z0l o).length=o.n.toNat:=by
     unfold Z0l
     rw [if_neg hk]
     split<;>simp
    have:=h.1
    rcases this with h1|h1|h1<;>omega
   ·have:=ih h.2.2 hm;omega
theorem Y7b {d:List Opd} {n:Int} {p:List Ch} (hd:Z1q d) (hn:1≤n) (hb:(Z0i d).length+n≤4611686018427387904) :
 Z1q (addR d n p)∧Z0i (addR d n p)=Z0i d++List.replicate n.toNat (.ret p)∧(∃ o,(addR d n p).getLast? = some o∧o.k=1):=by
 unfold addR
 cases hl:d.getLast? with
 | none=>
   have:d=[]:=by simpa using hl
   subst this
   refine ⟨⟨Z7K hn,trivial,trivial⟩,?_,opR n p,rfl,rfl⟩
   simp [Z02,Z58,Z1F]
 | some o=>
   have e:=Z4I hl
   have hmem:o∈d:=by rw [e];simp
   have hop:=Z4i hd o hmem
   simp only
   by_cases hc:o.k=1∧o.p=p
   ·rw [if_pos hc]
    obtain ⟨e1,h1⟩:=Z2t hop hc.1
    have hge:=Z8y hd hmem (by rw [hc.1];decide)
    have hw:IntKind.i64.wrap (o.n+n)=o.n+n:=IntWalk.i64_in _ (by omega)
    have e2:({ o with n:=IntKind.i64.wrap (o.n+n) }:Opd)=opR (o.n+n) p:=by rw [hw,e1,hc.2];rfl
    rw [e2]
    rw [e1,hc.2] at e
    refine ⟨Z5a (a:=opR o.n p) (by rw [←e];exact hd) (Z7K (by omega)) (fun c h=>h),?_,opR (o.n+n) p,by simp,rfl⟩
    rw [Z0M,Z02,Z1F]
    have:Z0i d=Z0i d.dropLast++List.replicate o.n.toNat (.ret p):=by
     conv=>lhs;rw [e]
     rw [Z0M,Z02,Z1F]
    rw [this,List.append_assoc,List.replicate_append_replicate]
    congr 2
    omega
   ·rw [if_neg hc]
    refine ⟨Z1S hd ⟨Z7K hn,trivial,trivial⟩ (fun a b t ha hb=>?_),by rw [Z0M,Z02,Z1F],opR n p,by simp,rfl⟩
    injection hb with hb _
    subst hb
    rw [hl] at ha;injection ha with ha;subst ha
    cases hm:Z0o o (opR n p) with
    | false=>rfl
    | true=>
      exfalso
      refine hc ?_
      simp [Z0o,opR] at hm
      exact ⟨hm.1,of_decide_eq_true hm.2⟩
theorem Y7c {d:List Opd} {l:List Int} {s:List At} (hd:Z1q d) (h2:∀ o∈d,o.k=2) (hl:l≠[]) :
 Z1q (addI d l s)∧(∀ o∈addI d l s,o.k=2)∧Z0i (addI d l s)=Z0i d++l.map (fun r=>Un.ins r s):=by
 unfold addI
 cases hg:d.getLast? with
 | none=>
   have:d=[]:=by simpa using hg
   subst this
   exact ⟨⟨Z7L hl,trivial,trivial⟩,by intro o ho;simp at ho;subst ho;rfl,by simp [Z02,Z58,Z1P]⟩
 | some o=>
   have e:=Z4I hg
   have hmem:o∈d:=by rw [e];simp
   have hop:=Z4i hd o hmem
   have hk:=h2 o hmem
   obtain ⟨e1,h1⟩:=Z10 hop hk
   simp only
   by_cases hc:o.s=s
   ·rw [if_pos hc]
    have e2:({ o with r:=o.r++l }:Opd)=opI (o.r++l) s:=by rw [e1,hc];rfl
    rw [e2]
    rw [e1,hc] at e
    refine ⟨Z5a (a:=opI o.r s) (by rw [←e];exact hd) (Z7L (by simp [hl])) (fun c h=>h),fun x hx=>?_,?_⟩
    ·rcases List.mem_append.1 hx with hx|hx
     ·exact h2 x ((List.dropLast_sublist _).subset hx)
     ·simp at hx;subst hx;rfl
    ·rw [Z0M,Z02,Z1P]
     have:Z0i d=Z0i d.dropLast++o.r.map (fun r=>Un.ins r s):=by
      conv=>lhs;rw [e]
      rw [Z0M,Z02,Z1P]
     rw [this,List.append_assoc,List.map_append]
   ·rw [if_neg hc]
    refine ⟨Z1S hd ⟨Z7L hl,trivial,trivial⟩ (fun a b t ha hb=>?_),fun x hx=>?_,by rw [Z0M,Z02,Z1P]⟩
    ·injection hb with hb _
     subst hb
     rw [hg] at ha;injection ha with ha;subst ha
     cases hm:Z0o o (opI l s) with
     | false=>rfl
     | true=>
       exfalso
       refine hc ?_
       simp [Z0o,opI] at hm
       exact of_decide_eq_true hm.2
    ·rcases List.mem_append.1 hx with hx|hx
     ·exact h2 x hx
     ·simp at hx;subst hx;rfl
structure MkAt (m:Mk) (K:List Un) (I:List Un) (g:Nat):Prop where
 d1:Z1q m.done
 d2:Z0i m.done=K
 d3:∀ o,m.done.getLast? = some o→o.k=1
 i1:Z1q m.ins
 i2:Z0i m.ins=I
 i3:∀ o∈m.ins,o.k=2
 g1:m.gone=g
theorem MkAt.new:MkAt Mk.new [] [] 0:=⟨trivial,rfl,(by intro o h;cases h),trivial,rfl,(by intro o h;cases h),rfl⟩
theorem Z6d {a b:Opd} (h:a.k≠b.k):Z0o a b=false:=by
 cases hm:Z0o a b with
 | false=>rfl
 | true=>
   exfalso;apply h
   simp [Z0o] at hm
   rcases hm with (⟨⟨h1,h2⟩,_⟩ | ⟨h1,h2⟩) | ⟨⟨h1,h2⟩,_⟩<;>rw [h1,h2]
theorem MkAt.all {m:Mk} {K I:List Un} {g:Nat} (h:MkAt m K I g):Z1q (m.done++Z0Z m)∧Z0i (m.done++Z0Z m)=K++I++List.replicate g .del:=by
 have hgap:Z1q (Z0Z m)∧Z0i (Z0Z m)=I++List.replicate g .del∧∀ b t,Z0Z m=b::t→b.k≠1:=by
  unfold Z0Z
  by_cases hg:0<m.gone
  ·rw [if_pos hg]
   refine ⟨Z1S h.i1 ⟨Y5c (by omega),trivial,trivial⟩ (fun a b t ha hb=>?_),?_,fun b t hb=>?_⟩
   ·injection hb with hb _;subst hb
    exact Z6d (by rw [h.i3 a (List.mem_of_getLast? ha)];exact (show (2:Int)≠3 by decide))
   ·rw [Z0M,Z02,Z3K,h.i2,h.g1];simp
   ·cases hi:m.ins with
    | nil=>rw [hi] at hb;injection hb with hb _;subst hb;exact (show (3:Int)≠1 by decide)
    | cons c x=>
      rw [hi] at hb;injection hb with hb _;subst hb
      rw [h.i3 c (by rw [hi];simp)];decide
  ·rw [if_neg hg]
   have hg0:g=0:=by have:=h.g1;omega
   subst hg0
   refine ⟨by rw [List.append_nil];exact h.i1,by rw [List.append_nil,h.i2];simp,fun b t hb=>?_⟩
   rw [List.append_nil] at hb
   rw [h.i3 b (by rw [hb];simp)];decide
 obtain ⟨h1,h2,h3⟩:=hgap
 refine ⟨Z1S h.d1 h1 (fun a b t ha hb=>Z6d (by rw [h.d3 a ha];exact fun e=>h3 b t hb e.symm)),by rw [Z0M,h.d2,h2,List.append_assoc]⟩
theorem MkAt.retain {m:Mk} {K I:List Un} {g:Nat} (h:MkAt m K I g) {n:Int} {p:List Ch} (hn:1≤n) (hb:(K.length+I.length+g:Nat)+n≤4611686018427387904) :
 MkAt (Z0v m n p) (K++I++List.replicate g .del++List.replicate n.toNat (.ret p)) [] 0:=by
 obtain ⟨h1,h2⟩:=h.all
 obtain ⟨g1,g2,o,g3,g4⟩:=Y7b (p:=p) h1 hn (by rw [h2];simp only [List.length_append,List.length_replicate];exact hb)
 unfold Z0v
 rw [if_neg (by omega)]
 refine ⟨g1,by rw [g2,h2],fun x hx=>?_,trivial,rfl,(by intro o ho;cases ho),rfl⟩
 rw [g3] at hx;injection hx with hx;subst hx;exact g4
theorem MkAt.retain0 {m:Mk} {K I:List Un} {g:Nat} (h:MkAt m K I g) {n:Int} {p:List Ch} (hn:n<1):MkAt (Z0v m n p) K I g:=by
 unfold Z0v;rw [if_pos hn];exact h
theorem MkAt.insert {m:Mk} {K I:List Un} {g:Nat} (h:MkAt m K I g) (l:List Int) (s:List At) :
 MkAt (Z0J m l s) K (I++l.map (fun r=>Un.ins r s)) g:=by
 unfold Z0J
 by_cases hl:l=[]
 ·rw [if_pos hl,hl];simpa using h
 ·rw [if_neg hl]
  obtain ⟨g1,g2,g3⟩:=Y7c (s:=s) h.i1 h.i3 hl
  exact ⟨h.d1,h.d2,h.d3,g1,by rw [g3,h.i2],g2,h.g1⟩
theorem MkAt.delete {m:Mk} {K I:List Un} {g:Nat} (h:MkAt m K I g) {n:Int} (hb:(g:Int)+n≤4611686018427387904) (hg:g≤4611686018427387904) :
 MkAt (Z2u m n) K I (g+n.toNat):=by
 refine ⟨h.d1,h.d2,h.d3,h.i1,h.i2,h.i3,?_⟩
 show IntKind.i64.wrap (m.gone+(if n<0 then 0 else n))=_
 rw [h.g1]
 have:(if n<0 then 0 else n)=(n.toNat:Int):=by split<;>omega
 rw [this,IntWalk.i64_in _ (by omega)]
 omega
theorem MkAt.ops {m:Mk} {K I:List Un} {g:Nat} (h:MkAt m K I g):Z1q (Z1j m)∧Z0i (Z1j m)=trim (K++I++List.replicate g .del):=by
 obtain ⟨h1,h2⟩:=h.all
 unfold Z1j cutR
 rw [←h2]
 generalize m.done++Z0Z m=x at *
 cases hl:x.getLast? with
 | none=>
   have:x=[]:=by simpa using hl
   subst this
   exact ⟨trivial,rfl⟩
 | some o=>
   have e:=Z4I hl
   have hop:=Z4i h1 o (by rw [e];simp)
   simp only
   have hT:Z1q (x.dropLast++[o]):=by rw [←e];exact h1
   by_cases hc:o.k=1∧o.p=[]
   ·rw [if_pos hc]
    obtain ⟨e1,hn⟩:=Z2t hop hc.1
    rw [hc.2] at e1
    refine ⟨Z6c hT,?_⟩
    have e2:Z0i x=Z0i x.dropLast++List.replicate o.n.toNat (.ret []):=by
     conv=>lhs;rw [e,e1]
     rw [Z0M,Z02,Z1F]
    rw [e2,Y3g]
    symm
    refine Z6b (fun u hu hr=>?_)
    subst hr
    -- the op ahead would be one with the last
    rcases List.eq_nil_or_concat x.dropLast with h0 | ⟨t,c,h0⟩
    ·rw [h0] at hu;cases hu
    ·rw [List.concat_eq_append] at h0
     rw [h0] at hu hT
     rw [Z0M,Z02] at hu
     have hc1:=Z4i hT c (by simp)
     have hcm:Z0o c o=false:=by
      have:∀ (t:List Opd),Z1q (t++[c]++[o])→Z0o c o=false:=by
       intro t
       induction t with
       | nil=>intro h;exact h.2.1
       | cons d t ih=>intro h;exact ih h.2.2
      exact this t hT
     rcases Z0H hc1 with hk|hk|hk
     ·obtain ⟨ec,hr⟩:=Z10 hc1 hk
      rw [ec,Z1P] at hu
      rcases List.eq_nil_or_concat c.r with h5 | ⟨q,z,h5⟩
      ·exact hr h5
      ·rw [h5,List.concat_eq_append,List.map_append] at hu
       simp at hu
     ·obtain ⟨ec,hr⟩:=Z3e hc1 hk
      rw [ec,Z3K] at hu
      obtain ⟨q,hq⟩:∃ q,c.n.toNat=q+1:=⟨c.n.toNat-1,by omega⟩
      rw [hq,List.replicate_succ'] at hu
      simp at hu
     ·obtain ⟨ec,hr⟩:=Z2t hc1 hk
      rw [ec,Z1F] at hu
      obtain ⟨q,hq⟩:∃ q,c.n.toNat=q+1:=⟨c.n.toNat-1,by omega⟩
      rw [hq,List.replicate_succ'] at hu
      simp at hu
      rw [ec,e1,hu] at hcm
      simp [Z0o,opR] at hcm
   ·rw [if_neg hc]
    refine ⟨h1,?_⟩
    symm
    refine Z6b (fun u hu hr=>?_)
    subst hr
    rw [e,Z0M,Z02] at hu
    rcases Z0H hop with hk|hk|hk
    ·obtain ⟨ec,hr⟩:=Z10 hop hk
     rw [ec,Z1P] at hu
     rcases List.eq_nil_or_concat o.r with h5 | ⟨q,z,h5⟩
     ·exact hr h5
     ·rw [h5,List.concat_eq_append,List.map_append] at hu
      simp at hu
    ·obtain ⟨ec,hr⟩:=Z3e hop hk
     rw [ec,Z3K] at hu
     obtain ⟨q,hq⟩:∃ q,o.n.toNat=q+1:=⟨o.n.toNat-1,by omega⟩
     rw [hq,List.replicate_succ'] at hu
     simp at hu
    ·obtain ⟨ec,hr⟩:=Z2t hop hk
     rw [ec,Z1F] at hu
     obtain ⟨q,hq⟩:∃ q,o.n.toNat=q+1:=⟨o.n.toNat-1,by omega⟩
     rw [hq,List.replicate_succ'] at hu
     simp at hu
     exact hc ⟨hk,hu⟩
open Go.RowKit
open Go.Lib (hid)
def PartF (w:World) (F:Nat→Prop) (x:OpS):Prop:=
 (Z11 w w.heap.size x.Ar x.o.r∧OffF F x.Ar x.o.r.length)∧(RdAt w w.heap.size x.As x.o.s∧OffF F x.As x.o.s.length)∧(RdCh w w.heap.size x.Ap x.o.p∧OffF F x.Ap x.o.p.length)
theorem PartF.grow {w w':World} {F G:Nat→Prop} {x:OpS} (h:PartF w F x) (g:Grow w F w' G):PartF w' G x:=
 ⟨⟨h.1.1.grow g h.1.2,h.1.2.grow h.1.1 g⟩,⟨h.2.1.1.grow g h.2.1.2,h.2.1.2.grow h.2.1.1 g⟩,⟨h.2.2.1.grow g h.2.2.2,h.2.2.2.grow h.2.2.1 g⟩⟩
def LastF (w:World) (F:Nat→Prop) (b:Nat) (vd vi:Value) (x:OpS):Prop:=
 Z3k w 0 (.slice x.Ar x.o.r.length x.cr) x.o.r∧(∀ k,wb (.slice x.Ar x.o.r.length x.cr)=some k→F k∧k≠b∧wb vd≠some k∧wb vi≠some k) ∧
 (RdAt w w.heap.size x.As x.o.s∧OffF F x.As x.o.s.length)∧(RdCh w w.heap.size x.Ap x.o.p∧OffF F x.Ap x.o.p.length)
def InsF (w:World) (F:Nat→Prop) (b:Nat) (vd vi:Value) (I:List OpS):Prop:=
 (∀ x∈I.dropLast,PartF w F x)∧∀ x,I.getLast? = some x→LastF w F b vd vi x
def Mkr (w:World) (F:Nat→Prop) (b:Nat) (m:Mk):Prop:=
 ∃ (vd vi:Value) (D I:List OpS),w.heap[b]? = some (.cells #[vd,vi,.int .i64 m.gone] 189 (0,0)) ∧
   OwOs w 0 vd D∧OwOs w 0 vi I∧osOf D=m.done∧osOf I=m.ins ∧
   (∀ k,F k→k<w.heap.size)∧F b∧(∀ k,wb vd=some k→F k∧k≠b∧wb vi≠some k)∧(∀ k,wb vi=some k→F k∧k≠b) ∧
   (∀ x∈D,PartF w F x)∧InsF w F b vd vi I
theorem Z0X {w:World} {b:Nat} {t:TypeId} {c0 c1 c2:Value} (h:w.heap[b]? = some (.cells #[c0,c1,c2] t (0,0))):w.cell? ⟨b,0,none⟩=some c0∧w.cell? ⟨b,1,none⟩=some c1∧w.cell? ⟨b,2,none⟩=some c2:=by
 simp [World.cell?,h]
theorem Mkr.below {w w':World} {F:Nat→Prop} {b:Nat} {m:Mk} (h:Mkr w F b m) (y:Below w.heap.size w w'):Mkr w' F b m:=by
 obtain ⟨vd,vi,D,I,h1,h2,h3,h4,h5,h6,h7,h8,h9,h10,h11,h12⟩:=h
 have g:=Grow.of (F:=F) y
 refine ⟨vd,vi,D,I,(y.block b (Z0c h1)).trans h1,h2.below y (Nat.le_refl _),h3.below y (Nat.le_refl _),h4,h5,fun k hk=>Nat.lt_of_lt_of_le (h6 k hk) y.size,h7,h8,h9,fun x hx=>(h10 x hx).grow g,fun x hx=>(h11 x hx).grow g,fun x hx=>?_⟩
 obtain ⟨e1,e2,e3,e4⟩:=h12 x hx
 exact ⟨e1.below y (Nat.le_refl _),e2,⟨e3.1.grow g e3.2,e3.2.grow e3.1 g⟩,⟨e4.1.grow g e4.2,e4.2.grow e4.1 g⟩⟩
theorem Y3h (w:World):Calls Tryz.prog 62 #[] w fun e w'=>e=.returned (.pointer (some ⟨w.heap.size,0,none⟩))∧Mkr w' (fun k=>k=w.heap.size) w.heap.size Mk.new∧Below w.heap.size w w':=by
 have y:=Z0b w (.cells #[.slice none 0 0,.slice none 0 0,.int .i64 0] 189)
 have hb:=heap_alloc_new w (.cells #[.slice none 0 0,.slice none 0 0,.int .i64 0] 189)
 have HB:=hid hb
 clear hb
 go_enter Tryz.func62,Tryz.ntmps62
 go_wp2_with (fail)
 go_ret
 refine ⟨rfl,⟨.slice none 0 0,.slice none 0 0,[],[],HB.out,Ow.nil _ _,Ow.nil _ _,rfl,rfl,fun k hk=>(by subst hk;simp),rfl,fun k hk=>(by cases hk),fun k hk=>(by cases hk),fun x hx=>(by cases hx),fun x hx=>(by cases hx),fun x hx=>(by cases hx)⟩,y⟩
theorem Z0t {w:World} (b j:Nat) (u:Value) {F:Nat→Prop} (hF:F b) (t:TypeId):Grow w F (w.setCell ⟨b,j,none⟩ u) F:=
 ⟨rfl,rfl,rfl,by simp [World.setCell],fun k _ hk=>Below.heap_setCell w ⟨b,j,none⟩ u k (fun e=>hk (e ▸ hF)),fun k h=>.inl h⟩
def Z5m (m:Mk) (w:World) (F:Nat→Prop) (b:Nat) (e:Ending) (w':World):Prop:=
 e=.returned (.tuple #[])∧∃ F',Mkr w' F' b m∧Grow w F w' F'
theorem Z2w {w:World} {v:Value} {l:List OpS} (h:OwOs w 0 v l) {b j:Nat} (hp:∀ k,wb v=some k→k≠b) (u:Value):OwOs (w.setCell ⟨b,j,none⟩ u) 0 v l:=
 h.setCell (p:=⟨b,j,none⟩) (fun e=>hp b e rfl) u
theorem Mkr.setGone {w:World} {F:Nat→Prop} {b:Nat} {m:Mk} (h:Mkr w F b m) (g:Int):Mkr (w.setCell ⟨b,2,none⟩ (.int .i64 g)) F b { m with gone:=g }:=by
 obtain ⟨vd,vi,D,I,h1,h2,h3,h4,h5,h6,h7,h8,h9,h10,h11,h12⟩:=h
 have gr:=Z0t (w:=w) b 2 (.int .i64 g) h7 0
 refine ⟨vd,vi,D,I,?_,Z2w h2 (fun k hk=>(h8 k hk).2.1) _,Z2w h3 (fun k hk=>(h9 k hk).2) _,h4,h5,fun k hk=>Nat.lt_of_lt_of_le (h6 k hk) gr.size,h7,h8,h9,fun x hx=>(h10 x hx).grow gr,fun x hx=>(h11 x hx).grow gr,fun x hx=>?_⟩
 ·rw [Z0d h1];rfl
 ·obtain ⟨e1,e2,e3,e4⟩:=h12 x hx
  exact ⟨e1.setCell (p:=⟨b,2,none⟩) (fun e=>(e2 b e).2.1 rfl) _,e2,⟨e3.1.grow gr e3.2,e3.2.grow e3.1 gr⟩,⟨e4.1.grow gr e4.2,e4.2.grow e4.1 gr⟩⟩
theorem Mkr.box {w:World} {F:Nat→Prop} {b:Nat} {m:Mk} (h:Mkr w F b m):∃ vd vi:Value,w.heap[b]? = some (.cells #[vd,vi,.int .i64 m.gone] 189 (0,0))∧F b:=by
 obtain ⟨vd,vi,_,_,h1,_,_,_,_,_,h7,_⟩:=h
 exact ⟨vd,vi,h1,h7⟩
theorem Z0h {w:World} {b:Nat} {cs:Array Value} {t:TypeId} (h:w.heap[b]? = some (.cells cs t (0,0))) (j:Nat):w.frozen? ⟨b,j,none⟩=false:=by simp [World.frozen?,h]
theorem Z8z (b:Nat) (n:Int) (w:World) (F:Nat→Prop) (m:Mk) (h:Mkr w F b m) :
 Calls Tryz.prog 63 #[.pointer (some ⟨b,0,none⟩),.int .i64 n] w (Z5m (Z2u m n) w F b):=by
 obtain ⟨vd,vi,h1,h7⟩:=h.box
 obtain ⟨W,hW⟩:∃ X,IntKind.i64.wrap (m.gone+(if n<0 then 0 else n))=X:=⟨_,rfl⟩
 have hs:=h.setGone W
 have hm:({ m with gone:=W }:Mk)=Z2u m n:=by unfold Z2u;rw [hW]
 rw [hm] at hs
 have gr:=Z0t (w:=w) b 2 (.int .i64 W) h7 0
 have HS:=hid hs
 have HW:=hid hW
 obtain ⟨c0,c1,c2⟩:=Z0X h1
 have hf:=Z0h h1 2
 have hlt:=Z0c h1
 generalize hg:m.gone=g at *
 clear hm hs hW h1 h
 have e:Hid (wrap64 (g+max n 0)=W):=hid (by
  have e0:g+max n 0=g+(if n<0 then 0 else n):=by split<;>omega
  rw [e0,←HW.out,IntWalk.i64_left])
 go_enter Tryz.func63,Tryz.ntmps63
 go_wp2_with (fail)
 refine bodyPost_ret (results_none rfl _ _ _) rfl ?_
 rw [e.out]
 exact ⟨rfl,F,HS.out,gr⟩
def delS (g:Int):OpS:=⟨opD g,none,0,none,0,none,0⟩
def gapS (I:List OpS) (g:Int):List OpS:=I++(if 0<g then [delS g] else [])
theorem Z3v (I:List OpS) (g:Int):osOf (gapS I g)=osOf I++(if 0<g then [opD g] else []):=by
 unfold gapS osOf
 split<;>simp [delS]
theorem Z08 (I:List OpS) (g:Int):(gapS I g).length≤I.length+1:=by unfold gapS;split<;>simp
theorem Z3w (b:Nat) (vd:Value) (Ai:Option Addr) (ni ci:Nat) (g:Int) (I:List OpS) (w:World) (h1:w.heap[b]? = some (.cells #[vd,.slice Ai ni ci,.int .i64 g] 189 (0,0)))
 (hn:ni=I.length) (hr:RdOs w w.heap.size Ai I) (hb:ni≤10000000) :
 Calls Tryz.prog 140 #[.pointer (some ⟨b,0,none⟩)] w (Y3e (gapS I g) w):=by
 have N:=hid hn
 have H1:=hid h1
 obtain ⟨c0,c1,c2⟩:=Z0X h1
 clear hn h1
 go_enter Tryz.func140,Tryz.ntmps140
 go_wp2_with (go_at_call 226;refine Hid.out ?_)
 refine hid ?_
 refine (Z57 Ai ni ci I w N.out hr (by omega)).mono ?_
 rintro e w1 ⟨A1,k1,rfl,ho,y⟩
 obtain ⟨d0,d1,d2⟩:=Z0X ((y.block b (Z0c H1.out)).trans H1.out)
 have HO:=hid ho
 clear ho c0 c1 c2
 by_cases hg:0<g
 ·have e1:gapS I g=I++[delS g]:=by unfold gapS;rw [if_pos hg]
  have E1:=hid e1
  clear e1
  go_wp2_with (at_builtin;refine Y0R (m:=[delS g]) rfl (.tmp 14) (.tmp 20) rfl rfl (by exact HO.out.alloc _) _ _ 1 1 rfl rfl (by exact Z3j (enc:=OpS.enc) (size:=5) _ _ (delS g) rfl) (by have:=N.out;simp only [List.length_singleton];omega) (by exact Nat.le_trans y.size (Y0s _ _)) ?_;intro v' w' hown' hgr hv')
  have s1:=Z3i (y.alloc y.size _) (by exact Nat.le_trans y.size (Y0s _ _)) (HO.out.alloc _) (Nat.le_refl _) hgr
  rw [←E1.out] at hown'
  obtain ⟨A',c',rfl,_,_⟩:=hown'.form
  have HOW:=hid hown'
  clear hown'
  go_ret
  exact ⟨A',c',rfl,HOW.out,s1⟩
 ·have e1:gapS I g=I:=by unfold gapS;rw [if_neg hg];simp
  have E1:=hid e1
  clear e1
  go_wp2_with (fail)
  go_ret
  unfold Y3e
  rw [E1.out]
  exact ⟨A1,k1,rfl,HO.out,y⟩
section
variable {α:Type} {enc:α→List Value} {size:Nat} {e:TypeId} {w:World} {base:Nat} {l:List α}
theorem Y0S (hs:∀ a,(enc a).length=size):∀ (l:List α) (i j:Nat) (u:Value) (a':α) (h:i<l.length),j<size→enc a'=(enc l[i]).set j u→(l.set i a').flatMap enc=(l.flatMap enc).set (i*size+j) u
 | [],i,j,u,a',h,_,_=>absurd h (by simp)
 | a::l,0,j,u,a',_,hj,he=>by
   simp only [List.set_cons_zero,List.flatMap_cons,Nat.zero_mul,Nat.zero_add]
   rw [he,List.set_append_left _ _ (by rw [hs];exact hj)]
   rfl
 | a::l,i+1,j,u,a',h,hj,he=>by
   have ih:=Y0S hs l i j u a' (by simpa using h) hj (by simpa using he)
   simp only [List.set_cons_succ,List.flatMap_cons]
   rw [ih,List.set_append_right _ _ (by rw [hs,Nat.add_mul];omega),hs]
   congr 2
   rw [Nat.add_mul];omega
theorem Ow.setEl (hs:∀ a,(enc a).length=size) {g n c i j:Nat} {u:Value} {a':α} (h:Ow enc size e w base (.slice (some ⟨g,0,none⟩) n c) l) (hi:i<l.length) (hj:j<size)
 (he:enc a'=(enc l[i]).set j u):Ow enc size e (w.setCell ⟨g,i*size+j,none⟩ u) base (.slice (some ⟨g,0,none⟩) n c) (l.set i a'):=by
 obtain ⟨g',cur,hA,hn,hbg,hg,hlc,hcm,hcur,htake⟩:=h.row (by omega)
 injection hA with hA
 injection hA with hA _ _
 subst hA
 refine .inr ⟨Z39 hs _,.inr ⟨g,c,cur.setIfInBounds (i*size+j) u,by rw [List.length_set,hn],hbg,Z0d hg u,by rw [List.length_set];exact hlc,hcm,by simpa using hcur,?_⟩⟩
 rw [Y0S hs l i j u a' hi hj he,←htake]
 simp only [Array.toList_setIfInBounds,List.length_set]
 rw [List.take_set]
end
open Go.RowKit
set_option linter.unusedVariables false
set_option linter.unusedSimpArgs false
theorem Y3i {a:Int} {l:List Int} (h:rise (a::l)=true):∀ b∈l,a<b:=by
 induction l generalizing a with
 | nil=>intro b hb;simp at hb
 | cons c l ih=>
   simp only [rise,Bool.and_eq_true,decide_eq_true_eq] at h
   intro b hb
   rcases List.mem_cons.1 hb with rfl|hb
   ·exact h.1
   ·have:=ih h.2 b hb;omega
theorem Y3j {a:Int} {l:List Int} (h:rise (a::l)=true):rise l=true:=by
 cases l with
 | nil=>rfl
 | cons c l=>simp only [rise,Bool.and_eq_true] at h;exact h.2
def cmpI (a b:Int):Int:=if a<b then -1 else if b<a then 1 else 0
theorem Y1P (x:Int) (w:World):Calls Tryz.prog 119 #[.int .i64 x] w fun e w'=>e=.returned (.bool false)∧w=w':=by
 go_enter Tryz.func119,Tryz.ntmps119
 go_wp2
 go_ret
 exact ⟨by simp,rfl⟩
theorem Z9N (x y:Int) (w:World):Calls Tryz.prog 47 #[.int .i64 x,.int .i64 y] w fun e w'=>e=.returned (.int .i64 (cmpI x y))∧w=w':=by
 have hc:(x<y∧cmpI x y = -1)∨(¬ x<y∧y<x∧cmpI x y=1)∨(¬ x<y∧¬ y<x∧cmpI x y=0):=by
  unfold cmpI
  by_cases h1:x<y
  ·simp [h1]
  ·by_cases h2:y<x<;>simp [h1,h2]
 rcases hc with ⟨h1,hc⟩ | ⟨h1,h2,hc⟩ | ⟨h1,h2,hc⟩
 all_goals
  have HC:=hid hc
  clear hc
  go_enter Tryz.func47,Tryz.ntmps47
  go_wp2_with (go_at_call 119;refine (Y1P _ _).mono ?_;rintro e w' ⟨rfl,rfl⟩)
  go_ret
  exact ⟨Z0k HC.out.symm,rfl⟩
theorem Z0U {B:Nat} {a b:World} (h:Below B a b):Below B a b.drew:=⟨h.1,h.2,h.3,h.4,h.5⟩
theorem Y1Q (A B:Option Addr) (n m c d:Nat) (l k:List At) (w:World) (hn:n=l.length) (hm:m=k.length) (h1:RdAt w w.heap.size A l) (h2:RdAt w w.heap.size B k) (hb:n≤140737488355328) (hb2:m≤140737488355328) :
 Calls Tryz.prog 156 #[.slice A n c,.slice B m d] w (Z8f (.bool (decide (l=k))) w):=by
 have N:=hid hn
 have M:=hid hm
 generalize hR:decide (l=k)=R
 have HR:=hid hR
 clear hn hR hm
 by_cases hnm:(n:Int)=m
 ·have hnm':n=m:=by omega
  subst hnm'
  clear hnm
  go_enter Tryz.func156,Tryz.ntmps156
  go_wp2_with (fail)
  go_loopg [13] n (fun g iv wr => ∃ i:Nat,i≤n∧g=n-i∧iv=.int .i64 (i:Int)∧(∃ d,wr=w.drewN d)∧Hid (decide (l.drop i=k.drop i)=R))
  case atStart=>exact ⟨0,by omega,rfl,rfl,⟨0,rfl⟩,hid (by rw [List.drop_zero,List.drop_zero];exact HR.out)⟩
  case round=>
   obtain ⟨i,hi,hg,rfl,⟨q,rfl⟩,HI⟩:=hrel
   have HG:=hid hg
   clear hg HR
   by_cases hlt:i<n
   ·have hl1:i<l.length:=by have:=N.out;omega
    have hl2:i<k.length:=by have:=M.out;omega
    obtain ⟨ad,x,rfl,_,hd1,_,hc1⟩:=h1.el hl1
    obtain ⟨ad2,y,rfl,_,hd2,_,hc2⟩:=h2.el hl2
    have HI':Hid (decide (x::l.drop (i+1)=y::k.drop (i+1))=R):=hid (by rw [←HI.out,hd1,hd2])
    clear HI hd1 hd2
    obtain ⟨x1,x2,x3,x4,x5⟩:=x
    obtain ⟨y1,y2,y3,y4,y5⟩:=y
    obtain ⟨r0,r1,r2,r3,r4⟩:=Z0P hc1
    obtain ⟨s0,s1,s2,s3,s4⟩:=Z0P hc2
    by_cases hxy:(⟨x1,⟨x2,x3,x4,x5⟩⟩:At)=⟨y1,⟨y2,y3,y4,y5⟩⟩
    ·have hq:=Y0t hxy
     have HXY:=hid hxy
     clear hxy
     go_wp2_with (go_quiet (fail))
     go_roundg (n-(i+1))
     case measure=>have:=HG.out;omega
     case rel=>exact ⟨i+1,by omega,rfl,by go_num,⟨_,rfl⟩,hid (by rw [←HI'.out];simp only [List.cons.injEq,HXY.out,true_and])⟩
    ·have hq:=Y0u hxy
     have HXY:=hid hxy
     clear hxy
     go_wp2_with (go_quiet (fail))
     go_ret
     exact ⟨Z0e (by rw [←HI'.out];exact (decide_eq_false fun e=>HXY.out (List.cons.inj e).1).symm),_,World.drewN_drewN _ _ _⟩
   ·go_wp2_with (fail)
    go_ret
    exact ⟨Z0e (by rw [←HI.out,List.drop_eq_nil_of_le (by have:=N.out;omega),List.drop_eq_nil_of_le (by have:=M.out;omega)];rfl),_,rfl⟩
 ·have hne:((n:Int)==m)=false:=beq_eq_false_iff_ne.2 hnm
  go_enter Tryz.func156,Tryz.ntmps156
  go_wp2_with (fail)
  go_ret
  refine ⟨Z0e ?_,0,rfl⟩
  rw [←HR.out]
  refine (decide_eq_false fun e=>?_).symm
  have h3:=N.out
  have h4:=M.out
  rw [e] at h3
  omega
theorem Z1G (A B:Option Addr) (n m c d:Nat) (l k:List At) (w:World) (hn:n=l.length) (hm:m=k.length) (h1:RdAt w w.heap.size A l) (h2:RdAt w w.heap.size B k) (hb:n≤140737488355328) (hb2:m≤140737488355328) :
 Calls Tryz.prog 73 #[.slice A n c,.slice B m d] w (Z8f (.bool (decide (l=k))) w):=by
 have N:=hid hn
 have M:=hid hm
 clear hn hm
 go_enter Tryz.func73,Tryz.ntmps73
 go_wp2_with (go_at_call 156;refine (Y1Q A B n m c d l k _ N.out M.out h1 h2 hb hb2).mono ?_;rintro e w' ⟨rfl,q,rfl⟩)
 go_ret
 exact ⟨rfl,_,rfl⟩
theorem Z4j (A:Option Addr) (n c:Nat) (l:List At) (w:World) (hn:n=l.length) (h:RdAt w w.heap.size A l) (hb:n≤100000000) :
 Calls Tryz.prog 139 #[.slice A n c] w (Y5a l w):=by
 have N:=hid hn
 clear hn
 go_enter Tryz.func139,Tryz.ntmps139
 go_wp2_with (go_at_call 125;refine Hid.out ?_)
 refine hid ?_
 refine (Z55 A n c l w N.out h hb).mono ?_
 rintro e w2 ⟨A2,c2,rfl,ho,hb2⟩
 generalize hq:l.length=q at *
 go_wp2_with (fail)
 go_ret
 exact ⟨A2,c2,by rw [hq];rfl,by rw [hq];exact ho,hb2⟩
theorem Mkr.of_store {w:World} {F:Nat→Prop} {b j:Nat} {u vd vi:Value} {m:Mk} {D I:List OpS} {cs:Array Value} (hb:w.heap[b]? = some (.cells cs 189 (0,0))) (hc:cs.setIfInBounds j u=#[vd,vi,.int .i64 m.gone])
 (h2:OwOs w 0 vd D) (h3:OwOs w 0 vi I) (h4:osOf D=m.done) (h5:osOf I=m.ins) (h6:∀ k,F k→k<w.heap.size) (h7:F b) (h8:∀ k,wb vd=some k→F k∧k≠b∧wb vi≠some k) (h9:∀ k,wb vi=some k→F k∧k≠b)
 (h10:∀ x∈D,PartF w F x) (h11:InsF w F b vd vi I):Mkr (w.setCell ⟨b,j,none⟩ u) F b m:=by
 have gr:=Z0t (w:=w) b j u h7 0
 refine ⟨vd,vi,D,I,by rw [Z0d hb,hc],Z2w h2 (fun k hk=>(h8 k hk).2.1) _,Z2w h3 (fun k hk=>(h9 k hk).2) _,h4,h5,fun k hk=>Nat.lt_of_lt_of_le (h6 k hk) gr.size,h7,h8,h9,fun x hx=>(h10 x hx).grow gr,fun x hx=>(h11.1 x hx).grow gr,fun x hx=>?_⟩
 obtain ⟨e1,e2,e3,e4⟩:=h11.2 x hx
 exact ⟨e1.setCell (p:=⟨b,j,none⟩) (fun e=>(e2 b e).2.1 rfl) _,e2,⟨e3.1.grow gr e3.2,e3.2.grow e3.1 gr⟩,⟨e4.1.grow gr e4.2,e4.2.grow e4.1 gr⟩⟩
theorem LastF.part {w w':World} {F G:Nat→Prop} {b:Nat} {vd vi:Value} {x:OpS} (h:LastF w F b vd vi x) (g:Grow w F w' G)
 (hk:∀ k,wb (.slice x.Ar x.o.r.length x.cr)=some k→w'.heap[k]? = w.heap[k]? ∧ ¬ G k):PartF w' G x:=by
 obtain ⟨e1,e2,e3,e4⟩:=h
 have o':Z3k w' 0 (.slice x.Ar x.o.r.length x.cr) x.o.r:=e1.keep fun k h=>(hk k h).1
 exact ⟨⟨o'.rd Z1d,o'.offF Z1d rfl (fun k h=>(hk k h).2)⟩,⟨e3.1.grow g e3.2,e3.2.grow e3.1 g⟩,⟨e4.1.grow g e4.2,e4.2.grow e4.1 g⟩⟩
theorem Y7d (b:Nat) (A A2:Option Addr) (c n2 c2:Nat) (w:World) (F:Nat→Prop) (m:Mk) (h:Mkr w F b m) (s:List At) :
 Calls Tryz.prog 64 #[.pointer (some ⟨b,0,none⟩),.slice A 0 c,.slice A2 n2 c2] w (Z5m (Z0J m [] s) w F b):=by
 have H:=hid h
 clear h
 go_enter Tryz.func64,Tryz.ntmps64
 go_wp2_with (fail)
 refine bodyPost_ret (results_none rfl _ _ _) rfl ?_
 exact ⟨rfl,F,H.out,Grow.refl _ _⟩
def insS (l:List Int) (s:List At) (A1:Option Addr) (c1:Nat) (A2:Option Addr) (c2:Nat):OpS:=⟨opI l s,A1,c1,A2,c2,none,0⟩
theorem Z63 {w w1 w2 w3 w4:World} {F:Nat→Prop} {b:Nat} {m:Mk} {vd vi vi':Value} {D I:List OpS} {l:List Int} {s:List At} {A1 A2:Option Addr} {c1 c2:Nat}
 (h1:w.heap[b]? = some (.cells #[vd,vi,.int .i64 m.gone] 189 (0,0))) (h2:OwOs w 0 vd D) (h3:OwOs w 0 vi I) (h4:osOf D=m.done) (h5:osOf I=m.ins)
 (h6:∀ k,F k→k<w.heap.size) (h7:F b) (h8:∀ k,wb vd=some k→F k∧k≠b∧wb vi≠some k) (h9:∀ k,wb vi=some k→F k∧k≠b) (h10:∀ x∈D,PartF w F x) (h11:InsF w F b vd vi I)
 (hl:l≠[]) (hne:∀ o,m.ins.getLast? = some o→¬ o.s=s)
 (y1:Below w.heap.size w w1) (o1:Z3k w1 w.heap.size (.slice A1 l.length c1) l) (y2:Below w1.heap.size w1 w2) (o2:OwAt w2 w1.heap.size (.slice A2 s.length c2) s) (y3:Below w2.heap.size w2 w3)
 (ho:OwOs w4 0 vi' (I++[insS l s A1 c1 A2 c2])) (hgr:w3.grownBy w4 (wb vi)) (hv:wb vi'=wb vi∨wb vi'=some w3.heap.size∨(vi'=vi∧w4=w3)) (hsz3:w3.heap.size=w2.heap.size+1) :
 ∃ F',Mkr (w4.setCell ⟨b,1,none⟩ vi') F' b (Z0J m l s)∧Grow w F (w4.setCell ⟨b,1,none⟩ vi') F':=by
 have y12:=Z0a y1 y2
 have y13:=Z0a y12 y3
 have hb:=Z0c h1
 have hbvi:wb vi≠some b:=fun e=>(h9 b e).2 rfl
 -- w to w4
 have G1:∀ j,j<w.heap.size→wb vi≠some j→w4.heap[j]? = w.heap[j]? := fun j hj hne=>(hgr.block j (Nat.lt_of_lt_of_le hj y13.size) (fun e=>hne e.symm)).trans (y13.block j hj)
 have hwb':∀ k,wb vi'=some k→wb vi=some k∨w.heap.size≤k:=fun k hk=>by
  rcases hv with h|h | ⟨h,_⟩
  ·exact .inl (h ▸ hk)
  ·rw [h] at hk;injection hk with hk;have:=y13.size;exact .inr (by omega)
  ·subst h;exact .inl hk
 have hnew1:∀ k,wb (.slice A1 l.length c1)=some k→w.heap.size≤k∧k<w1.heap.size:=fun k hk=>o1.wb_lt k hk
 have hnew2:∀ k,wb (.slice A2 s.length c2)=some k→w1.heap.size≤k∧k<w2.heap.size:=fun k hk=>o2.wb_lt k hk
 have hvlt:∀ k,wb vi=some k→k<w.heap.size:=fun k hk=>(h3.wb_lt k hk).2
 have hwb2:∀ k,wb vi'=some k→wb vi=some k∨w2.heap.size≤k:=fun k hk=>by
  rcases hv with h|h | ⟨h,_⟩
  ·exact .inl (h ▸ hk)
  ·rw [h] at hk;injection hk with hk;exact .inr (by omega)
  ·subst h;exact .inl hk
 have s1:=y1.size
 have s2:=y2.size
 have hkeep1:∀ k,w.heap.size≤k→k<w3.heap.size→w4.heap[k]? = w3.heap[k]? := fun k h1 h2=>hgr.block k h2 (fun e=>by have:=hvlt k e.symm;omega)
 let F':Nat→Prop:=fun k=>k=b∨wb vd=some k∨wb vi'=some k∨wb (.slice A1 l.length c1)=some k
 have hF':∀ k,F' k→F k∨w.heap.size≤k:=fun k hk=>by
  rcases hk with rfl|hk|hk|hk
  ·exact .inl h7
  ·exact .inl (h8 k hk).1
  ·rcases hwb' k hk with h|h
   ·exact .inl (h9 k h).1
   ·exact .inr h
  ·exact .inr (hnew1 k hk).1
 have gr:Grow w F w4 F':=⟨hgr.os.trans y13.os,hgr.tape.trans y13.tape,hgr.output.trans y13.output,Nat.le_trans y13.size hgr.size,fun j hj hn=>G1 j hj (fun e=>hn (h9 j e).1),hF'⟩
 have k1:Z3k w4 0 (.slice A1 l.length c1) l:=by
  have o3:=(o1.below (Z0a y2 y3) (Nat.le_refl _)).base_le (B:=0) (Nat.zero_le _)
  exact o3.keep fun k hk=>by have:=hnew1 k hk;exact hkeep1 k this.1 (by have:=(Z0a y2 y3).size;omega)
 have k2:OwAt w4 0 (.slice A2 s.length c2) s:=by
  have o3:=(o2.below y3 (Nat.le_refl _)).base_le (B:=0) (Nat.zero_le _)
  exact o3.keep fun k hk=>by have:=hnew2 k hk;exact hkeep1 k (by omega) (by omega)
 have gs:=Z0t (w:=w4) b 1 vi' (show F' b from .inl rfl) 0
 refine ⟨F',Mkr.of_store (vd:=vd) (vi:=vi') (D:=D) (I:=I++[insS l s A1 c1 A2 c2]) (cs:=#[vd,vi,.int .i64 m.gone]) ((G1 b hb hbvi).trans h1) ?_ (h2.keep fun k hk=>G1 k (h2.wb_lt k hk).2 (h8 k hk).2.2) ho ?_ ?_ ?_ (.inl rfl) ?_ ?_ (fun x hx=>(h10 x hx).grow gr) ⟨?_,?_⟩,gr.trans gs⟩
 ·unfold Z0J;rw [if_neg hl];rfl
 ·unfold Z0J;rw [if_neg hl];exact h4
 ·unfold Z0J addI
  rw [if_neg hl]
  show osOf (I++[insS l s A1 c1 A2 c2])=_
  have e:osOf (I++[insS l s A1 c1 A2 c2])=m.ins++[opI l s]:=by rw [←h5];simp [osOf,insS]
  rw [e]
  cases hg:m.ins.getLast? with
  | none=>rfl
  | some o=>simp only;rw [if_neg (hne o hg)]
 ·intro k hk
  rcases hk with rfl|hk|hk|hk
  ·exact Nat.lt_of_lt_of_le hb gr.size
  ·exact Nat.lt_of_lt_of_le (h2.wb_lt k hk).2 gr.size
  ·exact (ho.wb_lt k hk).2
  ·exact (k1.wb_lt k hk).2
 ·intro k hk
  refine ⟨.inr (.inl hk),(h8 k hk).2.1,fun e=>?_⟩
  rcases hwb' k e with h|h
  ·exact (h8 k hk).2.2 h
  ·have:=(h2.wb_lt k hk).2;omega
 ·intro k hk
  refine ⟨.inr (.inr (.inl hk)),fun e=>?_⟩
  subst e
  rcases hwb' k hk with h|h
  ·exact hbvi h
  ·omega
 ·intro x hx
  rw [List.dropLast_concat] at hx
  rcases List.eq_nil_or_concat I with h0 | ⟨t,z,h0⟩
  ·rw [h0] at hx;cases hx
  ·rw [List.concat_eq_append] at h0
   rw [h0] at hx
   rcases List.mem_append.1 hx with hx|hx
   ·exact (h11.1 x (by rw [h0];simpa using hx)).grow gr
   ·simp at hx;subst hx
    have hL:=h11.2 x (by rw [h0];simp)
    refine hL.part gr fun k hk=>?_
    obtain ⟨q1,q2,q3,q4⟩:=hL.2.1 k hk
    have hklt:=(hL.1.wb_lt k hk).2
    refine ⟨G1 k hklt q4,fun hf=>?_⟩
    rcases hf with h|h|h|h
    ·exact q2 h
    ·exact q3 h
    ·rcases hwb' k h with h|h
     ·exact q4 h
     ·omega
    ·have:=(hnew1 k h).1;omega
 ·intro x hx
  simp at hx
  subst hx
  refine ⟨k1,fun k hk=>⟨.inr (.inr (.inr hk)),?_,?_,?_⟩,⟨k2.rd At.enc_len,k2.offF At.enc_len rfl (fun k hk hf=>?_)⟩,⟨Rd.nil,OffF.zero⟩⟩
  ·intro e;subst e;have:=(hnew1 k hk).1;omega
  ·intro e;have:=(h2.wb_lt k e).2;have:=(hnew1 k hk).1;omega
  ·intro e
   rcases hwb2 k e with h|h
   ·have:=hvlt k h;have:=(hnew1 k hk).1;omega
   ·have:=(hnew1 k hk).2;omega
  ·have hk2:=hnew2 k hk
   rcases hf with h|h|h|h
   ·omega
   ·have:=(h2.wb_lt k h).2;omega
   ·rcases hwb2 k h with h|h
    ·have:=hvlt k h;omega
    ·omega
   ·have:=(hnew1 k h).2;omega
theorem Y3k (b:Nat) (A A2:Option Addr) (n c n2 c2:Nat) (l:List Int) (s:List At) (w:World) (F:Nat→Prop) (m:Mk) (h:Mkr w F b m)
 (hn:n=l.length) (hn2:n2=s.length) (r1:Z11 w w.heap.size A l) (r2:RdAt w w.heap.size A2 s) (hb:n≤10000000) (hb2:n2≤10000000) (hl:l≠[]) (h0:m.ins=[]) :
 Calls Tryz.prog 64 #[.pointer (some ⟨b,0,none⟩),.slice A n c,.slice A2 n2 c2] w (Z5m (Z0J m l s) w F b):=by
 obtain ⟨vd,vi,D,I,h1,h2,h3,h4,h5,h6,h7,h8,h9,h10,h11⟩:=h
 have hI:I=[]:=by
  have e:=h5
  rw [h0] at e
  unfold osOf at e
  simpa using e
 subst hI
 obtain ⟨Ai,ci,rfl,hci,hcm⟩:=h3.form
 have hnp:n≠0:=by rw [hn];intro e;exact hl (List.eq_nil_of_length_eq_zero e)
 have hn0:((n:Int)==0)=false:=beq_eq_false_iff_ne.2 (by omega)
 have N:=hid hn
 have N2:=hid hn2
 have H1:=hid h1
 have H3:=hid h3
 have hlt:=Z0c h1
 obtain ⟨c0,c1,c2'⟩:=Z0X h1
 have hf:=Z0h h1 1
 have HL:=hid hl
 have H5:=hid h5
 have H0:=hid h0
 have hpos:0<n:=by omega
 clear hn hn2 h1 h3 h5 h0 hl hnp
 go_enter Tryz.func64,Tryz.ntmps64
 go_wp2_with (fail)
 go_region_law (first
  | (refine Z0L rfl 138 [.tmp 56] #[33] rfl Tryz.f138 (by kernel_rfl) (by kernel_rfl) (by kernel_rfl) [.slice A n c] (by rfl) (Z3s A n c l w.drew N.out (r1.ext (Z0U (Below.refl _ _))) (by omega)) ?_
     rintro e w1 ⟨A1,k1,rfl,o1,y1⟩
     refine ⟨_,rfl,?_⟩
     have hb1:=(y1.block b hlt).trans H1.out
     obtain ⟨d0,d1,d2⟩:=Z0X hb1
     have hf1:=Z0h hb1 1
     have HB1:=hid hb1
     have O1:=hid o1
     have Y1:Hid (Below w.heap.size w w1):=hid ((Z0U (Below.refl _ _)).trans y1)
     clear hb1 o1 y1)
  | (refine Z0L rfl 139 [.tmp 58] #[34] rfl Tryz.f139 (by kernel_rfl) (by kernel_rfl) (by kernel_rfl) [.slice A2 n2 c2] (by rfl) (Z4j A2 n2 c2 s w1 N2.out (r2.ext Y1.out) (by omega)) ?_
     rintro e w2 ⟨A3,k3,rfl,o2,y2⟩
     refine ⟨_,rfl,?_⟩
     have hb2:=(y2.block b (Z0c HB1.out)).trans HB1.out
     obtain ⟨e0,e1,e2⟩:=Z0X hb2
     have hf2:=Z0h hb2 1
     have y3:=Z0b w2 (.cells #[.int .u8 2,.int .i64 0,.slice A1 l.length k1,.slice A3 s.length k3,.slice none 0 0] 36)
     have hb3:=(y3.block b (Z0c hb2)).trans hb2
     obtain ⟨g0,g1,g2⟩:=Z0X hb3
     have hf3:=Z0h hb3 1
     have HB3:=hid hb3
     have O2:=hid o2
     have Y2:=hid y2
     clear hb2 hb3 o2 y2)
  | (refine Z22 (m:=[insS l s A1 k1 A3 k3]) rfl (.tmp 55) (.tmp 61) (by rfl) (by rfl) ((H3.out.below Y1.out (Nat.le_refl _)).below (Z0a Y2.out y3) (Nat.le_refl _)) _ _ 1 1 (by rfl) rfl (Z3j (enc:=OpS.enc) (size:=5) w2 _ (insS l s A1 k1 A3 k3) rfl) (by simp) (Nat.zero_le _) ?_
     intro vi' w4 ho hgr hv
     obtain ⟨A',c',hv',_,_⟩:=ho.form
     subst hv'
     have hbv:wb (.slice Ai 0 ci)≠some b:=fun e=>(h9 b e).2 rfl
     have hb4:=(hgr.block b (Z0c HB3.out) (fun e=>hbv e.symm)).trans HB3.out
     obtain ⟨q0,q1,q2⟩:=Z0X hb4
     have hf4:=Z0h hb4 1
     have HO:=hid ho
     have HG:=hid hgr
     have HV:=hid hv
     clear ho hgr hv hb4 hbv))
 all_goals go_wp2_with (fail)
 all_goals
  refine bodyPost_ret (results_none rfl _ _ _) rfl ?_
  refine ⟨rfl,Z63 H1.out h2 H3.out h4 H5.out h6 h7 h8 h9 h10 h11 HL.out (fun o ho=>by rw [H0.out] at ho;cases ho) Y1.out O1.out Y2.out O2.out y3 HO.out HG.out ?_ (by simp)⟩
  rcases HV.out with ⟨h,h'⟩|h|h
  ·exact .inr (.inr ⟨h,h'⟩)
  ·exact .inl h
  ·exact .inr (.inl h)
end Go.Proofs.YtnmedachaeanbaaGreatDoor
