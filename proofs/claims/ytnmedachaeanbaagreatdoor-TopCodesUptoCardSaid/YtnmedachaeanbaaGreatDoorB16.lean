/- Merged texts. -/
import Derived.Test.YtnmedachaeanbaaGreatDoorB15
namespace Go.Proofs.YtnmedachaeanbaaGreatDoor
set_option maxRecDepth 100000
set_option maxHeartbeats 12800000
open Go.RowKit
open Go.Lib (hid Utf8Tabs)
set_option linter.unusedVariables false
set_option linter.unusedSimpArgs false
theorem Tryz.unOpC:Tryz.prog.underlying 36=some (.struct (Tryz.prog.fieldsOf 36)):=by kernel_rfl
theorem Tryz.szOpC:(Tryz.prog.info? 36).map (·.size)=some 5:=by kernel_rfl
theorem Z9Q {g3 g4 pr:Nat} {w w':World} {A:Option Addr} {n c:Nat} {b:List Int} {k:Nat} {bad:Bool} (h:Utf8Tabs g3 g4 w) (hs:RS w pr A n c b k bad) (g:GR pr w w'):Utf8Tabs g3 g4 w':=by
 have c0:=hs.cells.1
 have n3:g3≠pr:=fun e=>by have h1:=h.1 0 (by omega);rw [e,c0] at h1;cases h1
 have n4:g4≠pr:=fun e=>by have h1:=(h.2 0 (by omega)).1;rw [e] at h1;rw [show 2*0=0 from rfl,c0] at h1;cases h1
 have lt:∀ {a:Addr} {v:Value},w.cell? a=some v→a.block≠pr→w'.cell? a=some v:=fun {a v} hc hn=>by
  have hb:a.block<w.heap.size:=by
   rcases Nat.lt_or_ge a.block w.heap.size with h'|h'
   ·exact h'
   ·simp [World.cell?,Array.getElem?_eq_none h'] at hc
  rw [←hc]
  simp only [World.cell?]
  rw [g.block a.block hb hn]
 exact ⟨fun c hc=>lt (h.1 c hc) n3,fun i hi=>⟨lt (h.2 i hi).1 n4,lt (h.2 i hi).2 n4⟩⟩
def PartO (w:World) (B:Nat) (x:OpS):Prop:=
 Z3k w B (.slice x.Ar x.o.r.length x.cr) x.o.r∧OwAt w B (.slice x.As x.o.s.length x.cs) x.o.s∧OwCh w B (.slice x.Ap x.o.p.length x.cp) x.o.p
def Z9R (a:Opd):Prop:=Y1T a∧a.r.length≤100000000∧a.s.length≤100000000∧a.p.length≤100000000∧(∀ x∈a.s,x.v.s.size≤100000000)∧∀ x∈a.p,x.v.s.size≤100000000
def OkOpR (B:Nat) (a:Opd) (v:Value) (w:World):Prop:=
 ∃ Ar cr As cs Ap cp,v=.agg #[.int .u8 a.k,.int .i64 a.n,.slice Ar a.r.length cr,.slice As a.s.length cs,.slice Ap a.p.length cp]∧PartO w B ⟨a,Ar,cr,As,cs,Ap,cp⟩∧Z9R a
def pO1 (n kd:Nat):PF Opd:=fun b=>
 if kd=1 then (pU 536870912 b).bind fun y=>(sev n (pCh n) y.2).map fun x=>(⟨1,y.1,[],[],x.1⟩,x.2)
 else if kd=2 then (pB n b).bind fun y=>(Z1f y.1).bind fun l=>(sev n (pAt n) y.2).map fun x=>(⟨2,0,l,x.1,[]⟩,x.2)
 else if kd=3 then (pU 536870912 b).map fun y=>(⟨3,y.1,[],[],[]⟩,y.2)
 else none
def pRd (n:Nat):PF (List Int):=fun y=>(pB n y).bind fun z=>(Z1f z.1).map fun l=>(l,z.2)
theorem Took.readBad {n:Nat} {b x l:List Int} {k k1:Nat} {bad bad1:Bool} (h:Took (pB n) b k bad x k1 bad1) (hr:Z1f x=none):Took (pRd n) b k bad l k1 true:=by
 unfold Took at h ⊢
 cases bad with
 | true=>simp
 | false=>
   simp only [Bool.false_eq_true,if_false] at h ⊢
   unfold pRd
   cases hp:pB n (b.drop k) with
   | none=>trivial
   | some z=>
     rw [hp] at h
     obtain ⟨h1,_,_⟩:=h
     simp only [Option.bind_some]
     rw [h1,hr]
     trivial
theorem Took.readOk {n:Nat} {b x l:List Int} {k k1:Nat} {bad bad1:Bool} (h:Took (pB n) b k bad x k1 bad1) (hr:Z1f x=some l):Took (pRd n) b k bad l k1 bad1:=by
 unfold Took at h ⊢
 cases bad with
 | true=>simpa using h
 | false=>
   simp only [Bool.false_eq_true,if_false] at h ⊢
   unfold pRd
   cases hp:pB n (b.drop k) with
   | none=>rw [hp] at h;simpa using h
   | some z=>
     rw [hp] at h
     obtain ⟨h1,h2,h3⟩:=h
     simp only [Option.bind_some]
     rw [h1,hr]
     exact ⟨rfl,h2,h3⟩
theorem Y8k (n:Nat) (x:List Int):((pRd n x).bind fun z=>(sev n (pAt n) z.2).map fun y=>((⟨2,0,z.1,y.1,[]⟩:Opd),y.2))=pO1 n 2 x:=by
 unfold pRd pO1
 rw [if_neg (by omega),if_pos rfl]
 cases pB n x with
 | none=>rfl
 | some z=>
   simp only [Option.bind_some]
   cases Z1f z.1<;>rfl
theorem Z0N {α:Type} {enc:α→List Value} {size:Nat} {e:TypeId} {w:World} {base:Nat} {v:Value} {l:List α} (h:Ow enc size e w base v l) {g:Nat} (hg:g<base) (j:Nat) (u:Value):Ow enc size e (w.setCell ⟨g,j,none⟩ u) base v l:=
 h.setCell (p:=⟨g,j,none⟩) (fun e=>by have:=(h.wb_lt _ e).1;simp only at this;omega) u
theorem Y7g (pr:Nat) (A:Option Addr) (n c:Nat) (b:List Int) (k:Nat) (bad:Bool) (w:World) (h:RS w pr A n c b k bad) (hT:Utf8Tabs 0 1 w) :
 Calls Tryz.prog 85 #[.pointer (some ⟨pr,0,none⟩)] w (OutR (pO n) (OkOpR w.heap.size) w pr A n c b k bad):=by
 have hpl:=Z0p h.box
 have y1:=Z0b w (.cells #[.int .u8 0,.int .i64 0,.slice none 0 0,.slice none 0 0,.slice none 0 0] 36)
 have HB:=hid (heap_alloc_new w (.cells #[.int .u8 0,.int .i64 0,.slice none 0 0,.slice none 0 0,.slice none 0 0] 36))
 have H:=hid (h.below y1)
 have G1:Hid (GR pr w (w.alloc (.cells #[.int .u8 0,.int .i64 0,.slice none 0 0,.slice none 0 0,.slice none 0 0] 36))):=hid (Grow.of y1)
 have HT1:=hid (Utf8Tabs_below hT y1)
 have hsm:=h.small
 have HNE:Hid (¬ w.heap.size=pr):=hid (by omega)
 clear y1 h hT
 go_enter Tryz.func85,Tryz.ntmps85
 go_wp2_with (go_at_call 161;refine Hid.out ?_)
 refine hid ?_
 refine (Z12 pr 255 A n c b k bad _ (by decide) H.out).mono ?_
 rintro e w2 ⟨kd,x,k2,bad2,rfl,⟨rfl,ha2⟩,hs2,hg2,ht2⟩
 have T2:=hid ht2
 have S2:=hid hs2
 have G2:Hid (GR pr w w2):=hid (GR.trans1 G1.out hg2)
 have HB2:=hid ((hg2.block w.heap.size (by simp) HNE.out).trans HB.out)
 have TB2:=hid (Z9Q HT1.out H.out hg2)
 have z2:=G2.out.size
 have lt2:=Z0p HB2.out
 clear ht2 hs2 hg2
 have hw8:IntKind.u8.wrap (kd:Int)=(kd:Int):=IntWalk.u8_in _ (by omega)
 by_cases k1:kd=1
 ·subst k1
  have y3:=Z0b w2 (.cells #[.int .u8 1,.int .i64 0,.slice none 0 0,.slice none 0 0,.slice none 0 0] 36)
  have HC:=hid (heap_alloc_new w2 (.cells #[.int .u8 1,.int .i64 0,.slice none 0 0,.slice none 0 0,.slice none 0 0] 36))
  have S3:=hid (S2.out.below y3)
  have G3:Hid (GR pr w (w2.alloc (.cells #[.int .u8 1,.int .i64 0,.slice none 0 0,.slice none 0 0,.slice none 0 0] 36))):=hid (GR.trans1 G2.out (Grow.of y3))
  have HB3:=hid ((y3.block w.heap.size lt2).trans HB2.out)
  have TB3:=hid (Utf8Tabs_below TB2.out y3)
  have HNC:Hid (¬ w2.heap.size=pr):=hid (by omega)
  clear y3
  obtain ⟨q0,q1,q2,q3,q4⟩:=Z0x HC.out
  have qf:=Z0y HC.out
  go_wp2_with (go_at_call 162;refine Hid.out ?_)
  refine hid ?_
  refine (Y0O pr A n c b k2 bad2 _ S3.out).mono ?_
  rintro e w4 ⟨a,x,k4,bad4,rfl,⟨rfl,ha⟩,hs4,hg4,ht4⟩
  have T4:=hid ht4
  have S4:=hid hs4
  have G4:Hid (GR pr w w4):=hid (GR.trans1 G3.out hg4)
  have HC4:=hid ((hg4.block w2.heap.size (by simp) HNC.out).trans HC.out)
  have HB4:=hid ((hg4.block w.heap.size (Z0p HB3.out) HNE.out).trans HB3.out)
  have lt4:=Z0p HC4.out
  clear ht4 hs4 hg4 q0 q1 q2 q3 q4 qf
  obtain ⟨q0,q1,q2,q3,q4⟩:=Z0x HC4.out
  have qf:=Z0y HC4.out
  have HC5:Hid ((w4.setCell ⟨w2.heap.size,1,none⟩ (.int .i64 (a:Int))).heap[w2.heap.size]? = some (.cells #[.int .u8 1,.int .i64 (a:Int),.slice none 0 0,.slice none 0 0,.slice none 0 0] 36 (0,0))):=hid (by
   have h1:=Z0d (j:=1) HC4.out (.int .i64 (a:Int))
   simpa using h1)
  have HB5:=hid ((Below.heap_setCell w4 ⟨w2.heap.size,1,none⟩ (.int .i64 (a:Int)) w.heap.size (fun e=>by simp only at e;omega)).trans HB4.out)
  have S5:=hid (S4.out.setUp (g:=w2.heap.size) (by omega) 1 (.int .i64 (a:Int)))
  have G5:=hid (GR.setUp G4.out (g:=w2.heap.size) (by omega) 1 (.int .i64 (a:Int)))
  have z5:(w4.setCell ⟨w2.heap.size,1,none⟩ (.int .i64 (a:Int))).heap.size=w4.heap.size:=by simp [World.setCell]
  go_wp2_with (go_at_call 163;refine Hid.out ?_)
  refine hid ?_
  refine (Y3b pr A n c b k4 bad4 _ S5.out).mono ?_
  rintro e w6 ⟨l,x,k6,bad6,rfl,⟨Ap,cp,rfl,hl,hown,hok⟩,hs6,hg6,ht6⟩
  have T6:=hid ht6
  have S6:=hid hs6
  have G6:Hid (GR pr w w6):=hid (GR.trans1 G5.out hg6)
  have HC6:=hid ((hg6.block w2.heap.size (Z0p HC5.out) HNC.out).trans HC5.out)
  have HB6:=hid ((hg6.block w.heap.size (Z0p HB5.out) HNE.out).trans HB5.out)
  have OW:=hid (hown.base_le (B:=w2.heap.size+1) (by rw [z5];omega))
  have OKL:=hid hok
  clear ht6 hs6 hg6 q0 q1 q2 q3 q4 qf hown hok
  obtain ⟨q0,q1,q2,q3,q4⟩:=Z0x HC6.out
  have qf:=Z0y HC6.out
  have tf:=Z0y HB6.out
  obtain ⟨v0,v1,v2,v3,v4⟩:=Z0x HB6.out
  obtain ⟨ln,hln⟩:∃ X,l.length=X:=⟨_,rfl⟩
  have HLN:=hid hln
  rw [hln]
  clear hln
  go_wp2_with (fail)
  have p0:(w6.setCell ⟨w2.heap.size,4,none⟩ (.slice Ap ln cp)).heap[w.heap.size]? = _:=(Below.heap_setCell w6 ⟨w2.heap.size,4,none⟩ (.slice Ap ln cp) w.heap.size (fun e=>by simp only at e;omega)).trans HB6.out
  have p1:=Z2K p0 (.int .u8 1) (.int .i64 (a:Int)) (.slice none 0 0) (.slice none 0 0) (.slice Ap ln cp)
  refine bodyPost_ret (results_cell_row (P:=Tryz.prog) rfl _ _ w.heap.size 36 #[.int .u8 1,.int .i64 (a:Int),.slice none 0 0,.slice none 0 0,.slice Ap ln cp] (0,0) _ rfl p1 Tryz.unOpC rfl Tryz.szOpC) rfl ?_
  refine ⟨⟨1,a,[],[],l⟩,_,k6,bad6,rfl,⟨none,0,none,0,Ap,cp,by rw [HLN.out];rfl,⟨Ow.nil _ _,Ow.nil _ _,?_⟩,?_⟩,((((((S6.out.setUp (g:=w2.heap.size) (by omega) _ _).setUp hpl _ _).setUp hpl _ _).setUp hpl _ _).setUp hpl _ _).setUp hpl _ _),(GR.setUp (GR.setUp (GR.setUp (GR.setUp (GR.setUp (GR.setUp G6.out (g:=w2.heap.size) (by omega) _ _) (Nat.le_refl _) _ _) (Nat.le_refl _) _ _) (Nat.le_refl _) _ _) (Nat.le_refl _) _ _) (Nat.le_refl _) _ _),?_⟩
  ·have o1:=Z0N (Z0N (Z0N (Z0N (Z0N (Z0N OW.out (g:=w2.heap.size) (by omega) 4 (.slice Ap ln cp)) (g:=w.heap.size) (by omega) 0 (.int .u8 1)) (g:=w.heap.size) (by omega) 1 (.int .i64 (a:Int))) (g:=w.heap.size) (by omega) 2 (.slice none 0 0)) (g:=w.heap.size) (by omega) 3 (.slice none 0 0)) (g:=w.heap.size) (by omega) 4 (.slice Ap ln cp)
   exact o1.base_le (by omega)
  ·refine ⟨⟨by simp,by simp,by simp only;omega,by simp only;omega,rfl,(fun x hx=>by cases hx),fun x hx=>(OKL.out x hx).1,by simp,by simp,?_⟩,by simp,by simp,?_,(fun x hx=>by cases hx),fun x hx=>(OKL.out x hx).2⟩
   ·simp only;omega
   ·simp only;omega
  ·exact Took.bind (Q:=pO1 n) T2.out ((Took.bind (Q:=fun (a:Nat)=>fun x=>(sev n (pCh n) x).map fun z=>((⟨1,a,[],[],z.1⟩:Opd),z.2)) T4.out (Took.map (f:=fun l:List Ch=>(⟨1,a,[],[],l⟩:Opd)) T6.out)).of_eq (fun x=>by unfold pO1;rw [if_pos rfl]))
 by_cases k3:kd=3
 ·subst k3
  have y3:=Z0b w2 (.cells #[.int .u8 3,.int .i64 0,.slice none 0 0,.slice none 0 0,.slice none 0 0] 36)
  have HC:=hid (heap_alloc_new w2 (.cells #[.int .u8 3,.int .i64 0,.slice none 0 0,.slice none 0 0,.slice none 0 0] 36))
  have S3:=hid (S2.out.below y3)
  have G3:Hid (GR pr w (w2.alloc (.cells #[.int .u8 3,.int .i64 0,.slice none 0 0,.slice none 0 0,.slice none 0 0] 36))):=hid (GR.trans1 G2.out (Grow.of y3))
  have HB3:=hid ((y3.block w.heap.size lt2).trans HB2.out)
  have TB3:=hid (Utf8Tabs_below TB2.out y3)
  have HNC:Hid (¬ w2.heap.size=pr):=hid (by omega)
  clear y3
  obtain ⟨q0,q1,q2,q3,q4⟩:=Z0x HC.out
  have qf:=Z0y HC.out
  go_wp2_with (go_at_call 162;refine Hid.out ?_)
  refine hid ?_
  refine (Y0O pr A n c b k2 bad2 _ S3.out).mono ?_
  rintro e w4 ⟨a,x,k4,bad4,rfl,⟨rfl,ha⟩,hs4,hg4,ht4⟩
  have T4:=hid ht4
  have S4:=hid hs4
  have G4:Hid (GR pr w w4):=hid (GR.trans1 G3.out hg4)
  have HC4:=hid ((hg4.block w2.heap.size (by simp) HNC.out).trans HC.out)
  have HB4:=hid ((hg4.block w.heap.size (Z0p HB3.out) HNE.out).trans HB3.out)
  have lt4:=Z0p HC4.out
  clear ht4 hs4 hg4 q0 q1 q2 q3 q4 qf
  obtain ⟨q0,q1,q2,q3,q4⟩:=Z0x HC4.out
  have qf:=Z0y HC4.out
  have HC5:Hid ((w4.setCell ⟨w2.heap.size,1,none⟩ (.int .i64 (a:Int))).heap[w2.heap.size]? = some (.cells #[.int .u8 3,.int .i64 (a:Int),.slice none 0 0,.slice none 0 0,.slice none 0 0] 36 (0,0))):=hid (by
   have h1:=Z0d (j:=1) HC4.out (.int .i64 (a:Int))
   simpa using h1)
  have HB5:=hid ((Below.heap_setCell w4 ⟨w2.heap.size,1,none⟩ (.int .i64 (a:Int)) w.heap.size (fun e=>by simp only at e;omega)).trans HB4.out)
  have S5:=hid (S4.out.setUp (g:=w2.heap.size) (by omega) 1 (.int .i64 (a:Int)))
  have G5:=hid (GR.setUp G4.out (g:=w2.heap.size) (by omega) 1 (.int .i64 (a:Int)))
  have z5:(w4.setCell ⟨w2.heap.size,1,none⟩ (.int .i64 (a:Int))).heap.size=w4.heap.size:=by simp [World.setCell]
  have tf5:=Z0y HB5.out
  obtain ⟨v0,v1,v2,v3,v4⟩:=Z0x HB5.out
  obtain ⟨u0,u1,u2,u3,u4⟩:=Z0x HC5.out
  go_wp2_with (fail)
  have p1:=Z2K HB5.out (.int .u8 3) (.int .i64 (a:Int)) (.slice none 0 0) (.slice none 0 0) (.slice none 0 0)
  refine bodyPost_ret (results_cell_row (P:=Tryz.prog) rfl _ _ w.heap.size 36 #[.int .u8 3,.int .i64 (a:Int),.slice none 0 0,.slice none 0 0,.slice none 0 0] (0,0) _ rfl p1 Tryz.unOpC rfl Tryz.szOpC) rfl ?_
  refine ⟨⟨3,a,[],[],[]⟩,_,k4,bad4,rfl,⟨none,0,none,0,none,0,rfl,⟨Ow.nil _ _,Ow.nil _ _,Ow.nil _ _⟩,?_⟩,(((((S5.out.setUp hpl _ _).setUp hpl _ _).setUp hpl _ _).setUp hpl _ _).setUp hpl _ _),(GR.setUp (GR.setUp (GR.setUp (GR.setUp (GR.setUp G5.out (Nat.le_refl _) _ _) (Nat.le_refl _) _ _) (Nat.le_refl _) _ _) (Nat.le_refl _) _ _) (Nat.le_refl _) _ _),?_⟩
  ·exact ⟨⟨by simp,by simp,by simp only;omega,by simp only;omega,rfl,(fun x hx=>by cases hx),(fun x hx=>by cases hx),by simp,by simp,by simp⟩,by simp,by simp,by simp,(fun x hx=>by cases hx),fun x hx=>by cases hx⟩
  ·exact Took.bind (Q:=pO1 n) T2.out ((Took.map (f:=fun a:Nat=>(⟨3,a,[],[],[]⟩:Opd)) T4.out).of_eq (fun x=>by unfold pO1;rw [if_neg (by omega),if_neg (by omega),if_pos rfl]))
 by_cases k2':kd=2
 ·subst k2'
  have y3:=Z0b w2 (.cells #[.int .u8 2,.int .i64 0,.slice none 0 0,.slice none 0 0,.slice none 0 0] 36)
  have HC:=hid (heap_alloc_new w2 (.cells #[.int .u8 2,.int .i64 0,.slice none 0 0,.slice none 0 0,.slice none 0 0] 36))
  have S3:=hid (S2.out.below y3)
  have G3:Hid (GR pr w (w2.alloc (.cells #[.int .u8 2,.int .i64 0,.slice none 0 0,.slice none 0 0,.slice none 0 0] 36))):=hid (GR.trans1 G2.out (Grow.of y3))
  have HB3:=hid ((y3.block w.heap.size lt2).trans HB2.out)
  have TB3:=hid (Utf8Tabs_below TB2.out y3)
  have HNC:Hid (¬ w2.heap.size=pr):=hid (by omega)
  clear y3
  obtain ⟨q0,q1,q2,q3,q4⟩:=Z0x HC.out
  have qf:=Z0y HC.out
  go_wp2_with (go_at_call 165;refine Hid.out ?_)
  refine hid ?_
  refine (Z6Z pr A n c b k2 bad2 _ S3.out).mono ?_
  rintro e w4 ⟨x,v,k4,bad4,rfl,⟨A4,c4,rfl,hc4,hrd,hu4,hl4⟩,hs4,hg4,ht4⟩
  have T4:=hid ht4
  have S4:=hid hs4
  have G4:Hid (GR pr w w4):=hid (GR.trans1 G3.out hg4)
  have HC4:=hid ((hg4.block w2.heap.size (by simp) HNC.out).trans HC.out)
  have HB4:=hid ((hg4.block w.heap.size (Z0p HB3.out) HNE.out).trans HB3.out)
  have TB4:=hid (Z9Q TB3.out S3.out hg4)
  have lt4:=Z0p HC4.out
  have RD4:=hid hrd
  have U4:=hid hu4
  have XL4:=hid hl4
  have XC4:=hid hc4
  obtain ⟨xl,hxl⟩:∃ X,x.length=X:=⟨_,rfl⟩
  have HXL:=hid hxl
  rw [hxl]
  clear ht4 hs4 hg4 q0 q1 q2 q3 q4 qf hrd hu4 hl4 hc4 hxl
  go_wp2_with (go_at_call 102;refine Hid.out ?_)
  refine hid ?_
  refine (Y0G A4 xl c4 x _ HXL.out.symm (by have:=XC4.out;rw [HXL.out] at this;exact this) RD4.out (by have:=XL4.out;have:=HXL.out;omega) U4.out TB4.out).mono ?_
  rintro e w5 ⟨v5,rfl,ho5,y5⟩
  have S5:=hid (S4.out.below y5)
  have G5:Hid (GR pr w w5):=hid (GR.trans1 G4.out (Grow.of y5))
  have HC5:=hid ((y5.block w2.heap.size lt4).trans HC4.out)
  have HB5:=hid ((y5.block w.heap.size (Z0p HB4.out)).trans HB4.out)
  have lt5:=Z0p HC5.out
  have z4:=Z0p HC4.out
  have f5:=S5.out.thaw 2
  obtain ⟨e0,e1,e2⟩:=S5.out.cells
  clear y5
  cases hr:Z1f x with
  | none=>
    rw [hr] at ho5
    simp only [Option.getD_none,Option.isSome_none,Bool.false_eq_true,if_false] at ho5 ⊢
    have TR:Hid (Took (pRd n) b k2 bad2 [] k4 true):=hid (T4.out.readBad hr)
    have OKR:Hid (okR []=true∧([]:List Int).length≤100000000):=hid ⟨rfl,by simp⟩
    have S6:=hid S5.out.setBad
    have G6:Hid (GR pr w (w5.setCell ⟨pr,2,none⟩ (.bool true))):=hid (GR.trans1 G5.out (GR.set _ _ _ _))
    have HC6:=hid ((Below.heap_setCell w5 ⟨pr,2,none⟩ (.bool true) w2.heap.size (fun e=>by simp only at e;omega)).trans HC5.out)
    have HB6:=hid ((Below.heap_setCell w5 ⟨pr,2,none⟩ (.bool true) w.heap.size (fun e=>by simp only at e;omega)).trans HB5.out)
    have O6:Hid (Z3k (w5.setCell ⟨pr,2,none⟩ (.bool true)) w4.heap.size v5 []):=hid (Z0N ho5 (by omega) _ _)
    obtain ⟨A5,c5,hv5,_,_⟩:=O6.out.form
    obtain ⟨rl,hrl⟩:∃ X,([]:List Int).length=X:=⟨_,rfl⟩
    rw [hrl] at hv5
    subst hv5
    have RL:=hid hrl
    clear ho5 hr hrl
    go_wp2_with (go_at_call 166;refine Hid.out ?_)
    refine hid ?_
    refine (Z8u pr A n c b k4 true _ S6.out).mono ?_
    rintro e w7 ⟨s,x7,k7,bad7,rfl,⟨As,cs,rfl,hsl,hown,hok⟩,hs7,hg7,ht7⟩
    have T7:=hid ht7
    have S7:=hid hs7
    have G7:Hid (GR pr w w7):=hid (GR.trans1 G6.out hg7)
    have HC7:=hid ((hg7.block w2.heap.size (Z0p HC6.out) HNC.out).trans HC6.out)
    have HB7:=hid ((hg7.block w.heap.size (Z0p HB6.out) HNE.out).trans HB6.out)
    have z6:w2.heap.size<(w5.setCell ⟨pr,2,none⟩ (.bool true)).heap.size:=Z0p HC6.out
    have OW:=hid (hown.base_le (B:=w2.heap.size+1) (by omega))
    have OI:=hid ((O6.out.gr hg7 (by omega)).base_le (B:=w2.heap.size+1) (by omega))
    have OKL:=hid hok
    clear ht7 hs7 hg7 hown hok e0 e1 e2 f5
    obtain ⟨q0,q1,q2,q3,q4⟩:=Z0x HC7.out
    have qf:=Z0y HC7.out
    have tf:=Z0y HB7.out
    obtain ⟨v0,v1,v2,v3,v4⟩:=Z0x HB7.out
    obtain ⟨sn,hsn⟩:∃ X,s.length=X:=⟨_,rfl⟩
    have HSN:=hid hsn
    rw [hsn]
    clear hsn
    go_wp2_with (fail)
    have p0:((w7.setCell ⟨w2.heap.size,2,none⟩ (.slice A5 rl c5)).setCell ⟨w2.heap.size,3,none⟩ (.slice As sn cs)).heap[w.heap.size]? = _:=((Below.heap_setCell _ ⟨w2.heap.size,3,none⟩ (.slice As sn cs) w.heap.size (fun e=>by simp only at e;omega)).trans (Below.heap_setCell w7 ⟨w2.heap.size,2,none⟩ (.slice A5 rl c5) w.heap.size (fun e=>by simp only at e;omega))).trans HB7.out
    have p1:=Z2K p0 (.int .u8 2) (.int .i64 0) (.slice A5 rl c5) (.slice As sn cs) (.slice none 0 0)
    refine bodyPost_ret (results_cell_row (P:=Tryz.prog) rfl _ _ w.heap.size 36 #[.int .u8 2,.int .i64 0,.slice A5 rl c5,.slice As sn cs,.slice none 0 0] (0,0) _ rfl p1 Tryz.unOpC rfl Tryz.szOpC) rfl ?_
    refine ⟨⟨2,0,[],s,[]⟩,_,k7,bad7,rfl,⟨A5,c5,As,cs,none,0,by rw [HSN.out,RL.out];rfl,⟨?_,?_,Ow.nil _ _⟩,?_⟩,(((((((S7.out.setUp (g:=w2.heap.size) (by omega) _ _).setUp (g:=w2.heap.size) (by omega) _ _).setUp hpl _ _).setUp hpl _ _).setUp hpl _ _).setUp hpl _ _).setUp hpl _ _),(GR.setUp (GR.setUp (GR.setUp (GR.setUp (GR.setUp (GR.setUp (GR.setUp G7.out (g:=w2.heap.size) (by omega) _ _) (g:=w2.heap.size) (by omega) _ _) (Nat.le_refl _) _ _) (Nat.le_refl _) _ _) (Nat.le_refl _) _ _) (Nat.le_refl _) _ _) (Nat.le_refl _) _ _),?_⟩
    ·have o1:=(Z0N (Z0N (Z0N (Z0N (Z0N (Z0N (Z0N OI.out (g:=w2.heap.size) (by omega) 2 (.slice A5 rl c5)) (g:=w2.heap.size) (by omega) 3 (.slice As sn cs)) (g:=w.heap.size) (by omega) 0 (.int .u8 2)) (g:=w.heap.size) (by omega) 1 (.int .i64 0)) (g:=w.heap.size) (by omega) 2 (.slice A5 rl c5)) (g:=w.heap.size) (by omega) 3 (.slice As sn cs)) (g:=w.heap.size) (by omega) 4 (.slice none 0 0)).base_le (B:=w.heap.size) (by omega)
     rw [←RL.out] at o1 ⊢
     exact o1
    ·have o1:=(Z0N (Z0N (Z0N (Z0N (Z0N (Z0N (Z0N OW.out (g:=w2.heap.size) (by omega) 2 (.slice A5 rl c5)) (g:=w2.heap.size) (by omega) 3 (.slice As sn cs)) (g:=w.heap.size) (by omega) 0 (.int .u8 2)) (g:=w.heap.size) (by omega) 1 (.int .i64 0)) (g:=w.heap.size) (by omega) 2 (.slice A5 rl c5)) (g:=w.heap.size) (by omega) 3 (.slice As sn cs)) (g:=w.heap.size) (by omega) 4 (.slice none 0 0)).base_le (B:=w.heap.size) (by omega)
     exact o1
    ·refine ⟨⟨by simp,by simp,by simp,by simp,OKR.out.1,fun x hx=>(OKL.out x hx).1,(fun x hx=>by cases hx),by have:=OKR.out.2;simp only;omega,by simp only;omega,by simp⟩,OKR.out.2,by simp only;omega,by simp,fun x hx=>(OKL.out x hx).2,fun x hx=>by cases hx⟩
    ·exact Took.bind (Q:=pO1 n) T2.out ((Took.bind (Q:=fun (r:List Int)=>fun x=>(sev n (pAt n) x).map fun z=>((⟨2,0,r,z.1,[]⟩:Opd),z.2)) TR.out (Took.map (f:=fun q:List At=>(⟨2,0,[],q,[]⟩:Opd)) T7.out)).of_eq (fun x=>Y8k n x))
  | some l=>
    rw [hr] at ho5
    simp only [Option.getD_some,Option.isSome_some,if_true] at ho5 ⊢
    have TR:=hid (T4.out.readOk hr)
    have OKR:Hid (okR l=true∧l.length≤100000000):=hid ⟨(Z7w U4.out hr).1,Nat.le_trans (Y20 U4.out hr) XL4.out⟩
    have S6:=S5
    have G6:=G5
    have HC6:=HC5
    have HB6:=HB5
    have O6:=hid ho5
    obtain ⟨A5,c5,hv5,_,_⟩:=O6.out.form
    obtain ⟨rl,hrl⟩:∃ X,(l:List Int).length=X:=⟨_,rfl⟩
    rw [hrl] at hv5
    subst hv5
    have RL:=hid hrl
    clear ho5 hr hrl
    go_wp2_with (go_at_call 166;refine Hid.out ?_)
    refine hid ?_
    refine (Z8u pr A n c b k4 bad4 _ S6.out).mono ?_
    rintro e w7 ⟨s,x7,k7,bad7,rfl,⟨As,cs,rfl,hsl,hown,hok⟩,hs7,hg7,ht7⟩
    have T7:=hid ht7
    have S7:=hid hs7
    have G7:Hid (GR pr w w7):=hid (GR.trans1 G6.out hg7)
    have HC7:=hid ((hg7.block w2.heap.size (Z0p HC6.out) HNC.out).trans HC6.out)
    have HB7:=hid ((hg7.block w.heap.size (Z0p HB6.out) HNE.out).trans HB6.out)
    have z6:w2.heap.size<w5.heap.size:=Z0p HC6.out
    have OW:=hid (hown.base_le (B:=w2.heap.size+1) (by omega))
    have OI:=hid ((O6.out.gr hg7 (by omega)).base_le (B:=w2.heap.size+1) (by omega))
    have OKL:=hid hok
    clear ht7 hs7 hg7 hown hok e0 e1 e2 f5
    obtain ⟨q0,q1,q2,q3,q4⟩:=Z0x HC7.out
    have qf:=Z0y HC7.out
    have tf:=Z0y HB7.out
    obtain ⟨v0,v1,v2,v3,v4⟩:=Z0x HB7.out
    obtain ⟨sn,hsn⟩:∃ X,s.length=X:=⟨_,rfl⟩
    have HSN:=hid hsn
    rw [hsn]
    clear hsn
    go_wp2_with (fail)
    have p0:((w7.setCell ⟨w2.heap.size,2,none⟩ (.slice A5 rl c5)).setCell ⟨w2.heap.size,3,none⟩ (.slice As sn cs)).heap[w.heap.size]? = _:=((Below.heap_setCell _ ⟨w2.heap.size,3,none⟩ (.slice As sn cs) w.heap.size (fun e=>by simp only at e;omega)).trans (Below.heap_setCell w7 ⟨w2.heap.size,2,none⟩ (.slice A5 rl c5) w.heap.size (fun e=>by simp only at e;omega))).trans HB7.out
    have p1:=Z2K p0 (.int .u8 2) (.int .i64 0) (.slice A5 rl c5) (.slice As sn cs) (.slice none 0 0)
    refine bodyPost_ret (results_cell_row (P:=Tryz.prog) rfl _ _ w.heap.size 36 #[.int .u8 2,.int .i64 0,.slice A5 rl c5,.slice As sn cs,.slice none 0 0] (0,0) _ rfl p1 Tryz.unOpC rfl Tryz.szOpC) rfl ?_
    refine ⟨⟨2,0,l,s,[]⟩,_,k7,bad7,rfl,⟨A5,c5,As,cs,none,0,by rw [HSN.out,RL.out];rfl,⟨?_,?_,Ow.nil _ _⟩,?_⟩,(((((((S7.out.setUp (g:=w2.heap.size) (by omega) _ _).setUp (g:=w2.heap.size) (by omega) _ _).setUp hpl _ _).setUp hpl _ _).setUp hpl _ _).setUp hpl _ _).setUp hpl _ _),(GR.setUp (GR.setUp (GR.setUp (GR.setUp (GR.setUp (GR.setUp (GR.setUp G7.out (g:=w2.heap.size) (by omega) _ _) (g:=w2.heap.size) (by omega) _ _) (Nat.le_refl _) _ _) (Nat.le_refl _) _ _) (Nat.le_refl _) _ _) (Nat.le_refl _) _ _) (Nat.le_refl _) _ _),?_⟩
    ·have o1:=(Z0N (Z0N (Z0N (Z0N (Z0N (Z0N (Z0N OI.out (g:=w2.heap.size) (by omega) 2 (.slice A5 rl c5)) (g:=w2.heap.size) (by omega) 3 (.slice As sn cs)) (g:=w.heap.size) (by omega) 0 (.int .u8 2)) (g:=w.heap.size) (by omega) 1 (.int .i64 0)) (g:=w.heap.size) (by omega) 2 (.slice A5 rl c5)) (g:=w.heap.size) (by omega) 3 (.slice As sn cs)) (g:=w.heap.size) (by omega) 4 (.slice none 0 0)).base_le (B:=w.heap.size) (by omega)
     rw [←RL.out] at o1 ⊢
     exact o1
    ·have o1:=(Z0N (Z0N (Z0N (Z0N (Z0N (Z0N (Z0N OW.out (g:=w2.heap.size) (by omega) 2 (.slice A5 rl c5)) (g:=w2.heap.size) (by omega) 3 (.slice As sn cs)) (g:=w.heap.size) (by omega) 0 (.int .u8 2)) (g:=w.heap.size) (by omega) 1 (.int .i64 0)) (g:=w.heap.size) (by omega) 2 (.slice A5 rl c5)) (g:=w.heap.size) (by omega) 3 (.slice As sn cs)) (g:=w.heap.size) (by omega) 4 (.slice none 0 0)).base_le (B:=w.heap.size) (by omega)
     exact o1
    ·refine ⟨⟨by simp,by simp,by simp,by simp,OKR.out.1,fun x hx=>(OKL.out x hx).1,(fun x hx=>by cases hx),by have:=OKR.out.2;simp only;omega,by simp only;omega,by simp⟩,OKR.out.2,by simp only;omega,by simp,fun x hx=>(OKL.out x hx).2,fun x hx=>by cases hx⟩
    ·exact Took.bind (Q:=pO1 n) T2.out ((Took.bind (Q:=fun (r:List Int)=>fun x=>(sev n (pAt n) x).map fun z=>((⟨2,0,r,z.1,[]⟩:Opd),z.2)) TR.out (Took.map (f:=fun q:List At=>(⟨2,0,l,q,[]⟩:Opd)) T7.out)).of_eq (fun x=>Y8k n x))
 have b1:((kd:Int)==1)=false:=beq_eq_false_iff_ne.2 (by omega)
 have b2:((kd:Int)==2)=false:=beq_eq_false_iff_ne.2 (by omega)
 have b3:((kd:Int)==3)=false:=beq_eq_false_iff_ne.2 (by omega)
 have HN:Hid (pO1 n kd (b.drop k2)=none):=hid (by unfold pO1;rw [if_neg k1,if_neg k2',if_neg k3])
 clear k1 k2' k3
 have y3:=Z0b w2 (.cells #[.int .u8 (kd:Int),.int .i64 0,.slice none 0 0,.slice none 0 0,.slice none 0 0] 36)
 have HC:=hid (heap_alloc_new w2 (.cells #[.int .u8 (kd:Int),.int .i64 0,.slice none 0 0,.slice none 0 0,.slice none 0 0] 36))
 have S3:=hid (S2.out.below y3)
 have G3:Hid (GR pr w (w2.alloc (.cells #[.int .u8 (kd:Int),.int .i64 0,.slice none 0 0,.slice none 0 0,.slice none 0 0] 36))):=hid (GR.trans1 G2.out (Grow.of y3))
 have HB3:=hid ((y3.block w.heap.size lt2).trans HB2.out)
 have TB3:=hid (Utf8Tabs_below TB2.out y3)
 have HNC:Hid (¬ w2.heap.size=pr):=hid (by omega)
 clear y3
 obtain ⟨q0,q1,q2,q3,q4⟩:=Z0x HC.out
 have qf:=Z0y HC.out
 have tf:=Z0y HB2.out
 obtain ⟨v0,v1,v2,v3,v4⟩:=Z0x HB2.out
 have s2:=S2.out.thaw 2
 obtain ⟨e0,e1,e2⟩:=S2.out.cells
 have s3:=S3.out.thaw 2
 obtain ⟨f0,f1,f2⟩:=S3.out.cells
 have tf3:=Z0y HB3.out
 obtain ⟨x0,x1,x2,x3,x4⟩:=Z0x HB3.out
 go_wp2_with (fail)
 have p0:=(Below.heap_setCell (w2.alloc (.cells #[.int .u8 (kd:Int),.int .i64 0,.slice none 0 0,.slice none 0 0,.slice none 0 0] 36)) ⟨pr,2,none⟩ (.bool true) w.heap.size (fun e=>by simp only at e;omega)).trans HB3.out
 have p1:=Z2K p0 (.int .u8 (kd:Int)) (.int .i64 0) (.slice none 0 0) (.slice none 0 0) (.slice none 0 0)
 refine bodyPost_ret (results_cell_row (P:=Tryz.prog) rfl _ _ w.heap.size 36 #[.int .u8 (kd:Int),.int .i64 0,.slice none 0 0,.slice none 0 0,.slice none 0 0] (0,0) _ rfl p1 Tryz.unOpC rfl Tryz.szOpC) rfl ?_
 refine ⟨⟨kd,0,[],[],[]⟩,_,k2,true,rfl,⟨none,0,none,0,none,0,rfl,⟨Ow.nil _ _,Ow.nil _ _,Ow.nil _ _⟩,?_⟩,(((((S3.out.setBad.setUp hpl _ _).setUp hpl _ _).setUp hpl _ _).setUp hpl _ _).setUp hpl _ _),(GR.setUp (GR.setUp (GR.setUp (GR.setUp (GR.setUp (GR.trans1 G3.out (GR.set _ _ _ _)) (Nat.le_refl _) _ _) (Nat.le_refl _) _ _) (Nat.le_refl _) _ _) (Nat.le_refl _) _ _) (Nat.le_refl _) _ _),?_⟩
 ·exact ⟨⟨by simp only;omega,by simp only;omega,by simp,by simp,rfl,(fun x hx=>by cases hx),(fun x hx=>by cases hx),by simp,by simp,by simp⟩,by simp,by simp,by simp,(fun x hx=>by cases hx),fun x hx=>by cases hx⟩
 ·exact Took.bind (Q:=pO1 n) T2.out (Z2b HN.out)
def OffO (g:Option Nat) (x:OpS):Prop:=
 (∀ j,wb (.slice x.Ar x.o.r.length x.cr)=some j→g≠some j)∧(∀ j,wb (.slice x.As x.o.s.length x.cs)=some j→g≠some j)∧(∀ j,wb (.slice x.Ap x.o.p.length x.cp)=some j→g≠some j)
theorem PartO.gr {w w':World} {B pr:Nat} {x:OpS} (h:PartO w B x) (g:GR pr w w') (hb:pr<B):PartO w' B x:=⟨h.1.gr g hb,h.2.1.gr g hb,h.2.2.gr g hb⟩
theorem PartO.le {w:World} {B C:Nat} {x:OpS} (h:PartO w B x) (hb:C≤B):PartO w C x:=⟨h.1.base_le hb,h.2.1.base_le hb,h.2.2.base_le hb⟩
theorem Z6f {α:Type} {enc:α→List Value} {size:Nat} {e:TypeId} {w3 w4:World} {B:Nat} {v u:Value} {o:Obj} {l:List α} (h:Ow enc size e w3 B u l) (hg:(w3.alloc o).grownBy w4 (wb v)) (hn:∀ j,wb u=some j→wb v≠some j):Ow enc size e w4 B u l:=
 h.keep fun k hk=>by
  have hlt:=(h.wb_lt k hk).2
  rw [hg.block k (by rw [World.size_alloc];omega) (fun e=>hn k hk e.symm),Below.heap_alloc w3 o k hlt]
theorem PartO.grown {w3 w4:World} {B:Nat} {v:Value} {o:Obj} {x:OpS} (h:PartO w3 B x) (hg:(w3.alloc o).grownBy w4 (wb v)) (hn:OffO (wb v) x):PartO w4 B x:=
 ⟨Z6f h.1 hg hn.1,Z6f h.2.1 hg hn.2.1,Z6f h.2.2 hg hn.2.2⟩
theorem OffO.low {w:World} {B g:Nat} {x:OpS} (h:PartO w B x) (hg:g<B):OffO (some g) x:=
 ⟨fun j hj e=>by injection e with e;have:=(h.1.wb_lt j hj).1;omega,fun j hj e=>by injection e with e;have:=(h.2.1.wb_lt j hj).1;omega,fun j hj e=>by injection e with e;have:=(h.2.2.wb_lt j hj).1;omega⟩
theorem OffO.none' {x:OpS}:OffO none x:=⟨(fun _ _ e=>by cases e),(fun _ _ e=>by cases e),(fun _ _ e=>by cases e)⟩
theorem OffO.high {w:World} {B g:Nat} {x:OpS} (h:PartO w B x) (hg:w.heap.size≤g):OffO (some g) x:=
 ⟨fun j hj e=>by injection e with e;have:=(h.1.wb_lt j hj).2;omega,fun j hj e=>by injection e with e;have:=(h.2.1.wb_lt j hj).2;omega,fun j hj e=>by injection e with e;have:=(h.2.2.wb_lt j hj).2;omega⟩
def Y7h (B n:Nat) (l:List Opd) (x:Value) (w:World):Prop := ∃ A c L,x=.slice A L.length c∧osOf L=l∧L.length≤n∧OwOs w B (.slice A L.length c) L∧∀ z∈L,PartO w B z∧Z9R z.o
theorem Y3n (pr:Nat) (A:Option Addr) (n c:Nat) (b:List Int) (k:Nat) (bad:Bool) (w:World) (h:RS w pr A n c b k bad) (hT:Utf8Tabs 0 1 w) :
 Calls Tryz.prog 84 #[.pointer (some ⟨pr,0,none⟩),.func (.func 85) #[.pointer (some ⟨pr,0,none⟩)] #[]] w (OutR (sev n (pO n)) (Y7h w.heap.size n) w pr A n c b k bad):=by
 have hpl:=Z0p h.box
 have hsm:=h.small
 have H:=hid h
 have HTB:=hid hT
 obtain ⟨r0,r1,r2⟩:=h.cells
 have hwn:IntKind.u64.wrap (n:Int)=(n:Int):=IntWalk.u64_in _ (by omega)
 clear h hT
 go_enter Tryz.func84,Tryz.ntmps84
 go_wp2_with (go_at_call 161;refine Hid.out ?_)
 refine hid ?_
 refine (Z12 pr n A n c b k bad _ (by omega) H.out).mono ?_
 rintro e w2 ⟨a0,x,k0,bad0,rfl,⟨rfl,ha0⟩,hs2,hg2,ht2⟩
 have T2:=hid ht2
 have S2:=hid hs2
 have G2:=hid hg2
 clear ht2 hs2 hg2 r0 r1 r2
 go_wp2_with (fail)
 go_loopg [4,5] a0 (fun g lv nv wr => ∃ (m:Nat) (L:List OpS) (v:Value) (w1:World) (k1:Nat) (bad1:Bool),g=m∧m+L.length=a0∧nv=.int .u64 (m:Int)∧v=lv∧w1=wr∧Hid (RS w1 pr A n c b k1 bad1)∧Hid (GR pr w w1)∧Hid (OwOs w1 w.heap.size v L)∧Hid (Took (many (pO n) L.length) b k0 bad0 (osOf L) k1 bad1)∧Hid (∀ z∈L,(PartO w1 w.heap.size z∧Z9R z.o)∧OffO (wb v) z))
 case atStart=>exact ⟨a0,[],_,w2,k0,bad0,rfl,by simp,rfl,rfl,rfl,S2,G2,hid (Ow.nil _ _),hid (Z1R rfl rfl),hid (fun a ha=>by cases ha)⟩
 case round=>
  obtain ⟨m,L,v,w1,k1,bad1,hg,hml,rfl,rfl,rfl,HS,HG,HO,HT,HK⟩:=hrel
  have GM:=hid hg
  have ML:=hid hml
  clear hg
  obtain ⟨r0,r1,r2⟩:=HS.out.cells
  obtain ⟨vA,vc,hvv,hvc,_⟩:=HO.out.form
  have HVV:=hid hvv
  clear hvv hvc
  by_cases hm:0<m
  ·cases bad1 with
   | true=>
     have HT2:Hid (Took (sev n (pO n)) b k bad (osOf L) k1 true):=hid (Took.bind (Q:=fun j=>many (pO n) j) T2.out (HT.out.manyBad (by omega)))
     go_wp2_with (fail)
     go_ret
     exact ⟨osOf L,_,k1,true,rfl,⟨vA,vc,L,HVV.out,rfl,by have:=ML.out;omega,by have h1:=HO.out;rw [HVV.out] at h1;exact h1,fun z hz=>(HK.out z hz).1⟩,HS.out,HG.out,HT2.out⟩
   | false=>
     have hm1:IntKind.u64.wrap ((m:Int)-1)=((m-1:Nat):Int):=by rw [IntWalk.u64_in _ (by omega)];omega
     have hll:L.length≤100000000:=by have:=ML.out;omega
     have hgz1:w.heap.size≤w1.heap.size:=HG.out.size
     have TB1:=hid (Z9Q HTB.out H.out HG.out)
     go_wp2_with (first
      | (go_at_call 85
         refine (Y7g pr A n c b k1 false _ HS.out TB1.out).mono ?_
         rintro e w3 ⟨⟨ak,an,ar,as_,ap⟩,x,k3,bad3,rfl,⟨Ar,cr,As,cs,Ap,cp,rfl,hpt,hfine⟩,hs3,hg3,ht3⟩
         simp only
         have T3:Hid (Took (many (pO n) (L.length+1)) b k0 bad0 (osOf (L++[⟨⟨ak,an,ar,as_,ap⟩,Ar,cr,As,cs,Ap,cp⟩])) k3 bad3):=hid (by
          have h1:=HT.out.snoc ht3
          unfold osOf at h1 ⊢
          rw [List.map_append]
          exact h1)
         have S3:=hid hs3
         have G3:Hid (GR pr w w3):=hid (GR.trans1 HG.out hg3)
         have O3:=hid (HO.out.gr hg3 hpl)
         have PT3:=hid hpt
         have FN3:=hid hfine
         have HK3:Hid (∀ z∈L,(PartO w3 w.heap.size z∧Z9R z.o)∧OffO (wb v) z):=hid (fun z hz=>⟨⟨(HK.out z hz).1.1.gr hg3 hpl,(HK.out z hz).1.2⟩,(HK.out z hz).2⟩)
         have hsz3:=hg3.size
         have hgz:w.heap.size≤w3.heap.size:=G3.out.size
         clear ht3 hs3 hg3 hpt hfine)
      | (at_builtin
         refine Y0R (m:=[⟨⟨ak,an,ar,as_,ap⟩,Ar,cr,As,cs,Ap,cp⟩]) rfl (.tmp 25) (.tmp 28) rfl rfl (O3.out.alloc _) _ _ _ _ rfl rfl (Rd.new (enc:=OpS.enc) (size:=5) OpS.enc_len w3 36 [⟨⟨ak,an,ar,as_,ap⟩,Ar,cr,As,cs,Ap,cp⟩] (cs:=#[.int .u8 ak,.int .i64 an,.slice Ar ar.length cr,.slice As as_.length cs,.slice Ap ap.length cp]) rfl rfl) (by simp only [List.length_cons,List.length_nil];omega) (by rw [World.size_alloc];omega) ?_
         intro v' w4 hown' hgr hv'
         have O4:=hid hown'
         have S4:=hid (S3.out.grown hgr (fun j hj=>by have:=(O3.out.wb_lt j hj).1;omega))
         have G4:=hid (G3.out.grown hgr (fun j hj=>(O3.out.wb_lt j hj).1))
         have OFN:Hid (OffO (wb v) ⟨⟨ak,an,ar,as_,ap⟩,Ar,cr,As,cs,Ap,cp⟩):=hid (by
          cases hwb:wb v with
          | none=>exact OffO.none'
          | some g=>exact OffO.low PT3.out (HO.out.wb_lt g hwb).2)
         have K4:Hid (∀ z∈L++[⟨⟨ak,an,ar,as_,ap⟩,Ar,cr,As,cs,Ap,cp⟩],(PartO w4 w.heap.size z∧Z9R z.o)∧OffO (wb v') z):=hid (fun z hz=>by
          have key:(PartO w3 w.heap.size z∧Z9R z.o)∧OffO (wb v) z:=by
           rcases List.mem_append.1 hz with hz|hz
           ·exact HK3.out z hz
           ·simp only [List.mem_singleton] at hz
            subst hz
            exact ⟨⟨PT3.out.le hgz1,FN3.out⟩,OFN.out⟩
          refine ⟨⟨key.1.1.grown hgr key.2,key.1.2⟩,?_⟩
          rcases hv' with ⟨rfl,_⟩|h|h
          ·exact key.2
          ·rw [h];exact key.2
          ·rw [h];exact OffO.high key.1.1 (by rw [World.size_alloc];omega))
         clear hgr hv' hown'))
     go_wp2_with (fail)
     go_roundg (m-1)
     case measure=>have:=GM.out;omega
     case rel=>
      exact ⟨m-1,L++[⟨⟨ak,an,ar,as_,ap⟩,Ar,cr,As,cs,Ap,cp⟩],_,_,k3,bad3,rfl,by have:=ML.out;simp only [List.length_append,List.length_cons,List.length_nil];omega,by first|rw [hm1]|go_num,rfl,rfl,S4,G4,O4,hid (by rw [List.length_append];exact T3.out),K4⟩
  ·have HE:Hid (L.length=a0):=hid (by omega)
   have HT2:Hid (Took (sev n (pO n)) b k bad (osOf L) k1 bad1):=hid (Took.bind (Q:=fun j=>many (pO n) j) T2.out (by have:=HT.out;rw [HE.out] at this;exact this))
   have m0:m=0:=by omega
   subst m0
   go_wp2_with (fail)
   go_ret
   exact ⟨osOf L,_,k1,bad1,rfl,⟨vA,vc,L,HVV.out,rfl,by have:=HE.out;omega,by have h1:=HO.out;rw [HVV.out] at h1;exact h1,fun z hz=>(HK.out z hz).1⟩,HS.out,HG.out,HT2.out⟩
def cn:List Un→List Un→Nat→List Un
 | [],I,g=>I++List.replicate g .del
 | .ins r s::us,I,g=>cn us (I++[.ins r s]) g
 | .del::us,I,g=>cn us I (g+1)
 | .ret p::us,I,g=>I++List.replicate g .del ++ .ret p::cn us [] 0
def Z1C (us:List Un):List Un:=cn us [] 0
def nf (us:List Un):List Un:=trim (Z1C us)
def Z0j:List Un→Nat
 | []=>0
 | .ins _ _::us=>Z0j us
 | _::us=>Z0j us+1
def Z0q:List Un→Nat
 | []=>0
 | .del::us=>Z0q us
 | _::us=>Z0q us+1
theorem Z1H (p:List Ch) (us:List Un):Z0j (.ret p::us)=Z0j us+1:=rfl
theorem Z2y (us:List Un):Z0j (.del::us)=Z0j us+1:=rfl
theorem Z2z (r:Int) (s:List At) (us:List Un):Z0j (.ins r s::us)=Z0j us:=rfl
theorem Z4l (p:List Ch) (us:List Un):Z0q (.ret p::us)=Z0q us+1:=rfl
theorem Z7N (us:List Un):Z0q (.del::us)=Z0q us:=rfl
theorem Y0U (r:Int) (s:List At) (us:List Un):Z0q (.ins r s::us)=Z0q us+1:=rfl
theorem Z0K (a b:List Un):Z0j (a++b)=Z0j a+Z0j b:=by
 induction a with
 | nil=>simp [Z0j]
 | cons u a ih=>cases u<;>simp [Z0j,ih]<;>omega
theorem Z0V (a b:List Un):Z0q (a++b)=Z0q a+Z0q b:=by
 induction a with
 | nil=>simp [Z0q]
 | cons u a ih=>cases u<;>simp [Z0q,ih]<;>omega
theorem Z2L (g:Nat):Z0j (List.replicate g .del)=g:=by induction g with|zero=>rfl|succ g ih=>rw [List.replicate_succ,Z2y,ih]
theorem Z4J (g:Nat):Z0q (List.replicate g .del)=0:=by induction g with|zero=>rfl|succ g ih=>rw [List.replicate_succ,Z7N,ih]
theorem Y5j (us:List Un):∀ (I:List Un) (g:Nat),Z0j (cn us I g)=Z0j I+g+Z0j us:=by
 induction us with
 | nil=>intro I g;simp [cn,Z0K,Z2L,Z0j]
 | cons u us ih=>
   intro I g
   cases u with
   | ins r s=>rw [cn,ih,Z0K];simp [Z0j]
   | del=>rw [cn,ih];simp [Z0j];omega
   | ret p=>rw [cn,Z0K,Z0K,Z2L,Z1H,Z1H,ih];simp [Z0j];try omega
theorem Y5k (us:List Un):∀ (I:List Un) (g:Nat),Z0q (cn us I g)=Z0q I+Z0q us:=by
 induction us with
 | nil=>intro I g;simp [cn,Z0V,Z4J,Z0q]
 | cons u us ih=>
   intro I g
   cases u with
   | ins r s=>rw [cn,ih,Z0V];simp [Z0q];omega
   | del=>rw [cn,ih];simp [Z0q]
   | ret p=>rw [cn,Z0V,Z0V,Z4J,Z4l,Z4l,ih];simp [Z0q];try omega
theorem Z6g (us:List Un):Z0j (Z1C us)=Z0j us:=by rw [Z1C,Y5j];simp [Z0j]
theorem Z6h (us:List Un):Z0q (Z1C us)=Z0q us:=by rw [Z1C,Y5k];simp [Z0q]
theorem Y8l (l:List Int) (s:List At) (us:List Un):∀ (I:List Un) (g:Nat),cn (l.map (fun r=>Un.ins r s)++us) I g=cn us (I++l.map (fun r=>Un.ins r s)) g:=by
 induction l with
 | nil=>intro I g;simp
 | cons r l ih=>intro I g;show cn (l.map _++us) (I++[.ins r s]) g=_;rw [ih];simp
theorem Y3o (k:Nat) (us:List Un):∀ (I:List Un) (g:Nat),cn (List.replicate k .del++us) I g=cn us I (g+k):=by
 induction k with
 | zero=>intro I g;simp
 | succ k ih=>intro I g;rw [List.replicate_succ];show cn (List.replicate k .del++us) I (g+1)=_;rw [ih];congr 1;omega
theorem Y8m (k:Nat) (p:List Ch) (us:List Un) (I:List Un) (g:Nat):cn (List.replicate (k+1) (.ret p)++us) I g=I++List.replicate g .del++List.replicate (k+1) (.ret p)++cn us [] 0:=by
 have h:∀ k,cn (List.replicate k (.ret p)++us) [] 0=List.replicate k (.ret p)++cn us [] 0:=by
  intro k
  induction k with
  | zero=>rfl
  | succ k ih=>rw [List.replicate_succ];show []++List.replicate 0 .del ++ .ret p::cn (List.replicate k (.ret p)++us) [] 0=_;rw [ih];simp
 rw [List.replicate_succ]
 show I++List.replicate g .del ++ .ret p::cn (List.replicate k (.ret p)++us) [] 0=_
 rw [h];simp
def Told (m:Mk) (us:List Un):Prop:=
 ∃ K I g,MkAt m K I g∧(∀ rest,Z1C (us++rest)=K++cn rest I g)∧K.length+I.length+g=us.length
theorem Told.new:Told Mk.new []:=⟨[],[],0,MkAt.new,fun rest=>rfl,rfl⟩
theorem Told.retain {m:Mk} {us:List Un} (h:Told m us) (n:Int) (p:List Ch) (hb:(us.length:Int)+n≤4611686018427387904):Told (Z0v m n p) (us++List.replicate n.toNat (.ret p)):=by
 obtain ⟨K,I,g,h1,h2,h3⟩:=h
 by_cases hn:n<1
 ·have:n.toNat=0:=by omega
  rw [this]
  exact ⟨K,I,g,h1.retain0 hn,fun rest=>by rw [List.replicate_zero,List.append_nil];exact h2 rest,by simpa using h3⟩
 ·obtain ⟨k,hk⟩:∃ k,n.toNat=k+1:=⟨n.toNat-1,by omega⟩
  refine ⟨_,[],0,h1.retain (p:=p) (by omega) (by rw [h3];exact hb),fun rest=>?_,?_⟩
  ·rw [List.append_assoc,h2,hk,Y8m];simp only [List.append_assoc]
  ·simp only [List.length_append,List.length_replicate,List.length_nil];omega
theorem Told.insert {m:Mk} {us:List Un} (h:Told m us) (l:List Int) (s:List At):Told (Z0J m l s) (us++l.map (fun r=>Un.ins r s)):=by
 obtain ⟨K,I,g,h1,h2,h3⟩:=h
 refine ⟨K,_,g,h1.insert l s,fun rest=>by rw [List.append_assoc,h2,Y8l],by simp;omega⟩
theorem Told.delete {m:Mk} {us:List Un} (h:Told m us) (n:Int) (hb:(us.length:Int)+n≤4611686018427387904) (hb2:us.length≤4611686018427387904):Told (Z2u m n) (us++List.replicate n.toNat .del):=by
 obtain ⟨K,I,g,h1,h2,h3⟩:=h
 refine ⟨K,I,_,h1.delete (n:=n) (by omega) (by omega),fun rest=>by rw [List.append_assoc,h2,Y3o],by simp;omega⟩
theorem Told.ops {m:Mk} {us:List Un} (h:Told m us):Z1q (Z1j m)∧Z0i (Z1j m)=nf us:=by
 obtain ⟨K,I,g,h1,h2,h3⟩:=h
 obtain ⟨g1,g2⟩:=h1.ops
 refine ⟨g1,?_⟩
 rw [g2,nf]
 have:=h2 []
 rw [List.append_nil] at this
 rw [this]
 simp [cn,List.append_assoc]
theorem Y5l (us:List Un):∀ (I:List Un) (g:Nat),(∀ u∈I,∃ r s,u=.ins r s)→Z1C (cn us I g)=cn us I g:=by
 have hI:∀ (I:List Un) (J rest:List Un) (g:Nat),(∀ u∈I,∃ r s,u=.ins r s)→cn (I++rest) J g=cn rest (J++I) g:=by
  intro I
  induction I with
  | nil=>intro J rest g _;simp
  | cons u I ih=>
    intro J rest g h
    obtain ⟨r,s,rfl⟩:=h u (by simp)
    show cn (I++rest) (J++[.ins r s]) g=_
    rw [ih _ _ _ (fun v hv=>h v (List.mem_cons_of_mem _ hv))];simp
 induction us with
 | nil=>
   intro I g h
   show cn (I++List.replicate g .del) [] 0=_
   rw [hI I [] _ 0 h]
   have:=Y3o g [] ([]++I) 0
   rw [List.append_nil] at this
   rw [this];simp [cn]
 | cons u us ih=>
   intro I g h
   cases u with
   | ins r s=>
     rw [cn]
     exact ih _ _ (fun v hv=>by rcases List.mem_append.1 hv with hv|hv;exact h v hv;simp at hv;exact ⟨r,s,hv⟩)
   | del=>rw [cn];exact ih _ _ h
   | ret p=>
     rw [cn]
     show cn (I++List.replicate g .del ++ .ret p::cn us [] 0) [] 0=_
     rw [List.append_assoc,hI I [] _ 0 h,Y3o,cn]
     have:=ih [] 0 (by simp)
     unfold Z1C at this
     rw [this];simp
theorem Z9S (us:List Un):Z1C (Z1C us)=Z1C us:=Y5l us [] 0 (by simp)
theorem Z6L (us:List Un) (p:List Ch):Z1C (us++[.ret p])=Z1C us++[.ret p]:=by
 have h:∀ (us I:List Un) (g:Nat),cn (us++[.ret p]) I g=cn us I g++[.ret p]:=by
  intro us
  induction us with
  | nil=>intro I g;simp [cn]
  | cons u us ih=>intro I g;cases u<;>simp [cn,ih]
 exact h us [] 0
theorem Y1V {us:List Un} (h:Z1C us=us):Z1C (trim us)=trim us:=by
 have key:∀ n (us:List Un),us.length=n→Z1C us=us→Z1C (trim us)=trim us:=by
  intro n
  induction n with
  | zero=>intro us hn _;have:us=[]:=List.eq_nil_of_length_eq_zero hn;subst this;rfl
  | succ n ih=>
    intro us hn h
    rcases List.eq_nil_or_concat us with rfl | ⟨t,u,rfl⟩
    ·rfl
    ·rw [List.concat_eq_append] at h hn ⊢
     by_cases hu:u=.ret []
     ·subst hu
      rw [Z6a]
      rw [Z6L] at h
      exact ih t (by simpa using hn) (List.append_cancel_right h)
     ·rw [Z3u hu];exact h
 exact key _ us rfl h
theorem Y1W (us:List Un):trim (trim us)=trim us:=by
 induction us with
 | nil=>rfl
 | cons u us ih=>
   rw [trim]
   cases ht:trim us with
   | nil=>
     simp only
     by_cases hu:u=.ret []
     ·rw [if_pos hu];rfl
     ·rw [if_neg hu,Z2v (.inr hu)];rfl
   | cons v vs=>
     simp only
     rw [ht] at ih
     rw [Z2v (.inl (by rw [ih];simp)),ih]
theorem Y5m (us:List Un):nf (nf us)=nf us:=by
 unfold nf
 rw [Y1V (Z9S us),Y1W]
end Go.Proofs.YtnmedachaeanbaaGreatDoor
