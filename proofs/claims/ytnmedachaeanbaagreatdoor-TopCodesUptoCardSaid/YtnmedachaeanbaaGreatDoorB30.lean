/- Merged texts. -/
import Derived.Test.YtnmedachaeanbaaGreatDoorB29
namespace Go.Proofs.YtnmedachaeanbaaGreatDoor
set_option maxRecDepth 100000
set_option maxHeartbeats 3200000
open Go.RowKit Go.Shelf
open Go.Lib (hid Utf8Tabs)
set_option linter.unusedVariables false
set_option linter.unusedSimpArgs false
def Un2 (G:Nat→Prop) (B:Nat) (k:Nat):Prop:=G k∨k=B∨k=B+1
def JL (I:List Cl→(Nat→Prop)→World→Prop) (B:Nat) (L:Loop) (p:List Cl) (G:Nat→Prop) (W:World):Prop:=
 ∃ G0,I p G0 W∧(∀ k,G k↔Un2 G0 B k)∧W.heap[B+1]? = some (.loop L)∧W.heap[B]? = some (.deferred (some []))
theorem Z1z {W:World} {F:Nat→Prop} {l:Nat} (o:Obj) (hl:F l):Grow W F (W.putObj l o) F:=
 ⟨rfl,rfl,rfl,by simp,fun j hj hn=>World.putObj_heap_other (fun e=>hn (by rw [e];exact hl)),fun _ h=>.inl h⟩
theorem Grow.un2 {w w':World} {F F':Nat→Prop} {B:Nat} (h:Grow w F w' F'):Grow w (Un2 F B) w' (Un2 F' B):=
 ⟨h.os,h.tape,h.output,h.size,fun j hj hn=>h.block j hj (fun e=>hn (.inl e)),fun k hk=>by
  rcases hk with h1|h1
  ·rcases h.foot k h1 with h2|h2
   ·exact .inl (.inl h2)
   ·exact .inr h2
  ·exact .inl (.inr h1)⟩
theorem Grow.iff {w w':World} {F F' G G':Nat→Prop} (h:Grow w F w' F') (h1:∀ k,G k↔F k) (h2:∀ k,G' k↔F' k):Grow w G w' G':=
 ⟨h.os,h.tape,h.output,h.size,fun j hj hn=>h.block j hj (fun e=>hn ((h1 j).2 e)),fun k hk=>by
  rcases h.foot k ((h2 k).1 hk) with h3|h3
  ·exact .inl ((h1 k).2 h3)
  ·exact .inr h3⟩
theorem Y2n {P:Program} {n:Nat} {g:Operand} {ps:Array Tmp} {assign body:Code} {Q:Exit→Act→World→Prop} {a:Act} {w wz:World} {gf:Nat} {lb:Array Value} {N Bd:Nat} {all:List Cl} {G0:Nat→Prop}
 (hg:a.eval g=.func (.func gf) #[] lb) (eg:∀ args w,(callFunc gf args).run P w=.ok (.enter gf args) w) (hps:ps.size=1)
 (I:List Cl→(Nat→Prop)→World→Prop)
 (hI:∀ p G A B,I p G A→Grow A (fun k=>k=w.heap.size∨k=w.heap.size+1∨k=Bd) B (fun k=>k=w.heap.size∨k=w.heap.size+1∨k=Bd)→I p G B)
 (hIG:∀ p G A,I p G A→∀ k,G k→k<A.heap.size∧k≠w.heap.size∧k≠w.heap.size+1)
 (h0:I [] G0 w) (hbd:Bd<w.heap.size)
 (a1:ClS→Nat→Act) (bx:ClS→Obj)
 (hassign:∀ (m:Nat) (z:ClS) (W:World) (K:Act→World→Prop),K (a1 z W.heap.size) (W.alloc (bx z)) →
  assign.wpIn (Fence.wide.inRound (w.heap.size+1)) m P (Exit.then K (fun _ _ _=>False)) { tmps:=(ps.zip #[.agg #[.int .i32 z.c.r,.slice z.As z.c.s.length z.cs]]).foldl (fun t (p,v)=>t.setIfInBounds p v) a.tmps,defers:=[] } W)
 (hbody:∀ (m:Nat) (p:List Cl) (G:Nat→Prop) (z:ClS) (b:Nat) (W:World),I p G W→ClGive wz W (Un2 G w.heap.size) Bd z→p.length<N→w.heap.size+1<W.heap.size→W.heap[b]? = some (bx z) →
  body.wpIn (Fence.wide.inRound (w.heap.size+1)) m P (fun e _ W'=>e=.normal∧∃ G',I (p++[z.c]) G' W'∧Grow W G W' G') (a1 z b) W)
 (hseq:∀ (J:List Cl→(Nat→Prop)→World→Prop) (L:Loop) (W:World) (G:Nat→Prop),J=JL I w.heap.size L→Below w.heap.size w W→J [] G W →
  (∀ (m:Nat) p G z W,J p G W→ClGive wz W G Bd z→p.length<N→YieldAt Fence.wide m P (w.heap.size+1) #[.agg #[.int .i32 z.c.r,.slice z.As z.c.s.length z.cs]] W fun e W'=>
   e=.returned (.bool true)∧∃ G',J (p++[z.c]) G' W'∧Grow W G W' G') →
  CallsIn Fence.wide (n-1) P gf (#[.func (.yield (w.heap.size+1)) #[] #[]]++lb) W fun e W'=>(∃ v,e=.returned v)∧∃ G',J all G' W')
 (hdone:∀ (G:Nat→Prop) (W:World),I all G W→W.heap[w.heap.size]? = some (.deferred (some []))→Q .normal { a with defers:={ target:=.collected w.heap.size,args:=#[] }::a.defers } W) :
 (Code.rangeFunc g ps assign body).wpIn Fence.wide n P Q a w:=by
 refine wpIn_rangeFunc ?_
 intro fn hfn
 obtain ⟨rec,hrec⟩:∃ rec:LoopState→Option Code→Loop,rec=fun st pe=>{ state:=st,pending:=pe,fn,tmps:=a.tmps,params:=ps,assign,body,defers:=w.heap.size }:=⟨_,rfl⟩
 obtain ⟨W1,hW1⟩:∃ W1,(w.alloc (.deferred (some []))).alloc (.loop (rec .ready none))=W1:=⟨_,rfl⟩
 have hL1:W1.heap[w.heap.size+1]? = some (.loop (rec .ready none)):=by
  rw [←hW1];have:=World.alloc_heap_new (w.alloc (.deferred (some []))) (.loop (rec .ready none));rwa [World.size_alloc] at this
 have hK1:W1.heap[w.heap.size]? = some (.deferred (some [])):=by
  rw [←hW1];exact (Below.heap_alloc _ _ _ (by simp)).trans (World.alloc_heap_new w _)
 have y1:Below w.heap.size w W1:=by
  rw [←hW1];exact ((Below.refl _ w).alloc (Nat.le_refl _) _).alloc (by simp) _
 have hI1:I [] G0 W1:=hI _ _ _ _ h0 (Grow.of y1)
 refine ⟨w.heap.size+1,[{ target:=.collected w.heap.size,args:=#[] }],W1,{ target:=.fn (.func gf) lb,args:=#[.func (.yield (w.heap.size+1)) #[] #[]] },W1,gf,
  #[.func (.yield (w.heap.size+1)) #[] #[]]++lb,W1,?_,?_,fun _ _=>trivial,?_,fun h=>(by cases h),?_⟩
 ·rw [←hW1,hrec];exact run_enterLoop_outer _ _ _ _ _
 ·simp only [resolve,hg]
  simp [go_sem]
 ·simp [invoke,go_sem,eg]
 ·refine (hseq (JL I w.heap.size (rec .ready none)) (rec .ready none) W1 (Un2 G0 w.heap.size) rfl y1 ⟨G0,hI1,fun _=>Iff.rfl,hL1,hK1⟩ ?_).mono ?_
  ·rintro m p G z W ⟨Gi,hi,hG,hl,hk⟩ hz hlen
   have hlt:w.heap.size+1<W.heap.size:=Z0c hl
   have hy:=run_yield (P:=P) (args:=#[.agg #[.int .i32 z.c.r,.slice z.As z.c.s.length z.cs]]) hl (by rw [hrec];exact hps.symm)
   rw [hrec] at hy
   refine ⟨fn,_,assign,body,hy,roundIn_of_wpIn hfn (hassign m z W _ ?_)⟩
   clear hy
   obtain ⟨Wa,hWa⟩:∃ Wa,W.alloc (bx z)=Wa:=⟨_,rfl⟩
   have ya:Below W.heap.size W Wa:=by rw [←hWa];exact (Below.refl _ W).alloc (Nat.le_refl _) _
   have hba:Wa.heap[W.heap.size]? = some (bx z):=by rw [←hWa];exact World.alloc_heap_new W _
   rw [hWa]
   clear hWa
   have hla:=(ya.block _ (Z0c hl)).trans hl
   have hka:=(ya.block _ (Z0c hk)).trans hk
   have hia:=hI _ _ _ _ hi (Grow.of ya)
   have sa:=ya.size
   refine ⟨_,run_beginRound hla (by rw [hrec]),?_⟩
   obtain ⟨W2,hW2⟩:∃ W2,Wa.putObj (w.heap.size+1) (.loop { rec .ready none with state:=.busy })=W2:=⟨_,rfl⟩
   rw [hW2]
   have hl2:W2.heap[w.heap.size+1]? = some (.loop { rec .ready none with state:=.busy }):=by rw [←hW2];exact World.putObj_heap_same (Z0c hla)
   have hk2:W2.heap[w.heap.size]? = some (.deferred (some [])):=by rw [←hW2];exact (World.putObj_heap_other (by omega)).trans hka
   have hb2:W2.heap[W.heap.size]? = some (bx z):=by rw [←hW2];exact (World.putObj_heap_other (by omega)).trans hba
   have g2:∀ F:Nat→Prop,F (w.heap.size+1)→Grow Wa F W2 F:=fun F hF=>by rw [←hW2];exact Z1z _ hF
   have hi2:=hI _ _ _ _ hia (g2 _ (.inr (.inl rfl)))
   have hoa:=hz.ow.keep (w':=Wa) fun k hk=>ya.block k (hz.ow.wb_lt k hk).2
   have hz2:ClGive wz W2 (Un2 Gi w.heap.size) Bd z:=⟨hoa.keep fun k hk=>(g2 (fun q=>q=w.heap.size+1) rfl).block k (hoa.wb_lt k hk).2 (fun e=>(hz.off k hk).1 ((hG k).2 (.inr (.inr e)))),
    fun k hk=>⟨fun h=>(hz.off k hk).1 ((hG k).2 h),(hz.off k hk).2⟩⟩
   have s2:=(g2 (fun q=>q=w.heap.size+1) rfl).size
   refine wpIn_mono (hbody m p Gi z W.heap.size W2 hi2 hz2 hlen (by omega) hb2) ?_
   rintro e a3 W3 ⟨rfl,G3,hi3,g3⟩
   have n1:¬ Gi (w.heap.size+1):=fun h=>(hIG _ _ _ hi _ h).2.2 rfl
   have n0:¬ Gi w.heap.size:=fun h=>(hIG _ _ _ hi _ h).2.1 rfl
   have hl3:=(g3.block _ (Z0c hl2) n1).trans hl2
   have hk3:=(g3.block _ (Z0c hk2) n0).trans hk2
   have hr:=run_endRound (P:=P) none hl3
   rw [hrec] at hr
   refine ⟨_,_,hr,rfl,Un2 G3 w.heap.size,⟨G3,?_,fun _=>Iff.rfl,?_,?_⟩,?_⟩
   ·exact hI _ _ _ _ hi3 (Z1z _ (.inr (.inl rfl)))
   ·rw [hrec];exact World.putObj_heap_same (Z0c hl3)
   ·exact (World.putObj_heap_other (by omega)).trans hk3
   ·exact ((((Grow.of ya).trans (g2 (Un2 Gi w.heap.size) (.inr (.inr rfl)))).trans g3.un2).trans (Z1z _ (.inr (.inr rfl)))).iff hG (fun _=>Iff.rfl)
  ·rintro e W2 ⟨⟨v,rfl⟩,G',G2,hi,hG,hl,hk⟩
   refine ⟨none,_,by have:=run_endLoop (P:=P) hl (by rw [hrec];simp);rw [hrec] at this;exact this,hdone G2 _ (hI _ _ _ _ hi (Z1z _ (.inr (.inl rfl)))) ((World.putObj_heap_other (by omega)).trans hk)⟩
theorem Y5P {F:Fence} {nF:Nat} {ops:Array Oper} {rest:List Oper} {o:Oper} {a:Act} {w:World} {Q:Exit→Act→World→Prop} {base:Nat} {v:Value} {l m:List ClS} (hgd:o.guard=none) (s x:Operand)
 (ho:o.op=.call { callee:=.builtin .append,args:=#[s,x],argTypes:=#[23,23] })
 (hsv:a.eval s=v) (hown:OwCs w base v l) (B:Nat) (A:Option Addr) (c n:Nat) (hx:a.eval x=.slice A n c) (hn:n=m.length) (hr:RdCs w B A m)
 (hb:l.length+m.length≤2000000000000) (hbase:base≤w.heap.size)
 (h:∀ v' w',OwCs w' base v' (l++m)→w.grownBy w' (wb v)→(v'=v∧w'=w∨wb v'=wb v∨wb v'=some w.heap.size)→wpListIn F nF Tryz.prog ops Q rest (a.put o.dst v') w'):wpListIn F nF Tryz.prog ops Q (o::rest) a w:=by
 obtain ⟨i0,hi0,hz0,hz1,hz2⟩:=info_parts Tryz.infoCl
 obtain ⟨v',w',hrun,h2,h3,h4⟩:=Y2H (P:=Tryz.prog) 23 o.type i0 _ 32 Tryz.slCl hi0 hz0 hz1 hz2 rfl (by omega) ClS.enc_len ClS.enc_one hown B A c n hn hr (by simp only [maxLen];omega) (by omega) hbase
 refine wpListIn_plain hgd fun K hK'=>?_
 unfold Oper.wpIn
 refine ⟨?_,?_⟩
 ·simp [Oper.about,ho,resolve,Target.leads,Sem.run_pure]
 ·rw [Oper.semAt_plain F _ _ (by rw [ho];intro c hc';cases hc')]
  simp [execOp,ho,resolve,invoke,builtin,hsv,hx,hrun,Result.andThen]
  exact hK' _ _ (h v' w' h2 h3 h4)
def ApI (w0:World) (m:Nat) (p:List Cl) (G:Nat→Prop) (W:World):Prop:=
 ∃ v L,W.heap[m]? = some (.cells #[v] 23 (0,0))∧Z0g L=p∧OwCs W (m+6) v L∧(∀ z∈L,PartC W w0.heap.size v z∧∀ k,wb (.slice z.As z.c.s.length z.cs)=some k→k≠m∧k≠m+2∧k≠m+4∧k≠m+5) ∧
   Below w0.heap.size w0 W∧∀ k,G k↔k=m∨wb v=some k
theorem ApI.keep {w0 A B:World} {m:Nat} {p:List Cl} {G:Nat→Prop} (hm:w0.heap.size≤m) (h:ApI w0 m p G A) (g:Grow A (fun k=>k=m+4∨k=m+4+1∨k=m+2) B (fun k=>k=m+4∨k=m+4+1∨k=m+2)):ApI w0 m p G B:=by
 obtain ⟨v,L,hb,hL,ho,hp,y,hG⟩:=h
 refine ⟨v,L,(g.block m (Z0c hb) (by omega)).trans hb,hL,ho.keep fun k hk=>g.block k (ho.wb_lt k hk).2 (by have:=(ho.wb_lt k hk).1;omega),fun z hz=>?_,y.trans (g.below (fun k hk=>by omega) y.size),hG⟩
 obtain ⟨hz1,hz2⟩:=hp z hz
 exact ⟨⟨hz1.1.keep fun k hk=>g.block k (hz1.1.wb_lt k hk).2 (by have:=hz2 k hk;omega),hz1.2⟩,hz2⟩
theorem ApI.foot {w0 A:World} {m:Nat} {p:List Cl} {G:Nat→Prop} (hm:w0.heap.size≤m) (h:ApI w0 m p G A):∀ k,G k→k<A.heap.size∧(k=m∨m+6≤k):=fun k hk=>by
 obtain ⟨v,L,hb,hL,ho,hp,y,hG⟩:=h
 rcases (hG k).1 hk with rfl|h1
 ·exact ⟨Z0c hb,.inl rfl⟩
 ·exact ⟨(ho.wb_lt k h1).2,.inr (ho.wb_lt k h1).1⟩
theorem ApI.app {w0 W W2 w3:World} {m:Nat} {p:List Cl} {G:Nat→Prop} {v v':Value} {L:List ClS} {z:ClS} (hm:w0.heap.size≤m) (hb:W.heap[m]? = some (.cells #[v] 23 (0,0))) (hL:Z0g L=p) (ho:OwCs W (m+6) v L)
 (hp:∀ z∈L,PartC W w0.heap.size v z∧∀ k,wb (.slice z.As z.c.s.length z.cs)=some k→k≠m∧k≠m+2∧k≠m+4∧k≠m+5) (y:Below w0.heap.size w0 W) (hG:∀ k,G k↔k=m∨wb v=some k)
 (hz:OwAt W w0.heap.size (.slice z.As z.c.s.length z.cs) z.c.s) (hzo:∀ k,wb (.slice z.As z.c.s.length z.cs)=some k→¬ Un2 G (m+4) k∧k≠m+2) (hs:m+6≤W.heap.size)
 (y2:Below W.heap.size W W2) (hgr:W2.grownBy w3 (wb v)) (hown':OwCs w3 (m+6) v' (L++[z])) (hv':v'=v∧w3=W2∨wb v'=wb v∨wb v'=some W2.heap.size) :
 w3.heap[m]? = some (.cells #[v] 23 (0,0))∧∃ G',ApI w0 m (p++[z.c]) G' (w3.setCell ⟨m,0,none⟩ v')∧Grow W G (w3.setCell ⟨m,0,none⟩ v') G':=by
 have b2:=(y2.block m (Z0c hb)).trans hb
 have nm:wb v≠some m:=fun e=>by have:=(ho.wb_lt m e).1;omega
 have b3:=(hgr.block m (Z0c b2) (fun e=>nm e.symm)).trans b2
 refine ⟨b3,fun k=>k=m∨wb v'=some k,?_,?_⟩
 ·have b4:=Z0d (j:=0) b3 v'
  have gs:=Z0t (w:=w3) m 0 v' (F:=fun k=>k=m) rfl 0
  have nm':wb v'≠some m:=fun e=>by have:=(hown'.wb_lt m e).1;omega
  refine ⟨v',L++[z],by simpa using b4,?_,hown'.setCell (p:=⟨m,0,none⟩) nm' v',?_,?_,fun _=>Iff.rfl⟩
  ·rw [←hL];unfold Z0g;simp
  ·intro x hx
   have hx2:PartC W w0.heap.size v x∧∀ k,wb (.slice x.As x.c.s.length x.cs)=some k→k≠m∧k≠m+2∧k≠m+4∧k≠m+5:=by
    rcases List.mem_append.1 hx with hx|hx
    ·exact hp x hx
    ·simp at hx;subst hx
     refine ⟨⟨hz,fun k hk e=>(hzo k hk).1 (.inl ((hG k).2 (.inr e)))⟩,fun k hk=>⟨fun e=>(hzo k hk).1 (.inl ((hG k).2 (.inl e))),(hzo k hk).2,fun e=>(hzo k hk).1 (.inr (.inl e)),fun e=>(hzo k hk).1 (.inr (.inr (by omega)))⟩⟩
   have h3:=(hx2.1.below y2).app hgr hv'
   exact ⟨⟨h3.1.setCell (p:=⟨m,0,none⟩) (fun e=>(hx2.2 m e).1 rfl) v',h3.2⟩,hx2.2⟩
  ·have y3:Below w0.heap.size w0 w3:=(y.trans (y2.mono y.size)).grown hgr (by have:=y.size;have:=y2.size;omega) (fun k e=>by have:=(ho.wb_lt k e).1;omega)
   exact y3.trans (gs.below (fun k hk=>by omega) y3.size)
 ·have gs:=Z0t (w:=w3) m 0 v' (F:=fun k=>k=m∨wb v'=some k) (.inl rfl) 0
  have g3:Grow W G w3 (fun k=>k=m∨wb v'=some k):=⟨hgr.os.trans y2.os,hgr.tape.trans y2.tape,hgr.output.trans y2.output,Nat.le_trans y2.size hgr.size,
   fun j hj hn=>(hgr.block j (Nat.lt_of_lt_of_le hj y2.size) (fun e=>hn ((hG j).2 (.inr e.symm)))).trans (y2.block j hj),
   fun k hk=>by
    rcases hk with rfl|hk
    ·exact .inl ((hG _).2 (.inl rfl))
    ·rcases hv' with ⟨rfl,_⟩|h1|h1
     ·exact .inl ((hG k).2 (.inr hk))
     ·exact .inl ((hG k).2 (.inr (by rw [←h1];exact hk)))
     ·rw [h1] at hk;injection hk with hk;have:=y2.size;exact .inr (by omega)⟩
  exact g3.trans gs
open Go.RowKit
theorem Y8A {d:List ClS} {x:ClS} (h:d[d.length-1]? = some x):(Z0g d).getLast? = some x.c:=by
 rw [List.getLast?_eq_getElem?]
 unfold Z0g
 rw [List.length_map,List.getElem?_map,h]
 rfl
theorem Z8X (s:Nat) (l:List Ky) (A:Option Addr) (n c:Nat) (d:List ClS) (w:World) (hn:n=d.length) (h:RdCl w w.heap.size A d) (hb:n≤100000) (hS:Sch w s l)
 (hcs:∀ x∈d,x.c.s.length≤100000000∧okVr x.c.s) (hT:Utf8Tabs 0 1 w) :
 Calls Tryz.prog 10 #[.pointer (some ⟨s,0,none⟩),.slice A n c] w fun e w'=>e=.returned (.int .i64 (mayD l (Z0g d)))∧Below w.heap.size w w':=by
 have ya:=Z0b w (.cells #[.pointer (some ⟨s,0,none⟩)] 29)
 have yb:=Z0b (w.alloc (.cells #[.pointer (some ⟨s,0,none⟩)] 29)) (.cells #[.slice A n c] 23)
 have g1:=heap_alloc_new w (.cells #[.pointer (some ⟨s,0,none⟩)] 29)
 have g2:=heap_alloc_new (w.alloc (.cells #[.pointer (some ⟨s,0,none⟩)] 29)) (.cells #[.slice A n c] 23)
 have G1:=(yb.block w.heap.size (by simp)).trans g1
 rw [World.size_alloc] at g2
 have y:=Z0a ya yb
 have k1:∀ w',Below ((w.alloc (.cells #[.pointer (some ⟨s,0,none⟩)] 29)).alloc (.cells #[.slice A n c] 23)).heap.size ((w.alloc (.cells #[.pointer (some ⟨s,0,none⟩)] 29)).alloc (.cells #[.slice A n c] 23)) w' →
  Below w.heap.size w w'∧RdCs w' w'.heap.size A d∧(∀ x∈d,ClIn w' w.heap.size s l x)∧w'.heap[w.heap.size+1]? = some (.cells #[.slice A n c] 23 (0,0)):=fun w' z=>by
  have yz:=Z0a y z
  have g1':=(z.block w.heap.size (Z0c G1)).trans G1
  exact ⟨yz,h.1.ext yz,fun x hx=>⟨hS.ext yz,g1',(h.2 x hx).ext yz,(hcs x hx).1,(hcs x hx).2,Utf8Tabs_below hT yz⟩,(z.block _ (Z0c g2)).trans g2⟩
 have K:=hid k1
 have N:=hid hn
 have c0:=Z2n g2
 have hsz:Hid (((w.alloc (.cells #[.pointer (some ⟨s,0,none⟩)] 29)).alloc (.cells #[.slice A n c] 23)).heap.size=w.heap.size+2):=hid (by simp)
 have HH:=hid h
 generalize hm:mayD l (Z0g d)=m
 unfold mayD at hm
 have hlen:(Z0g d).length=n:=by rw [hn];unfold Z0g;rw [List.length_map]
 rw [hlen] at hm
 clear ya yb g1 g2 G1 k1 hS hcs hT h
 by_cases h1:n<1
 ·rw [if_pos (.inl h1)] at hm
  subst hm
  have h2:((n:Int)<1):=by omega
  clear hlen hn
  go_enter Tryz.func10,Tryz.ntmps10
  go_wp2_with (fail)
  go_ret
  exact ⟨rfl,y⟩
 ·rw [if_neg (by omega)] at hm
  have h2:¬ ((n:Int)<1):=by omega
  obtain ⟨x,hx⟩:∃ x,d[d.length-1]? = some x:=⟨d[d.length-1]'(by omega),by rw [List.getElem?_eq_getElem]⟩
  have hlast:=Y8A hx
  rw [hlast] at hm
  have HM:=hid hm
  have HX:=hid hx
  have e1:(1:Int)≤(n:Int):=by omega
  have e2:(n:Int)-1<(n:Int):=by omega
  have hnd:n-1=d.length-1:=by rw [hn]
  have HND:=hid hnd
  clear hm hlen hlast hx hnd hn
  go_enter Tryz.func10,Tryz.ntmps10
  go_wp2_with (go_at_call 48;refine Hid.out ?_)
  refine hid ?_
  obtain ⟨_,q1,q2,q3⟩:=K.out _ (Below.refl _ _)
  refine (Y2b w.heap.size (w.heap.size+1) s l A n c d _ N.out q1 (by omega) q2 q3).mono ?_
  clear q1 q2 q3
  rintro e w1 ⟨rfl,y1⟩
  cases ha:(Z0g d).any (badR l) with
  | true=>
    have hm:=HM.out
    rw [if_pos ha] at hm
    subst hm
    clear ha
    have yy:=Z0a y y1
    go_wp2_with (fail)
    go_ret
    exact ⟨rfl,yy⟩
  | false=>
    have hm:=HM.out
    rw [if_neg (by rw [ha];simp)] at hm
    have HM2:=hid hm
    clear ha hm HM
    go_wp2_with (go_at_call 48;refine Hid.out ?_)
    refine hid ?_
    obtain ⟨_,q1,q2,q3⟩:=K.out w1 y1
    refine (Y2c w.heap.size (w.heap.size+1) s l A n c d _ N.out q1 (by omega) q2 q3).mono ?_
    clear q1 q2 q3
    rintro e w2 ⟨rfl,y2⟩
    have y12:=Z0a y1 y2
    obtain ⟨yy,q1,q2,q3⟩:=K.out w2 y12
    cases ha:(Z0g d).any (badK l) with
    | true=>
      have hm:=HM2.out
      rw [if_pos ha] at hm
      subst hm
      clear ha q1 q2 q3
      go_wp2_with (fail)
      go_ret
      exact ⟨rfl,yy⟩
    | false=>
      have hm:=HM2.out
      rw [if_neg (by rw [ha];simp)] at hm
      obtain ⟨ad,x',rfl,_,_,hx',hcx⟩:=q1.el (i:=d.length-1) (by have:=N.out;omega)
      rw [HX.out] at hx'
      injection hx' with hx'
      subst hx'
      obtain ⟨⟨r,p⟩,As,cs⟩:=x
      rw [←HND.out] at hcx
      obtain ⟨z0,z1⟩:=Z1E hcx
      have d0:=Z2n q3
      have HM3:=hid hm
      clear ha hm q1 q2 q3 hcx HM2
      by_cases hr:r=10
      ·subst hr
       have hm:=HM3.out
       rw [if_neg (by simp)] at hm
       have HM4:=hid hm
       clear hm HM3
       go_wp2_with (go_at_call 48;refine Hid.out ?_)
       refine hid ?_
       obtain ⟨_,q1,q2,q3⟩:=K.out w2 y12
       refine (Y2d w.heap.size (w.heap.size+1) s l _ n c d _ N.out q1 (by omega) q2 q3).mono ?_
       clear q1 q2 q3
       rintro e w3 ⟨rfl,y3⟩
       have yz:=(K.out w3 (Z0a y12 y3)).1
       cases ha:(Z0g d).any (badP l) with
       | true=>
         have hm:=HM4.out
         rw [if_pos ha] at hm
         subst hm
         clear ha
         go_wp2_with (fail)
         go_ret
         exact ⟨rfl,yz⟩
       | false=>
         have hm:=HM4.out
         rw [if_neg (by rw [ha];simp)] at hm
         subst hm
         clear ha
         go_wp2_with (fail)
         go_ret
         exact ⟨rfl,yz⟩
      ·have hm:=HM3.out
       rw [if_pos (by simp [hr])] at hm
       subst hm
       have hne:(r==10)=false:=beq_eq_false_iff_ne.2 hr
       clear hr
       go_wp2_with (fail)
       go_ret
       exact ⟨rfl,yy⟩
attribute [local go_sem] Oper.semAt_some
def Y33 (sc:Nat) (A1 Ax:Option Addr) (n1 c1 nx cx:Nat) (w:World) (e:Ending) (w':World):Prop:=
 e=.returned (.func (.func 182) #[] #[.pointer (some ⟨w.heap.size+2,0,none⟩),.pointer (some ⟨w.heap.size+1,0,none⟩),.pointer (some ⟨w.heap.size,0,none⟩)])∧Below w.heap.size w w'∧w'.heap.size=w.heap.size+3 ∧
  w'.heap[w.heap.size]? = some (.cells #[.pointer (some ⟨sc,0,none⟩)] 29 (0,0))∧w'.heap[w.heap.size+1]? = some (.cells #[.slice A1 n1 c1] 23 (0,0))∧w'.heap[w.heap.size+2]? = some (.cells #[.slice Ax nx cx] 37 (0,0))
theorem Y5Q (sc:Nat) (A1 Ax:Option Addr) (n1 c1 nx cx:Nat) (w:World) :
 Calls Tryz.prog 97 #[.pointer (some ⟨sc,0,none⟩),.slice A1 n1 c1,.slice Ax nx cx] w (Y33 sc A1 Ax n1 c1 nx cx w):=by
 go_enter Tryz.func97,Tryz.ntmps97
 go_wp2_with (fail)
 go_ret
 have ya:=Z0b w (.cells #[.pointer (some ⟨sc,0,none⟩)] 29)
 have yb:=Z0b (w.alloc (.cells #[.pointer (some ⟨sc,0,none⟩)] 29)) (.cells #[.slice A1 n1 c1] 23)
 have yc:=Z0b ((w.alloc (.cells #[.pointer (some ⟨sc,0,none⟩)] 29)).alloc (.cells #[.slice A1 n1 c1] 23)) (.cells #[.slice Ax nx cx] 37)
 have ha:=heap_alloc_new w (.cells #[.pointer (some ⟨sc,0,none⟩)] 29)
 have hb:=heap_alloc_new (w.alloc (.cells #[.pointer (some ⟨sc,0,none⟩)] 29)) (.cells #[.slice A1 n1 c1] 23)
 have hc:=heap_alloc_new ((w.alloc (.cells #[.pointer (some ⟨sc,0,none⟩)] 29)).alloc (.cells #[.slice A1 n1 c1] 23)) (.cells #[.slice Ax nx cx] 37)
 refine ⟨?_,Z0a ya (Z0a yb yc),by simp,(yc.block _ (Z0c ((yb.block _ (Z0c ha)).trans ha))).trans ((yb.block _ (Z0c ha)).trans ha),?_,?_⟩
 ·exact rfl
 ·have h:=(yc.block _ (Z0c hb)).trans hb
  simpa using h
 ·simpa using hc
def Y5R (l:List Ky) (x:List OpS) (d:List Cl) (most:Int) (w:World) (e:Ending) (w':World):Prop:=
 Below w.heap.size w w'∧((Z01 l x d most≠0∧e=.returned (.tuple #[.slice none 0 0,.int .i64 (Z01 l x d most)])) ∨
  (Z01 l x d most=0∧∃ A c L,e=.returned (.tuple #[.slice A L.length c,.int .i64 0])∧Z0g L=app l (Z0i (osOf x)) d∧OwCs w' w.heap.size (.slice A L.length c) L∧∀ z∈L,PartC w' w.heap.size (.slice A L.length c) z))
theorem Z3N (sc:Nat) (l:List Ky) (A1 Ax:Option Addr) (n1 c1 nx cx:Nat) (d:List ClS) (x:List OpS) (most:Int) (w:World)
 (hn1:n1=d.length) (hnx:nx=x.length) (k1:n1≤c1) (b1:n1≤100000) (bx:nx≤1048576) (h1:RdCl w w.heap.size A1 d) (hx:RdOp w w.heap.size Ax x) (hS:Sch w sc l)
 (hcs:∀ z∈d,z.c.s.length≤100000000∧okVr z.c.s) (hcap:∀ z∈d,z.c.s.length≤z.cs∧z.cs≤maxLen) (hop:∀ o∈x,okOp o.o) (hT:Utf8Tabs 0 1 w) :
 Calls Tryz.prog 28 #[.pointer (some ⟨sc,0,none⟩),.slice A1 n1 c1,.slice Ax nx cx,.int .i64 most] w (Y5R l x (Z0g d) most w):=by
 obtain ⟨n,_⟩:∃ n:Nat,n=n:=⟨0,rfl⟩
 refine (callsIn_wide (n:=n)).1 ?_
 refine callsIn_of_wp_marks Tryz.func28 rfl trivial ?_ rfl
 simp only [Tryz.ntmps28,List.size_toArray,List.length_cons,List.length_nil,Nat.reduceAdd,Nat.reduceSub,Array.replicate_succ,Array.replicate_zero,List.push_toArray,List.append_toArray,List.nil_append,List.cons_append]
 have N1:=hid hn1
 have NX:=hid hnx
 have H1:=hid h1
 have HX:=hid hx
 have HS:=hid hS
 have HCS:=hid hcs
 have HCAP:=hid hcap
 have HOP:=hid hop
 have HT:=hid hT
 have K1:=hid k1
 have BX:=hid bx
 have B1:=hid b1
 have ND:Hid ((Z0g d).length=n1):=hid (by rw [Z00,hn1])
 clear hn1 hnx h1 hx hS hcs hcap hop hT k1 bx b1
 gi_wp2
 refine ⟨trivial,fun h=>(by cases h),(callsIn_wide.2 (Z5v sc l Ax nx cx x w NX.out HX.out (by have:=BX.out;omega) HS.out HOP.out HT.out)).mono ?_⟩
 obtain ⟨eo,heo⟩:∃ X,mayO l x=X:=⟨_,rfl⟩
 rw [heo]
 rintro e w1 ⟨rfl,y1⟩
 have EO:=hid heo
 have Y1:=hid y1
 clear heo y1
 by_cases h0:eo=0
 rotate_left
 ·have h0':(eo==0)=false:=beq_eq_false_iff_ne.2 h0
  gi_wp2
  refine ⟨.tuple #[.slice none 0 0,.int .i64 eo],(by simp [results,Tryz.results28,go_sem]),Y1.out,.inl ⟨?_,?_⟩⟩
  all_goals rw [show Z01 l x (Z0g d) most=eo by unfold Z01;rw [EO.out,if_pos h0]]
  exact h0
 subst h0
 gi_wp2
 refine ⟨trivial,fun h=>(by cases h),(callsIn_wide.2 (Z8X sc l A1 n1 c1 d w1 N1.out (H1.out.ext Y1.out) B1.out (HS.out.ext Y1.out) HCS.out (Utf8Tabs_below HT.out Y1.out))).mono ?_⟩
 obtain ⟨ed,hed⟩:∃ X,mayD l (Z0g d)=X:=⟨_,rfl⟩
 rw [hed]
 rintro e w2 ⟨rfl,y2⟩
 have ED:=hid hed
 have Y2:=hid (Z0a Y1.out y2)
 clear hed y2
 by_cases h0:ed=0
 rotate_left
 ·have h0':(ed==0)=false:=beq_eq_false_iff_ne.2 h0
  gi_wp2
  refine ⟨.tuple #[.slice none 0 0,.int .i64 3],(by simp [results,Tryz.results28,go_sem]),Y2.out,.inl ⟨?_,?_⟩⟩
  all_goals rw [show Z01 l x (Z0g d) most=3 by unfold Z01;rw [EO.out,ED.out,if_neg (by decide),if_pos h0]]
  decide
 subst h0
 gi_wp2
 refine ⟨trivial,fun h=>(by cases h),(callsIn_wide.2 (Y3C sc l Ax nx cx x n1 most w2 NX.out (HX.out.ext Y2.out) (by have:=BX.out;omega) (HS.out.ext Y2.out) HOP.out (Utf8Tabs_below HT.out Y2.out))).mono ?_⟩
 obtain ⟨ef,hef⟩:∃ X,Z3A l x n1 most=X:=⟨_,rfl⟩
 rw [hef]
 rintro e w3 ⟨rfl,y3⟩
 have EF:=hid hef
 have Y3:=hid (Z0a Y2.out y3)
 clear hef y3
 by_cases h0:ef=0
 rotate_left
 ·have h0':(ef==0)=false:=beq_eq_false_iff_ne.2 h0
  gi_wp2
  refine ⟨.tuple #[.slice none 0 0,.int .i64 ef],(by simp [results,Tryz.results28,go_sem]),Y3.out,.inl ⟨?_,?_⟩⟩
  all_goals rw [show Z01 l x (Z0g d) most=ef by unfold Z01;rw [EO.out,ED.out,if_neg (by decide),if_neg (by decide),ND.out,EF.out]]
  exact h0
 subst h0
 gi_wp2
 obtain ⟨m,hm⟩:∃ m,w3.heap.size=m:=⟨_,rfl⟩
 have hz:(w3.alloc (.cells #[.slice none 0 0] 23)).heap.size=m+1:=by rw [World.size_alloc,hm]
 have ho:=heap_alloc_new w3 (.cells #[.slice none 0 0] 23)
 have yo:=Z0b w3 (.cells #[.slice none 0 0] 23)
 refine ⟨trivial,fun h=>(by cases h),(callsIn_wide.2 (Y5Q sc A1 Ax n1 c1 nx cx _)).mono ?_⟩
 unfold Y33
 rw [hz]
 rintro e w4 ⟨rfl,y4,s4,hb1,hb2,hb3⟩
 rw [hm] at ho yo
 have hout:=(y4.block m (by omega)).trans ho
 have YO:Hid (Below m w3 w4):=hid (yo.trans (y4.mono (by omega)))
 have S4:Hid (w4.heap.size=m+4):=hid s4
 have HM:=hid hm
 have HB:=hid (And.intro hout (And.intro hb1 (And.intro hb2 hb3)))
 rw [hm]
 clear ho yo y4 s4 hb1 hb2 hb3 hout hz hm
 have hgood:=(Z1s EO.out).1
 have HG0:=hid hgood
 have SU:=Z1A x (Z03 hgood)
 have TK:Hid (tks (osOf x)≤d.length):=hid (by
  rw [Y3S (fun o ho=>by
   unfold osOf at ho
   obtain ⟨z,hz,rfl⟩:=List.mem_map.1 ho
   exact Z03 hgood z hz)]
  have h1:=(Z2g EF.out).2.2.2.1
  rw [Z1V hgood (by have:=NX.out;have:=BX.out;omega),←SU.1] at h1
  have:=N1.out
  omega)
 have EQ:Hid (Z3h l (osOf x) (Z0g d)=app l (Z0i (osOf x)) (Z0g d)):=hid (Y02 l (osOf x) (Z0g d) (fun o ho=>by
  unfold osOf at ho
  obtain ⟨z,hz,rfl⟩:=List.mem_map.1 ho
  exact Z03 hgood z hz))
 have NB:Hid ((Z3h l (osOf x) (Z0g d)).length≤1000000000):=hid (by
  have h1:=(Z2g EF.out).2.2.2.1
  have hbx:x.length≤1048576:=by have:=NX.out;have:=BX.out;omega
  rw [Z1V hgood hbx,←SU.1] at h1
  have h2:=(Z1s EO.out).2.2
  rw [Z2f hgood hbx,←SU.2] at h2
  have h3:=Z4L l (Z0i (osOf x)) (Z0g d) (by have:=ND.out;omega)
  have h4:=B1.out
  have h5:=ND.out
  rw [EQ.out]
  omega)
 have MW:Hid (w.heap.size≤m):=hid (by have:=Y3.out.size;have:=HM.out;omega)
 clear hgood SU
 gi_wp2
 refine Y2n (Bd:=m+1+1) (wz:=w3) (N:=(Z3h l (osOf x) (Z0g d)).length) (all:=Z3h l (osOf x) (Z0g d)) (G0:=fun k=>k=m∨wb (.slice none 0 0)=some k) (gf:=182)
  (lb:=#[.pointer (some ⟨m+1+2,0,none⟩),.pointer (some ⟨m+1+1,0,none⟩),.pointer (some ⟨m+1,0,none⟩)]) rfl (fun args w=>by rfl) rfl (ApI w3 m) ?_ ?_ ?_ (by have:=S4.out;omega)
  (fun z b=>{ tmps:=#[Value.pointer (some { block:=sc,off:=0 }),Value.slice A1 n1 c1,Value.slice Ax nx cx,
   Value.int IntKind.i64 most,undef,undef,undef,undef,Value.slice none 0 0,Value.int IntKind.i64 0,
   Value.int IntKind.i64 0,Value.int IntKind.i64 0,Value.pointer (some { block:=m,off:=0 }),
   Value.pointer (some ⟨b,0,none⟩),Value.pointer (some { block:=sc,off:=0 }),Value.slice Ax nx cx,Value.int IntKind.i64 0,
   Value.int IntKind.i64 0,Value.bool false,undef,Value.pointer (some { block:=sc,off:=0 }),
   Value.slice A1 n1 c1,Value.int IntKind.i64 0,Value.bool false,
   Value.pointer (some { block:=sc,off:=0 }),Value.slice Ax nx cx,Value.slice A1 n1 c1,
   Value.int IntKind.i64 (n1:Int),Value.int IntKind.i64 most,Value.int IntKind.i64 0,Value.int IntKind.i64 0,
   Value.bool false,undef,Value.pointer (some { block:=sc,off:=0 }),Value.slice A1 n1 c1,
   Value.slice Ax nx cx,
   Value.func (Fn.func 182) #[]
    #[Value.pointer (some { block:=m+1+2,off:=0 }),
      Value.pointer (some { block:=m+1+1,off:=0 }),Value.pointer (some { block:=m+1,off:=0 })],
   .agg #[.int .i32 z.c.r,.slice z.As z.c.s.length z.cs],undef,undef,undef,undef,undef],defers:=[] })
  (fun z=>.cells #[.int .i32 z.c.r,.slice z.As z.c.s.length z.cs] 41) ?_ ?_ ?_ ?_
 ·intro p G A B hI hg
  rw [S4.out] at hg
  exact hI.keep (by rw [HM.out];exact Nat.le_refl _) hg
 ·intro p G A hI k hk
  obtain ⟨h1,h2⟩:=hI.foot (by rw [HM.out];exact Nat.le_refl _) k hk
  rw [S4.out]
  omega
 ·refine ⟨.slice none 0 0,[],HB.out.1,rfl,Ow.nil _ _,?_,by rw [HM.out];exact YO.out,fun k=>Iff.rfl⟩
  intro z hz
  cases hz
 ·intro k z W K hK
  have e:∀ (T:Array Value) (V:Value),((#[37]:Array Tmp).zip #[V]).foldl (fun (t:Array Value) (p,v)=>t.setIfInBounds p v) T=T.setIfInBounds 37 V:=fun T V=>by simp
  rw [e]
  gi_wp2
  exact hK
 ·intro k p G z b W hI hzg hlen hsz hb
  obtain ⟨v,L,hbx,hL,hown,hparts,hy,hG⟩:=hI
  have hb:W.heap[b]? = some (.cells #[.int .i32 z.c.r,.slice z.As z.c.s.length z.cs] 41 (0,0)):=hb
  have cb:=Z2n hbx
  obtain ⟨t0,t1⟩:=Z52 hb
  have hLn:L.length=p.length:=by rw [←hL,Z00]
  have HLN:Hid (L.length≤1000000000):=hid (by have:=NB.out;omega)
  have HSZ:Hid (m+6≤W.heap.size):=hid (by have:=S4.out;omega)
  have hzo:∀ k,wb (.slice z.As z.c.s.length z.cs)=some k→¬ Un2 G (m+4) k∧k≠m+2:=fun k hk=>by have h:=hzg.off k hk;rw [S4.out] at h;exact h
  have HZO:=hid hzo
  have HZG:=hid hzg.ow
  have ya:=Z0b W (.cells #[.int .i32 z.c.r,.slice z.As z.c.s.length z.cs] 41)
  clear hzo hzg hLn hb
  gi_wp2_with (first
   | (gi_at_builtin;refine Y5P (m:=[z]) (base:=m+6) rfl (.tmp 38) (.tmp 40) rfl rfl (hown.alloc _) _ _ 1 1 rfl rfl (by exact Z8d (enc:=ClS.enc) (size:=2) _ _ z rfl (by simp)) (by have:=HLN.out;simp only [List.length_singleton];omega) (by have:=HSZ.out;simp;omega) ?_
      intro v' w9 hown' hgr hv'
      obtain ⟨A9,c9,hv9,_,_⟩:=hown'.form
      subst hv9
      obtain ⟨hb9,HAP⟩:=ApI.app (w0:=w3) (p:=p) (G:=G) (by rw [HM.out];exact Nat.le_refl _) hbx hL hown hparts hy hG HZG.out HZO.out HSZ.out ya hgr hown' hv'
      have cb9:=Z2n hb9
      have fb9:=Z0h hb9 0))
  simp only [List.length_append,List.length_cons,List.length_nil,Nat.zero_add] at HAP
  exact HAP
 ·intro J L W G hJ hyW hJ0 hR
  subst hJ
  rw [S4.out] at hJ0 hR ⊢
  have hW:Below w3.heap.size w3 W:=by rw [HM.out];exact YO.out.trans (hyW.mono (by have:=S4.out;omega))
  have hblk:∀ {k o},k<m+4→w4.heap[k]? = some o→W.heap[k]? = some o:=fun hk h=>(hyW.block _ (by rw [S4.out];exact hk)).trans h
  refine Y5O (n-1) (m+4+1) (m+1) (m+1+1) (m+1+2) sc l A1 Ax n1 c1 nx cx d x w3 W (JL (ApI w3 m) (m+4) L) ?_ ?_ (fun k p G z W h1 h2 h3=>hR k p G z W h1 h2 h3) N1.out NX.out K1.out (by have:=B1.out;omega) BX.out (H1.out.ext Y3.out) (HX.out.ext Y3.out) (HS.out.ext Y3.out)
   (fun z hz=>⟨(HCS.out z hz).1,HCAP.out z hz⟩) (fun o ho=>⟨Z03 HG0.out o ho,HOP.out o ho⟩) TK.out hW (hblk (by omega) HB.out.2.1) (hblk (by omega) HB.out.2.2.1) (hblk (by omega) HB.out.2.2.2) (by rw [HM.out];omega) (by rw [HM.out];omega) (by rw [HM.out];omega) (by omega) (by omega) G hJ0
  ·rintro p G A B ⟨G0,hi,hG,hl,hk⟩ hg
   have hg':Grow A (fun k=>k=m+4∨k=m+4+1∨k=m+2) B (fun k=>k=m+4∨k=m+4+1∨k=m+2):=⟨hg.os,hg.tape,hg.output,hg.size,fun j hj hn=>hg.block j hj (fun e=>hn (.inr (.inr e))),fun k hk=>.inl hk⟩
   exact ⟨G0,hi.keep (by rw [HM.out];exact Nat.le_refl _) hg',hG,(hg.block _ (Z0c hl) (by omega)).trans hl,(hg.block _ (Z0c hk) (by omega)).trans hk⟩
  ·rintro p G A ⟨G0,hi,hG,hl,hk⟩ k hkG
   rw [HM.out]
   rcases (hG k).1 hkG with h1|h1|h1
   ·have:=hi.foot (by rw [HM.out];exact Nat.le_refl _) k h1
    omega
   ·have:=Z0c hk;omega
   ·have:=Z0c hl;omega
 ·intro G W hI hK
  obtain ⟨v,L,hbx,hL,hown,hparts,hy,hG⟩:=hI
  have cb:=Z2n hbx
  rw [S4.out] at hK
  obtain ⟨A,c,hv,hc1,hc2⟩:=hown.form
  subst hv
  have HBX:=hid hbx
  have HOWN:=hid hown
  have HPARTS:=hid hparts
  have HLL:=hid (hL.trans EQ.out)
  have HY:=hid hy
  clear hL hown hparts hbx hG
  gi_wp2
  refine ⟨by simp,.inl ⟨_,_,rfl,run_takeDeferred (by rw [S4.out];exact hK),?_⟩⟩
  rw [S4.out]
  refine ⟨.tuple #[.slice A L.length c,.int .i64 0],(by simp [results,Tryz.results28,go_sem]),?_,.inr ⟨Z25 ED.out (by rw [ND.out];exact EF.out),A,c,L,rfl,HLL.out,?_,?_⟩⟩
  ·exact (Y3.out.trans (HY.out.mono (by have:=MW.out;have:=HM.out;omega))).trans ((Z1z (F:=fun k=>k=m+4) _ rfl).below (fun k hk=>by have:=MW.out;omega) (by have:=(Y3.out.trans (HY.out.mono (by have:=MW.out;have:=HM.out;omega))).size;exact this))
  ·exact (HOWN.out.keep fun k hk=>(Z1z (F:=fun k=>k=m+4) _ rfl).block k (HOWN.out.wb_lt k hk).2 (by have:=(HOWN.out.wb_lt k hk).1;omega)).base_le (by have:=MW.out;omega)
  ·intro z hz
   obtain ⟨⟨h1,h2⟩,h3⟩:=HPARTS.out z hz
   exact ⟨(h1.keep fun k hk=>(Z1z (F:=fun k=>k=m+4) _ rfl).block k (h1.wb_lt k hk).2 (h3 k hk).2.2.1).base_le (by have:=MW.out;have:=HM.out;omega),h2⟩
theorem Z94 (r1 r2:Int) (p1 p2:List At) (A1 A2:Option Addr) (c1 c2:Nat) (w:World) (h1:RdAt w w.heap.size A1 p1) (h2:RdAt w w.heap.size A2 p2) (b1:p1.length≤140737488355328) (b2:p2.length≤140737488355328) :
 Calls Tryz.prog 72 #[.agg #[.int .i32 r1,.slice A1 p1.length c1],.agg #[.int .i32 r2,.slice A2 p2.length c2]] w fun e w'=>e=.returned (.bool (decide ((⟨r1,p1⟩:Cl)=⟨r2,p2⟩)))∧Below w.heap.size w w':=by
 have y1:=Z0b w (.cells #[.int .i32 r1,.slice A1 p1.length c1] 41)
 have y2:=Z0b (w.alloc (.cells #[.int .i32 r1,.slice A1 p1.length c1] 41)) (.cells #[.int .i32 r2,.slice A2 p2.length c2] 41)
 have yy:=Z0a y1 y2
 have q1:=h1.ext yy
 have q2:=h2.ext yy
 obtain ⟨a0,a1⟩:=Z52 ((y2.block w.heap.size (by simp)).trans (heap_alloc_new w (.cells #[.int .i32 r1,.slice A1 p1.length c1] 41)))
 by_cases hr:r1=r2
 ·subst hr
  have HB:Hid (decide ((⟨r1,p1⟩:Cl)=⟨r1,p2⟩)=decide (p1=p2)):=hid (by by_cases h:p1=p2<;>simp [h])
  rw [HB.out]
  clear y1 y2 h1 h2
  go_enter Tryz.func72,Tryz.ntmps72
  go_wp2_with (go_at_call 73;refine Hid.out ?_)
  refine hid ?_
  refine (Z1G A1 A2 p1.length p2.length c1 c2 p1 p2 _ rfl rfl q1 q2 b1 b2).mono ?_
  rintro e w' ⟨rfl,q,rfl⟩
  cases hd:decide (p1=p2)
  all_goals
   have HD:=hid hd
   clear hd
   go_wp2_with (fail)
   go_ret
   exact ⟨Z0e HD.out.symm,Z0C yy q⟩
 ·have HB:Hid (decide ((⟨r1,p1⟩:Cl)=⟨r2,p2⟩)=false):=hid (decide_eq_false (fun e=>hr (by injection e)))
  rw [HB.out]
  have hne:(r1==r2)=false:=beq_eq_false_iff_ne.2 hr
  clear y1 y2 h1 h2 hr
  go_enter Tryz.func72,Tryz.ntmps72
  go_wp2_with (fail)
  go_ret
  exact ⟨rfl,yy⟩
theorem Z95 (A B:Option Addr) (n m c d:Nat) (l k:List ClS) (w:World) (hn:n=l.length) (hm:m=k.length) (h1:RdCl w w.heap.size A l) (h2:RdCl w w.heap.size B k) (hb:n≤100000000) (hb2:m≤100000000)
 (hs1:∀ x∈l,x.c.s.length≤140737488355328) (hs2:∀ x∈k,x.c.s.length≤140737488355328) :
 Calls Tryz.prog 71 #[.slice A n c,.slice B m d,.func (.func 72) #[] #[]] w fun e w'=>e=.returned (.bool (decide (Z0g l=Z0g k)))∧Below w.heap.size w w':=by
 have N:=hid hn
 have M:=hid hm
 have H1:=hid h1
 have H2:=hid h2
 have S1:=hid hs1
 have S2:=hid hs2
 generalize hR:decide (Z0g l=Z0g k)=R
 have HR:=hid hR
 clear hn hR hm h1 h2 hs1 hs2
 have HL:Hid (∀ x:List ClS,(Z0g x).length=x.length):=hid (fun x=>by unfold Z0g;simp)
 by_cases hnm:(n:Int)=m
 ·have hnm':n=m:=by omega
  subst hnm'
  clear hnm
  go_enter Tryz.func71,Tryz.ntmps71
  go_wp2_with (fail)
  go_loopg [17] n (fun g iv wr => ∃ i:Nat,i≤n∧g=n-i∧iv=.int .i64 (i:Int)∧Below w.heap.size w wr∧Hid (decide (Z0g (l.drop i)=Z0g (k.drop i))=R))
  case atStart=>exact ⟨0,by omega,rfl,rfl,Below.refl _ _,hid (by rw [List.drop_zero,List.drop_zero];exact HR.out)⟩
  case round=>
   obtain ⟨i,hi,hg,rfl,y,HI⟩:=hrel
   have HG:=hid hg
   clear hg HR
   by_cases hlt:i<n
   ·have hl1:i<l.length:=by have:=N.out;omega
    have hl2:i<k.length:=by have:=M.out;omega
    obtain ⟨ad,x,rfl,_,hd1,hx1,hc1⟩:=(H1.out.ext y).1.el hl1
    obtain ⟨ad2,x',rfl,had2,hd2,hx2,hc2⟩:=(H2.out.ext y).1.el hl2
    have hm1:=List.mem_of_getElem? hx1
    have hm2:=List.mem_of_getElem? hx2
    have p1:=hid (H1.out.2 x hm1)
    have p2:=hid (H2.out.2 x' hm2)
    have b1:=hid (S1.out x hm1)
    have b2:=hid (S2.out x' hm2)
    have HI':Hid (decide (x.c::Z0g (l.drop (i+1))=x'.c::Z0g (k.drop (i+1)))=R):=hid (by rw [←HI.out,hd1,hd2];rfl)
    clear HI hd1 hd2 hx1 hx2 hm1 hm2
    obtain ⟨⟨r1,s1⟩,As1,cs1⟩:=x
    obtain ⟨⟨r2,s2⟩,As2,cs2⟩:=x'
    obtain ⟨z0,z1⟩:=Z1E hc1
    have ya:=Z0b wr (.cells #[.int .i32 r1,.slice As1 s1.length cs1] 41)
    obtain ⟨u0,u1⟩:=Z1E (hc2.keep (w':=wr.alloc (.cells #[.int .i32 r1,.slice As1 s1.length cs1] 41)) fun q hq=>ya.cell (by rw [hq,Z0R];exact had2))
    clear hc1 hc2 hl1 hl2 had2
    have yb:=Z0b (wr.alloc (.cells #[.int .i32 r1,.slice As1 s1.length cs1] 41)) (.cells #[.int .i32 r2,.slice As2 s2.length cs2] 41)
    have y3:=hid (Z0a y (Z0a ya yb))
    clear ya yb
    go_wp2_with (go_at_call 72;refine Hid.out ?_)
    refine hid ?_
    refine (Z94 r1 r2 s1 s2 As1 As2 cs1 cs2 _ (p1.out.ext y3.out) (p2.out.ext y3.out) b1.out b2.out).mono ?_
    rintro e w' ⟨rfl,y4⟩
    have yy:=Z0a y3.out y4
    have hw2:IntKind.i64.wrap ((i:Int)+1)=(i:Int)+1:=IntWalk.i64_in _ (by omega)
    by_cases hxy:(⟨r1,s1⟩:Cl)=⟨r2,s2⟩
    ·have HXY:=hid hxy
     rw [decide_eq_true hxy]
     clear hxy
     go_wp2_with (fail)
     go_roundg (n-(i+1))
     case measure=>have:=HG.out;omega
     case rel=>exact ⟨i+1,by omega,rfl,by go_num,yy,hid (by rw [←HI'.out];simp only [List.cons.injEq,HXY.out,true_and])⟩
    ·have HXY:=hid hxy
     rw [decide_eq_false hxy]
     clear hxy
     go_wp2_with (fail)
     go_ret
     exact ⟨Z0e (by rw [←HI'.out];exact (decide_eq_false fun e=>HXY.out (List.cons.inj e).1).symm),yy⟩
   ·go_wp2_with (fail)
    go_ret
    exact ⟨Z0e (by rw [←HI.out,List.drop_eq_nil_of_le (by have:=N.out;omega),List.drop_eq_nil_of_le (by have:=M.out;omega)];rfl),y⟩
 ·have hne:((n:Int)==m)=false:=beq_eq_false_iff_ne.2 hnm
  go_enter Tryz.func71,Tryz.ntmps71
  go_wp2_with (fail)
  go_ret
  refine ⟨Z0e ?_,Below.refl _ _⟩
  rw [←HR.out]
  refine (decide_eq_false fun e=>?_).symm
  have h3:=N.out
  have h4:=M.out
  have h5:=congrArg List.length e
  rw [HL.out,HL.out] at h5
  omega
theorem Z70 (A B:Option Addr) (n m c d:Nat) (l k:List ClS) (w:World) (hn:n=l.length) (hm:m=k.length) (h1:RdCl w w.heap.size A l) (h2:RdCl w w.heap.size B k) (hb:n≤100000000) (hb2:m≤100000000)
 (hs1:∀ x∈l,x.c.s.length≤140737488355328) (hs2:∀ x∈k,x.c.s.length≤140737488355328) :
 Calls Tryz.prog 19 #[.slice A n c,.slice B m d] w fun e w'=>e=.returned (.bool (decide (Z0g l=Z0g k)))∧Below w.heap.size w w':=by
 have H:=hid (Z95 A B n m c d l k w hn hm h1 h2 hb hb2 hs1 hs2)
 clear hn hm h1 h2 hs1 hs2
 generalize decide (Z0g l=Z0g k)=R at *
 go_enter Tryz.func19,Tryz.ntmps19
 go_wp2_with (go_at_call 71;refine Hid.out ?_)
 refine hid ?_
 refine H.out.mono ?_
 rintro e w' ⟨rfl,y⟩
 go_wp2_with (fail)
 go_ret
 exact ⟨rfl,y⟩
end Go.Proofs.YtnmedachaeanbaaGreatDoor
