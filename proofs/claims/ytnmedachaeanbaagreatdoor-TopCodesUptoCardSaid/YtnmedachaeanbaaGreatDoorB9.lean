/- Merged texts. -/
import Derived.Test.YtnmedachaeanbaaGreatDoorB8
import Derived.Deep.RegionLaw
namespace Go.Proofs.YtnmedachaeanbaaGreatDoor
set_option maxRecDepth 100000
set_option maxHeartbeats 6400000
open Go.RowKit
open Go.Lib (hid)
set_option linter.unusedVariables false
set_option linter.unusedSimpArgs false
def OkV (v:V) (x:Value) (_:World):Prop:=x=v.val∧okV v∧v.s.size≤100000000
theorem RS.keep {w w':World} {pr:Nat} {A:Option Addr} {n c:Nat} {b:List Int} {k:Nat} {bad:Bool} (h:RS w pr A n c b k bad) (hk:∀ j,j≤pr→w'.heap[j]? = w.heap[j]?):RS w' pr A n c b k bad:=
 ⟨(hk pr (Nat.le_refl _)).trans h.box,h.rd.keep fun p hp=>(by simp only [World.cell?];rw [hk p.block (Nat.le_of_lt hp)]),h.len,h.cap,h.u8,h.small,h.le⟩
theorem RS.setUp {w:World} {pr g:Nat} {A:Option Addr} {n c:Nat} {b:List Int} {k:Nat} {bad:Bool} (h:RS w pr A n c b k bad) (hg:pr<g) (j:Nat) (u:Value):RS (w.setCell ⟨g,j,none⟩ u) pr A n c b k bad:=
 h.keep fun i hi=>Below.heap_setCell w ⟨g,j,none⟩ u i (fun e=>by simp only at e;omega)
theorem GR.setUp {w0 w:World} {pr g:Nat} (h:GR pr w0 w) (hg:w0.heap.size≤g) (j:Nat) (u:Value):GR pr w0 (w.setCell ⟨g,j,none⟩ u):=
 ⟨h.os,h.tape,h.output,by simpa [World.setCell] using h.size,fun i hi hn=>(Below.heap_setCell w ⟨g,j,none⟩ u i (fun e=>by simp only at e;omega)).trans (h.block i hi hn),fun k hk=>h.foot k hk⟩
theorem GR.trans1 {a b c:World} {pr:Nat} (h:GR pr a b) (h':GR pr b c):GR pr a c:=h.trans h'
theorem GR.alloc {w0 w:World} {pr:Nat} (h:GR pr w0 w) (o:Obj):GR pr w0 (w.alloc o):=h.trans (Grow.of (Z0b w o))
theorem Took.of_at {α:Type} {P Q:PF α} {b:List Int} {k k':Nat} {a:α} {bad bad':Bool} (h:Took P b k bad a k' bad') (e:P (b.drop k)=Q (b.drop k)):Took Q b k bad a k' bad':=by
 unfold Took at h ⊢
 rw [←e]
 exact h
theorem Y8h (n:Nat) {x:List Int} (hu:U8 x):((pU 18446744073709551615 x).map fun z=>((fun a:Nat=>(⟨3,0,a,⟨#[]⟩⟩:V)) z.1,z.2))=pV n 3 x:=by
 unfold pV pU
 rw [if_neg (by omega),if_pos rfl]
 cases h:rdU 0 x with
 | none=>rfl
 | some z=>
   have:=(Z20 (n:=z.1) (rest:=z.2) hu h).2
   simp only [Option.bind_some]
   rw [if_pos (by omega)]
   try rfl
theorem Tryz.unV:Tryz.prog.underlying 73=some (.struct (Tryz.prog.fieldsOf 73)):=by kernel_rfl
theorem Tryz.szV:(Tryz.prog.info? 73).map (·.size)=some 4:=by kernel_rfl
theorem Z2J {w:World} {b:Nat} {c0 c1 c2 c3:Value} {t:TypeId} (h:w.heap[b]? = some (.cells #[c0,c1,c2,c3] t (0,0))) (u0 u1 u2 u3:Value) :
 ((((w.setCell ⟨b,0,none⟩ u0).setCell ⟨b,1,none⟩ u1).setCell ⟨b,2,none⟩ u2).setCell ⟨b,3,none⟩ u3).heap[b]? = some (.cells #[u0,u1,u2,u3] t (0,0)):=by
 have h0:=Z0d (j:=0) h u0
 have h1:=Z0d (j:=1) h0 u1
 have h2:=Z0d (j:=2) h1 u2
 have h3:=Z0d (j:=3) h2 u3
 simpa using h3
theorem Z60 (pr kd:Nat) (A:Option Addr) (n c:Nat) (b:List Int) (k:Nat) (bad:Bool) (w:World) (hk:kd≤255) (h:RS w pr A n c b k bad) :
 Calls Tryz.prog 250 #[.pointer (some ⟨pr,0,none⟩),.int .u8 (kd:Int)] w (OutR (pV n kd) OkV w pr A n c b k bad):=by
 have hpl:=Z0p h.box
 have H0:=hid h
 by_cases k1:kd=1
 ·subst k1
  rw [show ((1:Nat):Int)=1 from rfl]
  have y1:=Z0b w (.cells #[.int .u8 1,.int .i64 0,.int .u64 0,.string ⟨#[]⟩] 73)
  have HB:=hid (heap_alloc_new w (.cells #[.int .u8 1,.int .i64 0,.int .u64 0,.string ⟨#[]⟩] 73))
  have H:=hid (h.below y1)
  have G1:Hid (GR pr w (w.alloc (.cells #[.int .u8 1,.int .i64 0,.int .u64 0,.string ⟨#[]⟩] 73))):=hid (Grow.of y1)
  obtain ⟨r0,r1,r2⟩:=H.out.cells
  have f1:=H.out.thaw 1
  have f2:=H.out.thaw 2
  obtain ⟨t0,t1,t2,t3⟩:=Z1Y HB.out
  have tf:=Z0y HB.out
  have hsm:=h.small
  have OKZ:Hid (okV ⟨1,0,0,⟨#[]⟩⟩):=hid (by unfold okV;simp only;omega)
  clear y1
  have HRd:Hid (RdU8 w w.heap.size A b):=hid (H0.out.rd.more (Nat.le_of_lt hpl))
  have HI:Hid (∀ m:Nat,Calls Tryz.prog 320 #[.slice A n c,.int .i64 (k:Int)] ((w.alloc (.cells #[.int .u8 1,.int .i64 0,.int .u64 0,.string ⟨#[]⟩] 73)).drewN m) fun e w'=>e=.returned (Z48 n (rdU 0 (b.drop k)))∧w'=(w.alloc (.cells #[.int .u8 1,.int .i64 0,.int .u64 0,.string ⟨#[]⟩] 73)).drewN m):=
   hid (fun m=>Y0M A n c k b _ H0.out.len H0.out.cap ((HRd.out.ext (Z0b w _)).ext (Z0m _ m)) H0.out.u8 (by omega) H0.out.le)
  have HPV:Hid (pV n 1 (b.drop k)=(rdU 0 (b.drop k)).map fun z=>(⟨1,zagP z.1,0,⟨#[]⟩⟩,z.2)):=hid (by unfold pV;rw [if_pos (by omega)];rfl)
  cases ho:rdU 0 (b.drop k) with
  | none=>
    have HN:Hid (pV n 1 (b.drop k)=none):=hid (by rw [HPV.out,ho];rfl)
    rw [ho] at HI
    unfold Z48 at HI
    simp only at HI
    clear ho
    go_enter Tryz.func250,Tryz.ntmps250
    go_wp2_with (fail)
    go_quiet ((go_at_call 320;exact Calls.quiet_of_same (HI.out _)))
    go_wp2_with (fail)
    have q0:=(Below.heap_setCell ((w.alloc (.cells #[.int .u8 1,.int .i64 0,.int .u64 0,.string ⟨#[]⟩] 73)).drewN nq) ⟨pr,2,none⟩ (.bool true) w.heap.size (fun e=>by simp only at e;omega)).trans HB.out
    have q1:=Z2J q0 (.int .u8 1) (.int .i64 0) (.int .u64 0) (.string ⟨#[]⟩)
    refine bodyPost_ret (results_cell_row (P:=Tryz.prog) rfl _ _ w.heap.size 73 #[.int .u8 1,.int .i64 0,.int .u64 0,.string ⟨#[]⟩] (0,0) _ rfl q1 Tryz.unV rfl Tryz.szV) rfl ?_
    exact ⟨⟨1,0,0,⟨#[]⟩⟩,_,k,true,rfl,⟨rfl,OKZ.out,Nat.zero_le _⟩,((((H.out.below (Z0m _ nq)).setBad.setUp hpl _ _).setUp hpl _ _).setUp hpl _ _).setUp hpl _ _,
     (((GR.setUp ((G1.out.trans (Grow.of (Z0m _ nq))).trans (GR.set _ _ _ _)) (Nat.le_refl _) _ _).setUp (Nat.le_refl _) _ _).setUp (Nat.le_refl _) _ _).setUp (Nat.le_refl _) _ _,Z2b HN.out⟩
  | some z=>
    obtain ⟨v,r⟩:=z
    obtain ⟨e1,e2⟩:=Z20 (fun x hx=>H0.out.u8 x (List.mem_of_mem_drop hx)) ho
    have hrl:(uv v).length+r.length=n-k:=by rw [←List.length_append,←e1,List.length_drop,H0.out.len]
    obtain ⟨q,hq⟩:∃ X,n-r.length=X:=⟨_,rfl⟩
    have hz:=Y2K e2
    have HR2:Hid (b.drop q=r):=hid (by
     have h1:b.drop (k+(uv v).length)=r:=by rw [←List.drop_drop,e1,List.drop_left]
     rw [←h1]
     congr 1
     have:=H0.out.le
     omega)
    have hqn:q≤n:=by omega
    have HS:Hid (pV n 1 (b.drop k)=some (⟨1,zagP v,0,⟨#[]⟩⟩,r)):=hid (by rw [HPV.out,ho];rfl)
    rw [ho] at HI
    unfold Z48 at HI
    simp only at HI
    rw [hq] at HI
    obtain ⟨zv,hzv⟩:∃ X,zagP v=X:=⟨_,rfl⟩
    rw [hzv] at HI HS hz
    clear ho e1 e2 hrl hq hzv
    go_enter Tryz.func250,Tryz.ntmps250
    go_wp2_with (fail)
    go_quiet ((go_at_call 320;exact Calls.quiet_of_same (HI.out _)))
    go_wp2_with (fail)
    have p0:(((w.alloc (.cells #[.int .u8 1,.int .i64 0,.int .u64 0,.string ⟨#[]⟩] 73)).drewN nq).setCell ⟨w.heap.size,1,none⟩ (.int .i64 zv)).heap[w.heap.size]? = some (.cells #[.int .u8 1,.int .i64 zv,.int .u64 0,.string ⟨#[]⟩] 73 (0,0)):=by
     have h1:=Z0d (w:=(w.alloc (.cells #[.int .u8 1,.int .i64 0,.int .u64 0,.string ⟨#[]⟩] 73)).drewN nq) (j:=1) HB.out (.int .i64 zv)
     simpa using h1
    have q0:=(Below.heap_setCell _ ⟨pr,1,none⟩ (.int .i64 (q:Int)) w.heap.size (fun e=>by simp only at e;omega)).trans p0
    have q1:=Z2J q0 (.int .u8 1) (.int .i64 zv) (.int .u64 0) (.string ⟨#[]⟩)
    refine bodyPost_ret (results_cell_row (P:=Tryz.prog) rfl _ _ w.heap.size 73 #[.int .u8 1,.int .i64 zv,.int .u64 0,.string ⟨#[]⟩] (0,0) _ rfl q1 Tryz.unV rfl Tryz.szV) rfl ?_
    exact ⟨⟨1,zv,0,⟨#[]⟩⟩,_,q,bad,rfl,⟨rfl,(by unfold okV;simp only;omega),Nat.zero_le _⟩,(((((H.out.below (Z0m _ nq)).setUp hpl _ _).setAt hqn).setUp hpl _ _).setUp hpl _ _).setUp hpl _ _ |>.setUp hpl _ _,
     ((((GR.setUp (GR.trans1 (GR.setUp (G1.out.trans (Grow.of (Z0m _ nq))) (Nat.le_refl _) _ _) (GR.set _ _ _ _)) (Nat.le_refl _) _ _).setUp (Nat.le_refl _) _ _).setUp (Nat.le_refl _) _ _).setUp (Nat.le_refl _) _ _),Z1R HS.out HR2.out⟩
 by_cases k2:kd=2
 ·subst k2
  rw [show ((2:Nat):Int)=2 from rfl]
  have y1:=Z0b w (.cells #[.int .u8 2,.int .i64 0,.int .u64 0,.string ⟨#[]⟩] 73)
  have HB:=hid (heap_alloc_new w (.cells #[.int .u8 2,.int .i64 0,.int .u64 0,.string ⟨#[]⟩] 73))
  have H:=hid (h.below y1)
  have G1:Hid (GR pr w (w.alloc (.cells #[.int .u8 2,.int .i64 0,.int .u64 0,.string ⟨#[]⟩] 73))):=hid (Grow.of y1)
  obtain ⟨r0,r1,r2⟩:=H.out.cells
  have f1:=H.out.thaw 1
  have f2:=H.out.thaw 2
  obtain ⟨t0,t1,t2,t3⟩:=Z1Y HB.out
  have tf:=Z0y HB.out
  have hsm:=h.small
  have OKZ:Hid (okV ⟨2,0,0,⟨#[]⟩⟩):=hid (by unfold okV;simp only;omega)
  clear y1
  have HRd:Hid (RdU8 w w.heap.size A b):=hid (H0.out.rd.more (Nat.le_of_lt hpl))
  have HI:Hid (∀ m:Nat,Calls Tryz.prog 320 #[.slice A n c,.int .i64 (k:Int)] ((w.alloc (.cells #[.int .u8 2,.int .i64 0,.int .u64 0,.string ⟨#[]⟩] 73)).drewN m) fun e w'=>e=.returned (Z48 n (rdU 0 (b.drop k)))∧w'=(w.alloc (.cells #[.int .u8 2,.int .i64 0,.int .u64 0,.string ⟨#[]⟩] 73)).drewN m):=
   hid (fun m=>Y0M A n c k b _ H0.out.len H0.out.cap ((HRd.out.ext (Z0b w _)).ext (Z0m _ m)) H0.out.u8 (by omega) H0.out.le)
  have HPV:Hid (pV n 2 (b.drop k)=(rdU 0 (b.drop k)).map fun z=>(⟨2,zagP z.1,0,⟨#[]⟩⟩,z.2)):=hid (by unfold pV;rw [if_pos (by omega)];rfl)
  cases ho:rdU 0 (b.drop k) with
  | none=>
    have HN:Hid (pV n 2 (b.drop k)=none):=hid (by rw [HPV.out,ho];rfl)
    rw [ho] at HI
    unfold Z48 at HI
    simp only at HI
    clear ho
    go_enter Tryz.func250,Tryz.ntmps250
    go_wp2_with (fail)
    go_quiet ((go_at_call 320;exact Calls.quiet_of_same (HI.out _)))
    go_wp2_with (fail)
    have q0:=(Below.heap_setCell ((w.alloc (.cells #[.int .u8 2,.int .i64 0,.int .u64 0,.string ⟨#[]⟩] 73)).drewN nq) ⟨pr,2,none⟩ (.bool true) w.heap.size (fun e=>by simp only at e;omega)).trans HB.out
    have q1:=Z2J q0 (.int .u8 2) (.int .i64 0) (.int .u64 0) (.string ⟨#[]⟩)
    refine bodyPost_ret (results_cell_row (P:=Tryz.prog) rfl _ _ w.heap.size 73 #[.int .u8 2,.int .i64 0,.int .u64 0,.string ⟨#[]⟩] (0,0) _ rfl q1 Tryz.unV rfl Tryz.szV) rfl ?_
    exact ⟨⟨2,0,0,⟨#[]⟩⟩,_,k,true,rfl,⟨rfl,OKZ.out,Nat.zero_le _⟩,((((H.out.below (Z0m _ nq)).setBad.setUp hpl _ _).setUp hpl _ _).setUp hpl _ _).setUp hpl _ _,
     (((GR.setUp ((G1.out.trans (Grow.of (Z0m _ nq))).trans (GR.set _ _ _ _)) (Nat.le_refl _) _ _).setUp (Nat.le_refl _) _ _).setUp (Nat.le_refl _) _ _).setUp (Nat.le_refl _) _ _,Z2b HN.out⟩
  | some z=>
    obtain ⟨v,r⟩:=z
    obtain ⟨e1,e2⟩:=Z20 (fun x hx=>H0.out.u8 x (List.mem_of_mem_drop hx)) ho
    have hrl:(uv v).length+r.length=n-k:=by rw [←List.length_append,←e1,List.length_drop,H0.out.len]
    obtain ⟨q,hq⟩:∃ X,n-r.length=X:=⟨_,rfl⟩
    have hz:=Y2K e2
    have HR2:Hid (b.drop q=r):=hid (by
     have h1:b.drop (k+(uv v).length)=r:=by rw [←List.drop_drop,e1,List.drop_left]
     rw [←h1]
     congr 1
     have:=H0.out.le
     omega)
    have hqn:q≤n:=by omega
    have HS:Hid (pV n 2 (b.drop k)=some (⟨2,zagP v,0,⟨#[]⟩⟩,r)):=hid (by rw [HPV.out,ho];rfl)
    rw [ho] at HI
    unfold Z48 at HI
    simp only at HI
    rw [hq] at HI
    obtain ⟨zv,hzv⟩:∃ X,zagP v=X:=⟨_,rfl⟩
    rw [hzv] at HI HS hz
    clear ho e1 e2 hrl hq hzv
    go_enter Tryz.func250,Tryz.ntmps250
    go_wp2_with (fail)
    go_quiet ((go_at_call 320;exact Calls.quiet_of_same (HI.out _)))
    go_wp2_with (fail)
    have p0:(((w.alloc (.cells #[.int .u8 2,.int .i64 0,.int .u64 0,.string ⟨#[]⟩] 73)).drewN nq).setCell ⟨w.heap.size,1,none⟩ (.int .i64 zv)).heap[w.heap.size]? = some (.cells #[.int .u8 2,.int .i64 zv,.int .u64 0,.string ⟨#[]⟩] 73 (0,0)):=by
     have h1:=Z0d (w:=(w.alloc (.cells #[.int .u8 2,.int .i64 0,.int .u64 0,.string ⟨#[]⟩] 73)).drewN nq) (j:=1) HB.out (.int .i64 zv)
     simpa using h1
    have q0:=(Below.heap_setCell _ ⟨pr,1,none⟩ (.int .i64 (q:Int)) w.heap.size (fun e=>by simp only at e;omega)).trans p0
    have q1:=Z2J q0 (.int .u8 2) (.int .i64 zv) (.int .u64 0) (.string ⟨#[]⟩)
    refine bodyPost_ret (results_cell_row (P:=Tryz.prog) rfl _ _ w.heap.size 73 #[.int .u8 2,.int .i64 zv,.int .u64 0,.string ⟨#[]⟩] (0,0) _ rfl q1 Tryz.unV rfl Tryz.szV) rfl ?_
    exact ⟨⟨2,zv,0,⟨#[]⟩⟩,_,q,bad,rfl,⟨rfl,(by unfold okV;simp only;omega),Nat.zero_le _⟩,(((((H.out.below (Z0m _ nq)).setUp hpl _ _).setAt hqn).setUp hpl _ _).setUp hpl _ _).setUp hpl _ _ |>.setUp hpl _ _,
     ((((GR.setUp (GR.trans1 (GR.setUp (G1.out.trans (Grow.of (Z0m _ nq))) (Nat.le_refl _) _ _) (GR.set _ _ _ _)) (Nat.le_refl _) _ _).setUp (Nat.le_refl _) _ _).setUp (Nat.le_refl _) _ _).setUp (Nat.le_refl _) _ _),Z1R HS.out HR2.out⟩
 by_cases k3:kd=3
 ·subst k3
  rw [show ((3:Nat):Int)=3 from rfl]
  have y1:=Z0b w (.cells #[.int .u8 3,.int .i64 0,.int .u64 0,.string ⟨#[]⟩] 73)
  have HB:=hid (heap_alloc_new w (.cells #[.int .u8 3,.int .i64 0,.int .u64 0,.string ⟨#[]⟩] 73))
  have H:=hid (h.below y1)
  have G1:Hid (GR pr w (w.alloc (.cells #[.int .u8 3,.int .i64 0,.int .u64 0,.string ⟨#[]⟩] 73))):=hid (Grow.of y1)
  obtain ⟨r0,r1,r2⟩:=H.out.cells
  have f1:=H.out.thaw 1
  have f2:=H.out.thaw 2
  obtain ⟨t0,t1,t2,t3⟩:=Z1Y HB.out
  have tf:=Z0y HB.out
  have hsm:=h.small
  have OKZ:Hid (okV ⟨3,0,0,⟨#[]⟩⟩):=hid (by unfold okV;simp only;omega)
  clear y1
  go_enter Tryz.func250,Tryz.ntmps250
  go_wp2_with (go_at_call 161;refine Hid.out ?_)
  refine hid ?_
  refine (Z12 pr 18446744073709551615 A n c b k bad _ (by decide) H.out).mono ?_
  rintro e w2 ⟨a,x,k2,bad2,rfl,⟨rfl,ha⟩,hs,hg,ht⟩
  have HT:=hid ht
  have S2:=hid hs
  have G2:=hid hg
  have HB2:=hid ((hg.block w.heap.size (by simp) (fun e:w.heap.size=pr=>by omega)).trans HB.out)
  clear ht hs hg r0 r1 r2 t0 t1 t2 t3 tf f1 f2
  obtain ⟨t0,t1,t2,t3⟩:=Z1Y HB2.out
  have tf:=Z0y HB2.out
  go_wp2_with (fail)
  have p0:(w2.setCell ⟨w.heap.size,2,none⟩ (.int .u64 (a:Int))).heap[w.heap.size]? = some (.cells #[.int .u8 3,.int .i64 0,.int .u64 (a:Int),.string ⟨#[]⟩] 73 (0,0)):=by
   have h1:=Z0d (w:=w2) (j:=2) HB2.out (.int .u64 (a:Int))
   simpa using h1
  have q1:=Z2J p0 (.int .u8 3) (.int .i64 0) (.int .u64 (a:Int)) (.string ⟨#[]⟩)
  refine bodyPost_ret (results_cell_row (P:=Tryz.prog) rfl _ _ w.heap.size 73 #[.int .u8 3,.int .i64 0,.int .u64 (a:Int),.string ⟨#[]⟩] (0,0) _ rfl q1 Tryz.unV rfl Tryz.szV) rfl ?_
  exact ⟨⟨3,0,a,⟨#[]⟩⟩,_,k2,bad2,rfl,⟨rfl,(by unfold okV;simp only;omega),Nat.zero_le _⟩,((((S2.out.setUp hpl _ _).setUp hpl _ _).setUp hpl _ _).setUp hpl _ _).setUp hpl _ _,
   ((((GR.setUp (GR.trans1 G1.out G2.out) (Nat.le_refl _) _ _).setUp (Nat.le_refl _) _ _).setUp (Nat.le_refl _) _ _).setUp (Nat.le_refl _) _ _).setUp (Nat.le_refl _) _ _,(HT.out.map (f:=fun a:Nat=>(⟨3,0,a,⟨#[]⟩⟩:V))).of_at (Y8h n (fun x hx=>H0.out.u8 x (List.mem_of_mem_drop hx)))⟩
 by_cases k4:kd=4
 ·subst k4
  rw [show ((4:Nat):Int)=4 from rfl]
  have y1:=Z0b w (.cells #[.int .u8 4,.int .i64 0,.int .u64 0,.string ⟨#[]⟩] 73)
  have HB:=hid (heap_alloc_new w (.cells #[.int .u8 4,.int .i64 0,.int .u64 0,.string ⟨#[]⟩] 73))
  have H:=hid (h.below y1)
  have G1:Hid (GR pr w (w.alloc (.cells #[.int .u8 4,.int .i64 0,.int .u64 0,.string ⟨#[]⟩] 73))):=hid (Grow.of y1)
  obtain ⟨r0,r1,r2⟩:=H.out.cells
  have f1:=H.out.thaw 1
  have f2:=H.out.thaw 2
  obtain ⟨t0,t1,t2,t3⟩:=Z1Y HB.out
  have tf:=Z0y HB.out
  have hsm:=h.small
  have OKZ:Hid (okV ⟨4,0,0,⟨#[]⟩⟩):=hid (by unfold okV;simp only;omega)
  clear y1
  go_enter Tryz.func250,Tryz.ntmps250
  go_wp2_with (go_at_call 165;refine Hid.out ?_)
  refine hid ?_
  refine (Z6Z pr A n c b k bad _ H.out).mono ?_
  rintro e w2 ⟨a,x,k2,bad2,rfl,⟨A2,c2,rfl,hc2,hrd,hu2,hl2⟩,hs,hg,ht⟩
  have HT:=hid ht
  have S2:=hid hs
  have G2:=hid hg
  have HB2:=hid ((hg.block w.heap.size (by simp) (fun e:w.heap.size=pr=>by omega)).trans HB.out)
  have cv:=Z31 (n:=a.length) (c:=c2) rfl hrd hu2
  have HSZ:Hid ((strB a).size≤100000000):=hid (by rw [←Z1l,Z4h hu2];exact hl2)
  obtain ⟨al,hal⟩:∃ X,a.length=X:=⟨_,rfl⟩
  rw [hal] at cv
  rw [hal]
  clear ht hs hg r0 r1 r2 t0 t1 t2 t3 tf f1 f2 hc2 hrd hu2 hl2 hal
  obtain ⟨sv,hsv⟩:∃ X,strB a=X:=⟨_,rfl⟩
  have HSV:=hid hsv
  rw [hsv] at cv HSZ
  clear hsv
  obtain ⟨t0,t1,t2,t3⟩:=Z1Y HB2.out
  have tf:=Z0y HB2.out
  go_wp2_with (fail)
  have p0:(w2.setCell ⟨w.heap.size,3,none⟩ (.string sv)).heap[w.heap.size]? = some (.cells #[.int .u8 4,.int .i64 0,.int .u64 0,.string sv] 73 (0,0)):=by
   have h1:=Z0d (w:=w2) (j:=3) HB2.out (.string sv)
   simpa using h1
  have q1:=Z2J p0 (.int .u8 4) (.int .i64 0) (.int .u64 0) (.string sv)
  refine bodyPost_ret (results_cell_row (P:=Tryz.prog) rfl _ _ w.heap.size 73 #[.int .u8 4,.int .i64 0,.int .u64 0,.string sv] (0,0) _ rfl q1 Tryz.unV rfl Tryz.szV) rfl ?_
  exact ⟨⟨4,0,0,sv⟩,_,k2,bad2,rfl,⟨rfl,(by unfold okV;simp only;omega),HSZ.out⟩,((((S2.out.setUp hpl _ _).setUp hpl _ _).setUp hpl _ _).setUp hpl _ _).setUp hpl _ _,
   ((((GR.setUp (GR.trans1 G1.out G2.out) (Nat.le_refl _) _ _).setUp (Nat.le_refl _) _ _).setUp (Nat.le_refl _) _ _).setUp (Nat.le_refl _) _ _).setUp (Nat.le_refl _) _ _,by rw [←HSV.out];exact (HT.out.map (f:=fun a=>(⟨4,0,0,strB a⟩:V))).of_at (by unfold pV;rw [if_neg (by omega),if_neg (by omega),if_pos rfl])⟩
 have y1:=Z0b w (.cells #[.int .u8 (kd:Int),.int .i64 0,.int .u64 0,.string ⟨#[]⟩] 73)
 have HB:=hid (heap_alloc_new w (.cells #[.int .u8 (kd:Int),.int .i64 0,.int .u64 0,.string ⟨#[]⟩] 73))
 have H:=hid (h.below y1)
 have G1:Hid (GR pr w (w.alloc (.cells #[.int .u8 (kd:Int),.int .i64 0,.int .u64 0,.string ⟨#[]⟩] 73))):=hid (Grow.of y1)
 obtain ⟨r0,r1,r2⟩:=H.out.cells
 have f1:=H.out.thaw 1
 have f2:=H.out.thaw 2
 obtain ⟨t0,t1,t2,t3⟩:=Z1Y HB.out
 have tf:=Z0y HB.out
 have hsm:=h.small
 have OKZ:Hid (okV ⟨kd,0,0,⟨#[]⟩⟩):=hid (by unfold okV;simp only;omega)
 clear y1
 have b1:((kd:Int)==1)=false:=beq_eq_false_iff_ne.2 (by omega)
 have b2:((kd:Int)==2)=false:=beq_eq_false_iff_ne.2 (by omega)
 have b3:((kd:Int)==3)=false:=beq_eq_false_iff_ne.2 (by omega)
 have b4:((kd:Int)==4)=false:=beq_eq_false_iff_ne.2 (by omega)
 have HN:Hid (pV n kd (b.drop k)=none):=hid (by unfold pV;rw [if_neg (by omega),if_neg (by omega),if_neg (by omega)])
 clear k1 k2 k3 k4
 go_enter Tryz.func250,Tryz.ntmps250
 go_wp2_with (fail)
 have hz:(w.setCell ⟨pr,2,none⟩ (.bool true)).heap.size=w.heap.size:=by simp [World.setCell]
 have q1:=heap_alloc_new (w.setCell ⟨pr,2,none⟩ (.bool true)) (.cells #[.int .u8 (kd:Int),.int .i64 0,.int .u64 0,.string ⟨#[]⟩] 73)
 rw [hz] at q1
 refine bodyPost_ret (results_cell_row (P:=Tryz.prog) rfl _ _ w.heap.size 73 #[.int .u8 (kd:Int),.int .i64 0,.int .u64 0,.string ⟨#[]⟩] (0,0) _ rfl q1 Tryz.unV rfl Tryz.szV) rfl ?_
 exact ⟨⟨kd,0,0,⟨#[]⟩⟩,_,k,true,rfl,⟨rfl,OKZ.out,Nat.zero_le _⟩,H0.out.setBad.below (Z0b _ _),(GR.set _ _ _ _).trans (Grow.of (Z0b _ _)),Z2b HN.out⟩
def Wr (w:World) (F:Nat→Prop) (p:Nat) (l:List Int):Prop:=
 ∃ v:Value,w.heap[p]? = some (.cells #[v] 141 (0,0))∧OwU8 w 0 v l∧F p∧(∀ k,wb v=some k→F k∧k≠p)∧∀ k,F k→k<w.heap.size
def OutW (l:List Int) (w:World) (F:Nat→Prop) (p:Nat) (e:Ending) (w':World):Prop:=
 e=.returned (.tuple #[])∧∃ F',Wr w' F' p l∧Grow w F w' F'
theorem Wr.below {w w':World} {F:Nat→Prop} {p:Nat} {l:List Int} (h:Wr w F p l) (y:Below w.heap.size w w'):Wr w' F p l:=by
 obtain ⟨v,h1,h2,h3,h4,h5⟩:=h
 exact ⟨v,(y.block p (Z0p h1)).trans h1,h2.below y (Nat.le_refl _),h3,h4,fun k hk=>Nat.lt_of_lt_of_le (h5 k hk) y.size⟩
theorem Wr.step {w wa w2:World} {F:Nat→Prop} {p:Nat} {l:List Int} {v v':Value} (hc:w.heap[p]? = some (.cells #[v] 141 (0,0))) (hF:F p) (hvF:∀ k,wb v=some k→F k∧k≠p) (hs:∀ k,F k→k<w.heap.size)
 (ya:Below w.heap.size w wa) (hg:wa.grownBy w2 (wb v)) (ho:OwU8 w2 0 v' l) (hv':v'=v∧w2=wa∨wb v'=wb v∨wb v'=some wa.heap.size) :
 ∃ F',Wr (w2.setCell ⟨p,0,none⟩ v') F' p l∧Grow w F (w2.setCell ⟨p,0,none⟩ v') F':=by
 have hp:=hs p hF
 have hpa:p<wa.heap.size:=Nat.lt_of_lt_of_le hp ya.size
 have hnp:wb v≠some p:=fun e=>(hvF p e).2 rfl
 have h2:w2.heap[p]? = some (.cells #[v] 141 (0,0)):=(hg.block p hpa (fun e=>hnp e.symm)).trans ((ya.block p hp).trans hc)
 have hw:∀ k,wb v'=some k→F k∨w.heap.size≤k:=fun k hk=>by
  rcases hv' with ⟨rfl,_⟩|h|h
  ·exact .inl (hvF k hk).1
  ·exact .inl (hvF k (h ▸ hk)).1
  ·rw [h] at hk;injection hk with hk;subst hk;exact .inr ya.size
 have hne:wb v'≠some p:=fun e=>by
  rcases hv' with ⟨rfl,_⟩|h|h
  ·exact hnp e
  ·exact hnp (h ▸ e)
  ·rw [h] at e;injection e with e;omega
 refine ⟨fun k=>F k∨wb v'=some k,⟨v',?_,?_,.inl hF,fun k hk=>⟨.inr hk,fun e=>hne (e ▸ hk)⟩,?_⟩,⟨?_,?_,?_,?_,?_,?_⟩⟩
 ·rw [Z0d h2];rfl
 ·exact ho.setCell (p:=⟨p,0,none⟩) hne v'
 ·intro k hk
  have hsz:(w2.setCell ⟨p,0,none⟩ v').heap.size=w2.heap.size:=by simp [World.setCell]
  rw [hsz]
  rcases hk with hk|hk
  ·exact Nat.lt_of_lt_of_le (hs k hk) (Nat.le_trans ya.size hg.size)
  ·exact (ho.wb_lt k hk).2
 ·exact hg.os.trans ya.os
 ·exact hg.tape.trans ya.tape
 ·exact hg.output.trans ya.output
 ·have hsz:(w2.setCell ⟨p,0,none⟩ v').heap.size=w2.heap.size:=by simp [World.setCell]
  rw [hsz]
  exact Nat.le_trans ya.size hg.size
 ·intro j hj hn
  rw [Below.heap_setCell w2 ⟨p,0,none⟩ v' j (fun e=>hn (e ▸ hF)),hg.block j (Nat.lt_of_lt_of_le hj ya.size) (fun e=>hn (hvF j e.symm).1),ya.block j hj]
 ·intro k hk
  rcases hk with hk|hk
  ·exact .inl hk
  ·exact hw k hk
theorem Wr.cell {w wa w2:World} {F:Nat→Prop} {p:Nat} {v:Value} (hc:w.heap[p]? = some (.cells #[v] 141 (0,0))) (hvF:∀ k,wb v=some k→F k∧k≠p)
 (ya:Below w.heap.size w wa) (hg:wa.grownBy w2 (wb v)):w2.cell? ⟨p,0,none⟩=some v∧w2.frozen? ⟨p,0,none⟩=false:=by
 have hp:=Z0p hc
 have hnp:wb v≠some p:=fun e=>(hvF p e).2 rfl
 have h2:w2.heap[p]? = some (.cells #[v] 141 (0,0)):=(hg.block p (Nat.lt_of_lt_of_le hp ya.size) (fun e=>hnp e.symm)).trans ((ya.block p hp).trans hc)
 exact ⟨by simp [World.cell?,h2],by simp [World.frozen?,h2]⟩
theorem ow_some {α:Type} {enc:α→List Value} {size:Nat} {e:TypeId} {w:World} {base:Nat} {v:Value} {l:List α} (h:Ow enc size e w base v l):∃ A n c,v=.slice A n c:=by
 obtain ⟨A,c,e,_,_⟩:=h.form
 exact ⟨A,_,c,e⟩
theorem Z0B (p m:Nat) (F:Nat→Prop) (l:List Int) (w:World) (hm:m<2 ^ 64) (h:Wr w F p l) (hb:l.length≤1000000000) :
 Calls Tryz.prog 169 #[.pointer (some ⟨p,0,none⟩),.int .u64 (m:Int)] w (OutW (l++uv m) w F p):=by
 have hm':m<18446744073709551616:=hm
 obtain ⟨R,hR⟩:∃ X,uv m=X:=⟨_,rfl⟩
 have hl:R.length≤1000:=by rw [←hR];exact Nat.le_trans (Z1g hm) (by omega)
 have HR:=hid hR
 rw [hR]
 clear hR hm
 go_enter Tryz.func169,Tryz.ntmps169
 go_wp2_with (fail)
 go_loopg [1] m (fun g nv wr => ∃ (y:Nat) (pre:List Int) (F1:Nat→Prop) (w1:World),y≤m∧g=y∧nv=.int .u64 (y:Int)∧w1=wr∧Hid (R=pre++uv y)∧Hid (Wr w1 F1 p (l++pre))∧Hid (Grow w F w1 F1))
 case atStart=>exact ⟨m,[],F,w,Nat.le_refl _,rfl,rfl,rfl,hid (by rw [HR.out];rfl),hid (by rw [List.append_nil];exact h),hid (Grow.refl _ _)⟩
 case round=>
  obtain ⟨y,pre,F1,w1,hy,hg,rfl,rfl,HS,HW,HG⟩:=hrel
  have HY:=hid hg
  clear hg
  have hpl:pre.length+(uv y).length≤1000:=by rw [←List.length_append,←HS.out];exact hl
  obtain ⟨v,c1,hown,c3,c4,c5⟩:=HW.out
  have C1:=hid c1
  have C4:=hid c4
  have C5:=hid c5
  have C3:=c3
  have r0:w1.cell? ⟨p,0,none⟩=some v:=by simp [World.cell?,c1]
  have hpl2:=Z0p c1
  clear c1 c4 c5
  by_cases h128:y<128
  ·have HE:Hid (l++R=l++pre++[(y:Int)]):=hid (by rw [HS.out,Z2p h128,List.append_assoc])
   have hy8:IntKind.u8.wrap (y:Int)=(y:Int):=IntWalk.u8_in _ (by omega)
   have g1:¬ ((127:Int)<(y:Int)):=by omega
   go_wp2_with (at_builtin;refine Z3l (m:=[(y:Int)]) rfl (.tmp 24) (.tmp 27) rfl rfl (hown.alloc _) _ _ _ _ rfl rfl (Rd.new (enc:=Z2B) (size:=1) (fun _=>rfl) w1 5 [(y:Int)] (cs:=#[.int .u8 (y:Int)]) rfl rfl) (by simp only [List.length_append,List.length_cons,List.length_nil];omega) (by rw [World.size_alloc];omega) ?_;intro v' w' hown' hgr hv';obtain ⟨r1,r2⟩:=Wr.cell C1.out C4.out (Z0b w1 _) hgr;have ST:=hid (Wr.step C1.out C3 C4.out C5.out (Z0b w1 _) hgr hown' hv');clear hv' hgr;obtain ⟨A',nn,c',rfl⟩:=ow_some hown';clear hown')
   refine bodyPost_ret (results_none rfl _ _ _) rfl ?_
   obtain ⟨F',s1,s2⟩:=ST.out
   exact ⟨rfl,F',by rw [HE.out];exact s1,HG.out.trans s2⟩
  ·have HE:Hid (R=pre++[((y % 128+128:Nat):Int)]++uv (y / 128)):=hid (by rw [HS.out,Z2Z h128,List.append_assoc];rfl)
   have g1:(127:Int)<(y:Int):=by omega
   have hor:=Y8g (y:=y)
   go_wp2_with (at_builtin;refine Z3l (m:=[((y % 128+128:Nat):Int)]) rfl (.tmp 12) (.tmp 16) rfl rfl (hown.alloc _) _ _ _ _ rfl rfl (Rd.new (enc:=Z2B) (size:=1) (fun _=>rfl) w1 5 [((y % 128+128:Nat):Int)] (cs:=#[.int .u8 ((y % 128+128:Nat):Int)]) rfl rfl) (by simp only [List.length_append,List.length_cons,List.length_nil];omega) (by rw [World.size_alloc];omega) ?_;intro v' w' hown' hgr hv';obtain ⟨r1,r2⟩:=Wr.cell C1.out C4.out (Z0b w1 _) hgr;have ST:=hid (Wr.step C1.out C3 C4.out C5.out (Z0b w1 _) hgr hown' hv');clear hv' hgr;obtain ⟨A',nn,c',rfl⟩:=ow_some hown';clear hown')
   go_roundg (y / 128)
   case measure=>have:=HY.out;omega
   case rel=>
    obtain ⟨F',s1,s2⟩:=ST.out
    exact ⟨y / 128,pre++[((y % 128+128:Nat):Int)],F',_,by omega,rfl,by go_num,rfl,HE,hid (by rw [←List.append_assoc];exact s1),hid (HG.out.trans s2)⟩
theorem Z50 (p n c:Nat) (A:Option Addr) (x:List Int) (F:Nat→Prop) (l:List Int) (w:World) (hn:n=x.length) (hx:RdU8 w w.heap.size A x) (hX:OffF F A n) (h:Wr w F p l) (hb:l.length+n≤900000000) :
 Calls Tryz.prog 172 #[.pointer (some ⟨p,0,none⟩),.slice A n c] w (OutW (l++wB x) w F p):=by
 have N:=hid hn
 have HX:=hid hx
 have HXF:=hid hX
 have hwn:IntKind.u64.wrap (n:Int)=(n:Int):=IntWalk.u64_in _ (by omega)
 clear hn hx hX
 go_enter Tryz.func172,Tryz.ntmps172
 go_wp2_with (go_at_call 169;refine Hid.out ?_)
 refine hid ?_
 refine (Z0B p n F l _ (by omega) h (by omega)).mono ?_
 rintro e w1 ⟨rfl,F1,HW,HG⟩
 have R1:=hid (HX.out.grow HG (by rw [←N.out];exact HXF.out))
 have HG1:=hid HG
 obtain ⟨v,c1,hown,c3,c4,c5⟩:=HW
 have C1:=hid c1
 have C3:=hid c3
 have C4:=hid c4
 have C5:=hid c5
 have r0:w1.cell? ⟨p,0,none⟩=some v:=by simp [World.cell?,c1]
 have hul:(uv n).length≤10:=Z1g (by omega)
 clear c1 c3 c4 c5 HG
 go_wp2_with (at_builtin;refine Z3l (m:=x) rfl (.tmp 13) (.tmp 14) rfl rfl hown _ _ _ _ rfl N.out R1.out (by have:=N.out;simp only [List.length_append];omega) (by omega) ?_;intro v' w' hown' hgr hv';obtain ⟨r1,r2⟩:=Wr.cell C1.out C4.out (Below.refl _ _) hgr;have ST:=hid (Wr.step C1.out C3.out C4.out C5.out (Below.refl _ _) hgr hown' hv');clear hv' hgr;obtain ⟨A',nn,c',rfl⟩:=ow_some hown';clear hown')
 refine bodyPost_ret (results_none rfl _ _ _) rfl ?_
 obtain ⟨F',s1,s2⟩:=ST.out
 exact ⟨rfl,F',by unfold wB;rw [←N.out,←List.append_assoc];exact s1,HG1.out.trans s2⟩
theorem Z0L {P:Program} {ops:Array Oper} {o:Oper} {a:Act} {w:World} {K:Act→World→Prop} {Q:Exit→Act→World→Prop} {E:Prop} {R:Ending→World→Prop}
 (hg:o.guard=none) (k:Nat) (args:List Operand) (tys:Array TypeId) (hop:o.op=Op.call { callee:=.value (.func k),args:=args.toArray,argTypes:=tys })
 (fn:Func) (hf:P.funcs[k]? = some fn) (hn0:decide (fn.name = "runtime.NumGoroutine")=false) (hb0:fn.body.isSome=true)
 (vs:List Value) (hv:args.map a.eval=vs) (hc:Calls P k vs.toArray w R) (h:∀ e w',R e w'→∃ v,e=.returned v∧K (a.put o.dst v) w') :
 if Region.wanted o (yielded ops a.tmps)=true then Oper.wp P o a w K Q else E:=by
 have hn:¬ fn.name = "runtime.NumGoroutine" := of_decide_eq_false hn0
 have hb:¬ fn.body=none:=fun e=>by rw [e] at hb0;cases hb0
 have hw:Region.wanted o (yielded ops a.tmps)=true:=by simp [Region.wanted,hg]
 rw [if_pos hw]
 unfold Oper.wp
 have he:a.eval (.func k)=.func (.func k) #[] #[]:=rfl
 simp [execOp,hop,resolve,invoke,Result.andThen,he,hv,Deferred.ofValue,callFunc,hf,hn,hb]
 unfold Oper.upon
 refine hc.mono ?_
 intro e w' hr
 obtain ⟨v,rfl,hk⟩:=h e w' hr
 exact hk
theorem Z8r (w:World):Below w.heap.size w w.drew:=⟨rfl,rfl,rfl,Nat.le_refl _,fun _ _=>rfl⟩
section
variable {ops:Array Oper} {o:Oper} {a:Act} {Q:Exit→Act→World→Prop} {w:World} {base:Nat} {v:Value} {K:Act→World→Prop} {E:Prop}
theorem Y29 {l m:List Int} (hgd:o.guard=none) (s x:Operand)
 (ho:o.op=.call { callee:=.builtin .append,args:=#[s,x],argTypes:=#[55,55] })
 (hsv:a.eval s=v) (hown:OwU8 w base v l) (B:Nat) (A:Option Addr) (c n:Nat) (hx:a.eval x=.slice A n c) (hn:n=m.length) (hr:RdU8 w B A m)
 (hb:l.length+m.length≤2000000000000) (hbase:base≤w.heap.size)
 (h:∀ v' w',OwU8 w' base v' (l++m)→w.grownBy w' (wb v)→(v'=v∧w'=w∨wb v'=wb v∨wb v'=some w.heap.size)→K (a.put o.dst v') w') :
 if Region.wanted o (yielded ops a.tmps)=true then Oper.wp Tryz.prog o a w K Q else E:=by
 have hw:Region.wanted o (yielded ops a.tmps)=true:=by simp [Region.wanted,hgd]
 rw [if_pos hw]
 obtain ⟨i0,hi0,hz0,hz1,hz2⟩:=Z5O Tryz.infoU8
 exact Y0r s x _ ho i0 _ 1 Tryz.slU8 hi0 hz0 hz1 hz2 rfl (by omega) Z1Q Z8e hsv hown B A c n hx hn hr (by simp only [maxLen];omega) (by omega) hbase h
end
theorem Z61 (p:Nat) (F:Nat→Prop) (l:List Int) (k n f:Int) (s:ByteArray) (w:World) (hv:okV ⟨k,n,f,s⟩) (h:Wr w F p l) (hb:l.length+(wV ⟨k,n,f,s⟩).length≤800000000) :
 Calls Tryz.prog 255 #[.pointer (some ⟨p,0,none⟩),.agg #[.int .u8 k,.int .i64 n,.int .u64 f,.string s]] w (OutW (l++wV ⟨k,n,f,s⟩) w F p):=by
 obtain ⟨v1,v2,v3,v4,v5,v6⟩:=hv
 simp only at v1 v2 v3 v4 v5 v6
 have h5:∀ z,F z→z<w.heap.size:=by obtain ⟨_,_,_,_,_,h5⟩:=h;exact h5
 have y1:=Z0b w (.cells #[.int .u8 k,.int .i64 n,.int .u64 f,.string s] 73)
 have HB:=hid (heap_alloc_new w (.cells #[.int .u8 k,.int .i64 n,.int .u64 f,.string s] 73))
 have HW:=hid (h.below y1)
 have G1:Hid (Grow w F (w.alloc (.cells #[.int .u8 k,.int .i64 n,.int .u64 f,.string s] 73)) F):=hid (Grow.of y1)
 have HNF:Hid (¬ F w.heap.size):=hid (fun hf=>by have:=h5 _ hf;omega)
 have hlt:w.heap.size<(w.alloc (.cells #[.int .u8 k,.int .i64 n,.int .u64 f,.string s] 73)).heap.size:=by simp
 have HLT:=hid hlt
 obtain ⟨kn,hkn⟩:∃ kn:Nat,k=(kn:Int):=⟨k.toNat,by omega⟩
 subst hkn
 have hwk:IntKind.u64.wrap (kn:Int)=(kn:Int):=IntWalk.u64_in _ (by omega)
 obtain ⟨R,hR⟩:∃ X,wV ⟨kn,n,f,s⟩=X:=⟨_,rfl⟩
 rw [hR] at hb
 rw [hR]
 have hR2:uv kn++wVt ⟨kn,n,f,s⟩=R:=by rw [←hR,Z8n];simp
 have HR:=hid hR2
 clear hR hR2 h h5 y1 hlt
 by_cases k1:kn=1
 ·subst k1
  go_enter Tryz.func255,Tryz.ntmps255
  go_wp2_with (go_at_call 169;refine Hid.out ?_)
  refine hid ?_
  refine (Z0B p 1 F l _ (by omega) HW.out (by omega)).mono ?_
  rintro e w2 ⟨rfl,F2,HW2,HG2⟩
  have hul:(uv 1).length≤10:=Z1g (by omega)
  have HB2:=hid ((HG2.block _ HLT.out HNF.out).trans HB.out)
  have hlt2:=Z0p HB2.out
  have HN2:Hid (¬ F2 w.heap.size):=hid (HG2.out HLT.out HNF.out)
  obtain ⟨t0,t1,t2,t3⟩:=Z1Y HB2.out
  have W2:=hid HW2
  have G2:=hid (G1.out.trans HG2)
  clear HW2 HG2
  obtain ⟨v,c1,hown,c3,c4,c5⟩:=W2.out
  have C1:=hid c1
  have C3:=hid c3
  have C4:=hid c4
  have C5:=hid c5
  have OW:=hid hown
  have r0:w2.cell? ⟨p,0,none⟩=some v:=by simp [World.cell?,c1]
  have hp2:=Z0p c1
  have hz10:(uv (zigP n)).length≤10:=Z1g (Z8c v3 v4)
  clear c1 c3 c4 c5 hown
  go_wp2_with (fail)
  go_region_law (first
   | (refine Z0L rfl 324 [.const (.slice none 0 0),.tmp 25] #[55,2] rfl Tryz.f324 (by kernel_rfl) (by kernel_rfl) (by kernel_rfl) [.slice none 0 0,.int .i64 n] (by rfl) (Z6Y n _ v3 v4) ?_
      rintro e w3 ⟨A3,k3,rfl,o3,y3⟩
      refine ⟨_,rfl,?_⟩
      have Y3:Hid (Below w2.heap.size w2 w3):=hid ((Z8r w2).trans y3)
      have hb3:=(Y3.out.block p hp2).trans C1.out
      have r3:w3.cell? ⟨p,0,none⟩=some v:=by simp [World.cell?,hb3]
      have O3:=hid o3
      clear o3 y3 hb3)
   | (refine Y29 (m:=uv (zigP n)) rfl (.tmp 23) (.tmp 26) (by rfl) (by rfl) (OW.out.below Y3.out (Nat.le_refl _)) _ _ _ _ (by rfl) rfl (O3.out.rd Z1Q) (by simp only [List.length_append];omega) (Nat.zero_le _) ?_
      intro v' w4 hown' hgr hv'
      obtain ⟨r1,r2⟩:=Wr.cell C1.out C4.out Y3.out hgr
      have ST:=hid (Wr.step C1.out C3.out C4.out C5.out Y3.out hgr hown' hv')
      clear hv' hgr
      obtain ⟨A',nn,c',rfl⟩:=ow_some hown'
      clear hown'))
  all_goals go_wp2_with (fail)
  all_goals
   refine bodyPost_ret (results_none rfl _ _ _) rfl ?_
   obtain ⟨F',s1,s2⟩:=ST.out
   exact ⟨rfl,F',by rw [←HR.out,←List.append_assoc];exact s1,G2.out.trans s2⟩
 by_cases k2:kn=2
 ·subst k2
  go_enter Tryz.func255,Tryz.ntmps255
  go_wp2_with (go_at_call 169;refine Hid.out ?_)
  refine hid ?_
  refine (Z0B p 2 F l _ (by omega) HW.out (by omega)).mono ?_
  rintro e w2 ⟨rfl,F2,HW2,HG2⟩
  have hul:(uv 2).length≤10:=Z1g (by omega)
  have HB2:=hid ((HG2.block _ HLT.out HNF.out).trans HB.out)
  have hlt2:=Z0p HB2.out
  have HN2:Hid (¬ F2 w.heap.size):=hid (HG2.out HLT.out HNF.out)
  obtain ⟨t0,t1,t2,t3⟩:=Z1Y HB2.out
  have W2:=hid HW2
  have G2:=hid (G1.out.trans HG2)
  clear HW2 HG2
  obtain ⟨v,c1,hown,c3,c4,c5⟩:=W2.out
  have C1:=hid c1
  have C3:=hid c3
  have C4:=hid c4
  have C5:=hid c5
  have OW:=hid hown
  have r0:w2.cell? ⟨p,0,none⟩=some v:=by simp [World.cell?,c1]
  have hp2:=Z0p c1
  have hz10:(uv (zigP n)).length≤10:=Z1g (Z8c v3 v4)
  clear c1 c3 c4 c5 hown
  go_wp2_with (fail)
  go_region_law (first
   | (refine Z0L rfl 324 [.const (.slice none 0 0),.tmp 25] #[55,2] rfl Tryz.f324 (by kernel_rfl) (by kernel_rfl) (by kernel_rfl) [.slice none 0 0,.int .i64 n] (by rfl) (Z6Y n _ v3 v4) ?_
      rintro e w3 ⟨A3,k3,rfl,o3,y3⟩
      refine ⟨_,rfl,?_⟩
      have Y3:Hid (Below w2.heap.size w2 w3):=hid ((Z8r w2).trans y3)
      have hb3:=(Y3.out.block p hp2).trans C1.out
      have r3:w3.cell? ⟨p,0,none⟩=some v:=by simp [World.cell?,hb3]
      have O3:=hid o3
      clear o3 y3 hb3)
   | (refine Y29 (m:=uv (zigP n)) rfl (.tmp 23) (.tmp 26) (by rfl) (by rfl) (OW.out.below Y3.out (Nat.le_refl _)) _ _ _ _ (by rfl) rfl (O3.out.rd Z1Q) (by simp only [List.length_append];omega) (Nat.zero_le _) ?_
      intro v' w4 hown' hgr hv'
      obtain ⟨r1,r2⟩:=Wr.cell C1.out C4.out Y3.out hgr
      have ST:=hid (Wr.step C1.out C3.out C4.out C5.out Y3.out hgr hown' hv')
      clear hv' hgr
      obtain ⟨A',nn,c',rfl⟩:=ow_some hown'
      clear hown'))
  all_goals go_wp2_with (fail)
  all_goals
   refine bodyPost_ret (results_none rfl _ _ _) rfl ?_
   obtain ⟨F',s1,s2⟩:=ST.out
   exact ⟨rfl,F',by rw [←HR.out,←List.append_assoc];exact s1,G2.out.trans s2⟩
 by_cases k3:kn=3
 ·subst k3
  obtain ⟨fn,rfl⟩:∃ fn:Nat,f=(fn:Int):=⟨f.toNat,by omega⟩
  go_enter Tryz.func255,Tryz.ntmps255
  go_wp2_with (go_at_call 169;refine Hid.out ?_)
  refine hid ?_
  refine (Z0B p 3 F l _ (by omega) HW.out (by omega)).mono ?_
  rintro e w2 ⟨rfl,F2,HW2,HG2⟩
  have hul:(uv 3).length≤10:=Z1g (by omega)
  have HB2:=hid ((HG2.block _ HLT.out HNF.out).trans HB.out)
  have hlt2:=Z0p HB2.out
  have HN2:Hid (¬ F2 w.heap.size):=hid (HG2.out HLT.out HNF.out)
  obtain ⟨t0,t1,t2,t3⟩:=Z1Y HB2.out
  have W2:=hid HW2
  have G2:=hid (G1.out.trans HG2)
  clear HW2 HG2
  go_wp2_with (go_at_call 169;refine Hid.out ?_)
  refine hid ?_
  refine (Z0B p fn F2 _ _ (by omega) W2.out (by simp only [List.length_append];omega)).mono ?_
  rintro e w3 ⟨rfl,F3,W3,G3⟩
  go_wp2_with (fail)
  refine bodyPost_ret (results_none rfl _ _ _) rfl ?_
  exact ⟨rfl,F3,by rw [←HR.out,←List.append_assoc];exact W3,G2.out.trans G3⟩
 by_cases k4:kn=4
 ·subst k4
  have hb4:l.length+s.size≤800000000:=by
   have h1:=congrArg List.length HR.out
   rw [wVt] at h1
   simp only at h1
   rw [if_neg (by omega),if_neg (by omega),if_pos (by rfl),wB,List.length_append,List.length_append,Z1l] at h1
   omega
  go_enter Tryz.func255,Tryz.ntmps255
  go_wp2_with (go_at_call 169;refine Hid.out ?_)
  refine hid ?_
  refine (Z0B p 4 F l _ (by omega) HW.out (by omega)).mono ?_
  rintro e w2 ⟨rfl,F2,HW2,HG2⟩
  have hul:(uv 4).length≤10:=Z1g (by omega)
  have HB2:=hid ((HG2.block _ HLT.out HNF.out).trans HB.out)
  have hlt2:=Z0p HB2.out
  have HN2:Hid (¬ F2 w.heap.size):=hid (HG2.out HLT.out HNF.out)
  obtain ⟨t0,t1,t2,t3⟩:=Z1Y HB2.out
  have W2:=hid HW2
  have G2:=hid (G1.out.trans HG2)
  clear HW2 HG2
  have cv:=Z4F s
  have F2L:Hid (∀ z,F2 z→z<w2.heap.size):=hid (by obtain ⟨_,_,_,_,_,h5⟩:=W2.out;exact h5)
  go_wp2_with (go_at_call 172;refine Hid.out ?_)
  clear cv
  refine hid ?_
  have y3:=Z3Z s w2
  have r3:=Z7y s w2
  have hcap:=grownCap_ge w2 s.size 0 5
  generalize grownCap w2 s.size 0 5=c at *
  have W3:=hid (W2.out.below y3)
  have G3:Hid (Grow w2 F2 (Lib.bytesWorld w2 5 s) F2):=hid (Grow.of y3)
  have OF:Hid (OffF F2 (some ⟨w2.heap.size,0,none⟩) s.size):=hid (fun ad e _ hf=>by injection e with e;subst e;have:=F2L.out _ hf;simp at this)
  generalize Lib.bytesWorld w2 5 s=w3 at *
  refine (Z50 p s.size c _ (strI s) F2 _ w3 (Z1l s).symm r3 OF.out W3.out (by simp only [List.length_append];omega)).mono ?_
  rintro e w4 ⟨rfl,F4,W4,G4⟩
  go_wp2_with (fail)
  refine bodyPost_ret (results_none rfl _ _ _) rfl ?_
  exact ⟨rfl,F4,by rw [←HR.out,←List.append_assoc];exact W4,(G2.out.trans G3.out).trans G4⟩
 have b1:((kn:Int)==1)=false:=beq_eq_false_iff_ne.2 (by omega)
 have b2:((kn:Int)==2)=false:=beq_eq_false_iff_ne.2 (by omega)
 have b3:((kn:Int)==3)=false:=beq_eq_false_iff_ne.2 (by omega)
 have b4:((kn:Int)==4)=false:=beq_eq_false_iff_ne.2 (by omega)
 have HE:Hid (R=uv kn):=hid (by
  rw [←HR.out,wVt]
  simp only
  rw [if_neg (by omega),if_neg (by omega),if_neg (by omega),List.append_nil])
 clear k1 k2 k3 k4
 go_enter Tryz.func255,Tryz.ntmps255
 go_wp2_with (go_at_call 169;refine Hid.out ?_)
 refine hid ?_
 refine (Z0B p kn F l _ (by omega) HW.out (by omega)).mono ?_
 rintro e w2 ⟨rfl,F2,HW2,HG2⟩
 have hul:(uv kn).length≤10:=Z1g (by omega)
 have HB2:=hid ((HG2.block _ HLT.out HNF.out).trans HB.out)
 have hlt2:=Z0p HB2.out
 have HN2:Hid (¬ F2 w.heap.size):=hid (HG2.out HLT.out HNF.out)
 obtain ⟨t0,t1,t2,t3⟩:=Z1Y HB2.out
 have W2:=hid HW2
 have G2:=hid (G1.out.trans HG2)
 clear HW2 HG2
 go_wp2_with (fail)
 refine bodyPost_ret (results_none rfl _ _ _) rfl ?_
 exact ⟨rfl,F2,by rw [HE.out];exact W2.out,G2.out⟩
end Go.Proofs.YtnmedachaeanbaaGreatDoor
