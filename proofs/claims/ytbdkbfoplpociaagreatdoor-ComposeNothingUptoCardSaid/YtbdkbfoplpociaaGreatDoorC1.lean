/- Merged texts: PatchFn, PatchLaw, StayLaw, FragLaw, MkBox, ComLaw, RdrW. -/
import Derived.Test.YtbdkbfoplpociaaGreatDoorK1
import Derived.Test.YtbdkbfoplpociaaGreatDoorK10
import Derived.Test.YtbdkbfoplpociaaGreatDoorK11
import Derived.Test.YtbdkbfoplpociaaGreatDoorK13
import Derived.Test.YtbdkbfoplpociaaGreatDoorK14
import Derived.Test.YtbdkbfoplpociaaGreatDoorK16
import Derived.Test.YtbdkbfoplpociaaGreatDoorK19
import Derived.Test.YtbdkbfoplpociaaGreatDoorK25
import Derived.Test.YtbdkbfoplpociaaGreatDoorK24
import Derived.Test.YtbdkbfoplpociaaGreatDoorK29
import Derived.Test.YtbdkbfoplpociaaGreatDoorK21
import Derived.Test.YtbdkbfoplpociaaGreatDoorK31
import Derived.Test.YtbdkbfoplpociaaGreatDoorK30
import Derived.Test.YtbdkbfoplpociaaGreatDoorK7
import Derived.Test.YtbdkbfoplpociaaGreatDoorK32
namespace Go.Proofs.YtbdkbfoplpociaaGreatDoor

theorem composeAt_less (a : Ch) (p : List Ch) (c : Ch) (q : List Ch) (h : a.key < c.key) : composeAt (a :: p) c q = a :: composeAt p c q := by
  have : a.key ≤ c.key := by omega
  simp [composeAt, h, this]
theorem composeAt_eq (a : Ch) (p : List Ch) (c : Ch) (q : List Ch) (h : a.key = c.key) : composeAt (a :: p) c q = composeAt p c q := by
  simp [composeAt, h]
theorem composeAt_more (a : Ch) (p : List Ch) (c : Ch) (q : List Ch) (h : c.key < a.key) : composeAt (a :: p) c q = c :: composeP (a :: p) q := by
  have : ¬ a.key ≤ c.key := by omega
  simp [composeAt, this]
theorem composeAt_nil (c : Ch) (q : List Ch) : composeAt [] c q = c :: composeP [] q := by simp [composeAt]

end Go.Proofs.YtbdkbfoplpociaaGreatDoor
namespace Go.Proofs.YtbdkbfoplpociaaGreatDoor
set_option linter.unusedVariables false
set_option linter.unusedSimpArgs false

section
variable {α : Type} (key : α → Int)
end

section
variable {a b : List At} {p q r : List Ch}
theorem law_nil_left (hp : riseC p = true) : composeP [] p = p := by
  rw [riseC_srt] at hp
  obtain ⟨a1, a2, _⟩ := compose_all hp (Srt.nil Ch.key)
  refine lk_ext Ch.key a1 hp fun k => ?_
  rw [a2, lk_nil]
  cases lk Ch.key p k <;> rfl
end
end Go.Proofs.YtbdkbfoplpociaaGreatDoor
namespace Go.Proofs.YtbdkbfoplpociaaGreatDoor
set_option linter.unusedVariables false
set_option linter.unusedSimpArgs false

section
variable {l : List Ky} {a b : List At} {p q : List Ch}
theorem vs_comp (p1 : riseC p = true) (q1 : riseC q = true) (vp : okVs p) (vq : okVs q) : okVs (composeP p q) := fun c hc => by
  rcases mem_comp p1 q1 hc with hm | hm
  · exact vp c hm
  · exact vq c hm
end
end Go.Proofs.YtbdkbfoplpociaaGreatDoor
namespace Go.Proofs.YtbdkbfoplpociaaGreatDoor
set_option linter.unusedVariables false
set_option linter.unusedSimpArgs false

theorem pasteU_canon (p : Nat) (f : List Cl) : canon (pasteU p f) = pasteU p f := by
  have hf : ∀ (f : List Cl) (I : List Un), cn (f.map insU) I 0 = I ++ f.map insU := fun f => by
    induction f with
    | nil => intro I; simp [cn]
    | cons c f ih => intro I; show cn (f.map insU) (I ++ [insU c]) 0 = _; rw [ih]; simp
  unfold pasteU canon
  cases p with
  | zero => simp only [List.replicate_zero, List.nil_append]; rw [hf]; rfl
  | succ p => rw [cn_ret, hf]; simp
theorem pasteU_nil (p : Nat) : nf (pasteU p []) = [] := by
  rw [nf, pasteU_canon]
  unfold pasteU
  rw [List.map_nil, List.append_nil]
  exact trim_nil_iff.2 fun u hu => (List.mem_replicate.1 hu).2
end Go.Proofs.YtbdkbfoplpociaaGreatDoor
namespace Go.Proofs.YtbdkbfoplpociaaGreatDoor
open Go.RowKit
set_option linter.unusedVariables false
set_option linter.unusedSimpArgs false

theorem NoPart.rdr (A : Option Addr) (n c : Nat) (d : Int) : NoPart #[.slice A n c, .int .i64 d] := ⟨fun r o h => by
  match o with
  | 0 => simp at h
  | 1 => simp at h
  | o + 2 => simp at h, by simp⟩
end Go.Proofs.YtbdkbfoplpociaaGreatDoor
namespace Go.Proofs.YtbdkbfoplpociaaGreatDoor
set_option linter.unusedVariables false
set_option linter.unusedSimpArgs false

section
variable (l : List Ky) (us vs : List Un) (r : Int) (s : List At) (p q : List Ch)
end
theorem comp_ind {P : List Un → List Un → Prop} (nil : ∀ us, P us []) (ins : ∀ us r s vs, P us vs → P us (.ins r s :: vs))
    (dd : ∀ us vs, P us (.del :: vs) → P (.del :: us) (.del :: vs)) (dr : ∀ us q vs, P us (.ret q :: vs) → P (.del :: us) (.ret q :: vs))
    (nd : ∀ vs, P [] vs → P [] (.del :: vs)) (nr : ∀ q vs, P [] vs → P [] (.ret q :: vs))
    (id : ∀ r s us vs, P us vs → P (.ins r s :: us) (.del :: vs)) (ir : ∀ r s us q vs, P us vs → P (.ins r s :: us) (.ret q :: vs))
    (rd : ∀ p us vs, P us vs → P (.ret p :: us) (.del :: vs)) (rr : ∀ p us q vs, P us vs → P (.ret p :: us) (.ret q :: vs)) : ∀ vs us, P us vs := by
  intro vs
  induction vs with
  | nil => exact nil
  | cons v vs ih =>
    intro us
    cases v with
    | ins r s => exact ins us r s vs (ih us)
    | del =>
      induction us with
      | nil => exact nd vs (ih [])
      | cons u us ihu =>
        cases u with
        | ins r s => exact id r s us vs (ih us)
        | del => exact dd us vs ihu
        | ret p => exact rd p us vs (ih us)
    | ret q =>
      induction us with
      | nil => exact nr q vs (ih [])
      | cons u us ihu =>
        cases u with
        | ins r s => exact ir r s us q vs (ih us)
        | del => exact dr us q vs ihu
        | ret p => exact rr p us q vs (ih us)
/-- how much it takes and makes -/
theorem comp_size (l : List Ky) : ∀ vs us, takesU (compU l us vs) = takesU us + (takesU vs - makesU us) ∧ makesU (compU l us vs) = makesU vs + (makesU us - takesU vs) := by
  refine comp_ind ?_ ?_ ?_ ?_ ?_ ?_ ?_ ?_ ?_ ?_
  · intro us; rw [compU_nil]; simp [takesU, makesU]
  · intro us r s vs ⟨h1, h2⟩; rw [compU_ins, takesU_i, takesU_i, makesU_i, makesU_i]; omega
  · intro us vs ⟨h1, h2⟩
    rw [takesU_d] at h1 h2; rw [makesU_d] at h2
    rw [compU_dd, takesU_d, takesU_d, takesU_d, makesU_d, makesU_d, makesU_d]; omega
  · intro us q vs ⟨h1, h2⟩
    rw [takesU_r] at h1 h2; rw [makesU_r] at h2
    rw [compU_dr, takesU_d, takesU_d, takesU_r, makesU_d, makesU_d, makesU_r]; omega
  · intro vs ⟨h1, h2⟩
    have e1 : takesU [] = 0 := rfl
    have e2 : makesU [] = 0 := rfl
    rw [compU_nd, takesU_d, takesU_d, makesU_d, makesU_d]; omega
  · intro q vs ⟨h1, h2⟩
    have e1 : takesU [] = 0 := rfl
    have e2 : makesU [] = 0 := rfl
    rw [compU_nr, takesU_r, takesU_r, makesU_r, makesU_r]; omega
  · intro r s us vs ⟨h1, h2⟩; rw [compU_id, takesU_i, takesU_d, makesU_i, makesU_d]; omega
  · intro r s us q vs ⟨h1, h2⟩; rw [compU_ir, takesU_i, takesU_i, takesU_r, makesU_i, makesU_i, makesU_r]; omega
  · intro p us vs ⟨h1, h2⟩; rw [compU_rd, takesU_d, takesU_d, takesU_r, makesU_d, makesU_d, makesU_r]; omega
  · intro p us q vs ⟨h1, h2⟩; rw [compU_rr, takesU_r, takesU_r, takesU_r, makesU_r, makesU_r, makesU_r]; omega
theorem mem_tail {P : Un → Prop} {u : Un} {us : List Un} (h : ∀ x ∈ u :: us, P x) : ∀ x ∈ us, P x := fun x hx => h x (List.mem_cons_of_mem _ hx)
/-- what holds of all units of both, and of what they come to, holds of all that come -/
theorem comp_all {P : Un → Prop} (l : List Ky) (hd : P .del) (hir : ∀ r s q, P (.ins r s) → P (.ret q) → P (.ins r (actC l ⟨r, s⟩ q).s)) (hnr : ∀ q, P (.ret q) → P (.ret (composeP [] q))) (hrr : ∀ p q, P (.ret p) → P (.ret q) → P (.ret (composeP p q))) :
    ∀ vs us, (∀ u ∈ us, P u) → (∀ v ∈ vs, P v) → ∀ x ∈ compU l us vs, P x := by
  have cons : ∀ {u : Un} {t : List Un}, P u → (∀ x ∈ t, P x) → ∀ x ∈ u :: t, P x := fun h1 h2 x hx => by
    rcases List.mem_cons.1 hx with rfl | hx
    · exact h1
    · exact h2 x hx
  refine comp_ind ?_ ?_ ?_ ?_ ?_ ?_ ?_ ?_ ?_ ?_
  · intro us h1 _; rw [compU_nil]; exact h1
  · intro us r s vs ih h1 h2; rw [compU_ins]; exact cons (h2 _ (by simp)) (ih h1 (mem_tail h2))
  · intro us vs ih h1 h2; rw [compU_dd]; exact cons hd (ih (mem_tail h1) h2)
  · intro us q vs ih h1 h2; rw [compU_dr]; exact cons hd (ih (mem_tail h1) h2)
  · intro vs ih h1 h2; rw [compU_nd]; exact cons hd (ih h1 (mem_tail h2))
  · intro q vs ih h1 h2; rw [compU_nr]; exact cons (hnr q (h2 _ (by simp))) (ih h1 (mem_tail h2))
  · intro r s us vs ih h1 h2; rw [compU_id]; exact ih (mem_tail h1) (mem_tail h2)
  · intro r s us q vs ih h1 h2; rw [compU_ir]; exact cons (hir r s q (h1 _ (by simp)) (h2 _ (by simp))) (ih (mem_tail h1) (mem_tail h2))
  · intro p us vs ih h1 h2; rw [compU_rd]; exact cons hd (ih (mem_tail h1) (mem_tail h2))
  · intro p us q vs ih h1 h2; rw [compU_rr]; exact cons (hrr p q (h1 _ (by simp)) (h2 _ (by simp))) (ih (mem_tail h1) (mem_tail h2))
theorem comp_mU {l : List Ky} (hl : l.length ≤ 64) {us vs : List Un} (hu : ∀ u ∈ us, mU l u) (hv : ∀ v ∈ vs, mU l v) : ∀ x ∈ compU l us vs, mU l x :=
  comp_all l trivial (fun r s q h1 h2 => ⟨h1.1, stay_apply hl h1.2 (stay_filter _ h2)⟩) (fun q h => by rw [law_nil_left (mayP_zero h).2.1]; exact h) (fun p q h1 h2 => stay_comp hl h1 h2) vs us hu hv
/-- values in their ranges -/
theorem comp_okUn {l : List Ky} {us vs : List Un} (hu : ∀ u ∈ us, mU l u ∧ okUn u) (hv : ∀ v ∈ vs, mU l v ∧ okUn v) (hl : l.length ≤ 64) : ∀ x ∈ compU l us vs, mU l x ∧ okUn x := by
  refine comp_all (P := fun u => mU l u ∧ okUn u) l ⟨trivial, trivial⟩ (fun r s q h1 h2 => ⟨⟨h1.1.1, stay_apply hl h1.1.2 (stay_filter _ h2.1)⟩, ?_⟩) (fun q h => by rw [law_nil_left (mayP_zero h.1).2.1]; exact h) (fun p q h1 h2 => ⟨stay_comp hl h1.1 h2.1, vs_comp (mayP_zero h1.1).2.1 (mayP_zero h2.1).2.1 h1.2 h2.2⟩) vs us hu hv
  exact vr_act (c := ⟨r, s⟩) h1.1.2 h2.1 h1.2 h2.2
theorem comp_len (l : List Ky) : ∀ vs us, (compU l us vs).length ≤ us.length + vs.length := by
  refine comp_ind ?_ ?_ ?_ ?_ ?_ ?_ ?_ ?_ ?_ ?_
  · intro us; rw [compU_nil]; simp
  · intro us r s vs ih; rw [compU_ins]; simp only [List.length_cons]; omega
  · intro us vs ih; rw [compU_dd]; simp only [List.length_cons] at *; omega
  · intro us q vs ih; rw [compU_dr]; simp only [List.length_cons] at *; omega
  · intro vs ih; rw [compU_nd]; simp only [List.length_cons] at *; omega
  · intro q vs ih; rw [compU_nr]; simp only [List.length_cons] at *; omega
  · intro r s us vs ih; rw [compU_id]; simp only [List.length_cons] at *; omega
  · intro r s us q vs ih; rw [compU_ir]; simp only [List.length_cons] at *; omega
  · intro p us vs ih; rw [compU_rd]; simp only [List.length_cons] at *; omega
  · intro p us q vs ih; rw [compU_rr]; simp only [List.length_cons] at *; omega
/-- the special cases of the laws -/
theorem comp_none {l : List Ky} : ∀ (vs : List Un), (∀ v ∈ vs, mU l v) → compU l [] vs = vs
  | [], _ => compU_nil l []
  | .ins r s :: vs, h => by rw [compU_ins, comp_none vs (mem_tail h)]
  | .del :: vs, h => by rw [compU_nd, comp_none vs (mem_tail h)]
  | .ret q :: vs, h => by rw [compU_nr, comp_none vs (mem_tail h), law_nil_left (mayP_zero (h (.ret q) (by simp))).2.1]
theorem comp_rets (l : List Ky) (p : List Ch) (us vs : List Un) : ∀ k, compU l (List.replicate k (.ret p) ++ us) (List.replicate k (.ret []) ++ vs) = List.replicate k (.ret p) ++ compU l us vs
  | 0 => rfl
  | k + 1 => by
    rw [List.replicate_succ, List.replicate_succ]
    show compU l (.ret p :: (List.replicate k (.ret p) ++ us)) (.ret [] :: (List.replicate k (.ret []) ++ vs)) = _
    rw [compU_rr, comp_rets l p us vs k, composeP_nil]; rfl
theorem comp_inss (l : List Ky) (s : List At) (us vs : List Un) : ∀ (r : List Int), compU l (r.map (fun r => Un.ins r s) ++ us) (List.replicate r.length (.ret []) ++ vs) = r.map (fun r => Un.ins r s) ++ compU l us vs
  | [] => rfl
  | a :: r => by
    rw [List.length_cons, List.replicate_succ]
    show compU l (.ins a s :: (r.map (fun r => Un.ins r s) ++ us)) (.ret [] :: (List.replicate r.length (.ret []) ++ vs)) = _
    rw [compU_ir, comp_inss l s us vs r, actC_nil]; rfl
theorem comp_over (l : List Ky) (p q : List Ch) : ∀ k, compU l (List.replicate k (.ret p)) (List.replicate k (.ret q)) = List.replicate k (.ret (composeP p q))
  | 0 => compU_nil l []
  | k + 1 => by rw [List.replicate_succ, List.replicate_succ, compU_rr, comp_over l p q k]; rfl
/-- a delete ahead -/
theorem comp_dels {l : List Ky} (k : Nat) : ∀ (vs I : List Un) (g : Nat), (∀ v ∈ vs, mU l v) → cn (compU l (List.replicate k .del) vs) I g = cn vs I (g + k)
  | [], I, g, _ => by
    rw [compU_nil]
    have := cn_del k [] I g
    rw [List.append_nil] at this
    exact this
  | .ins r s :: vs, I, g, h => by
    rw [compU_ins, cn, cn]
    exact comp_dels k vs _ g (mem_tail h)
  | .del :: vs, I, g, h => by
    have e : compU l (List.replicate k .del) (.del :: vs) = List.replicate k .del ++ .del :: compU l [] vs := by
      induction k with
      | zero => exact compU_nd l vs
      | succ k ih => rw [List.replicate_succ, compU_dd, ih]; rfl
    rw [e, cn_del, comp_none vs (mem_tail h)]
  | .ret q :: vs, I, g, h => by
    have e : compU l (List.replicate k .del) (.ret q :: vs) = List.replicate k .del ++ .ret (composeP [] q) :: compU l [] vs := by
      induction k with
      | zero => exact compU_nr l vs q
      | succ k ih => rw [List.replicate_succ, compU_dr, ih]; rfl
    rw [e, cn_del, comp_none vs (mem_tail h), law_nil_left (mayP_zero (h (.ret q) (by simp))).2.1]
theorem same_keys {p q : List Ch} (hp : riseC p = true) (hq : riseC q = true) (h : p.map (·.key) = q.map (·.key)) : composeP p q = q := by
  have hp' := riseC_srt.1 hp
  have hq' := riseC_srt.1 hq
  obtain ⟨a1, a2, _⟩ := compose_all hq' hp'
  refine lk_ext Ch.key a1 hq' fun k => ?_
  rw [a2]
  cases hk : lk Ch.key q k with
  | some c => rfl
  | none =>
    cases hk2 : lk Ch.key p k with
    | none => rfl
    | some c =>
      exfalso
      have h1 : k ∈ p.map (·.key) := List.mem_map.2 ⟨c, lk_mem Ch.key hk2, lk_key Ch.key hk2⟩
      rw [h] at h1
      obtain ⟨x, hx, hxk⟩ := List.mem_map.1 h1
      have := lk_of_mem Ch.key hq' hx
      rw [hxk, hk] at this; cases this
end Go.Proofs.YtbdkbfoplpociaaGreatDoor
namespace Go.Proofs.YtbdkbfoplpociaaGreatDoor
open Go.RowKit
set_option linter.unusedVariables false
set_option linter.unusedSimpArgs false

/-- a reader: what is left to read, and how much of the first op is done -/
def Rdr (w0 w : World) (b : Nat) (X : List OpS) (a : Nat) : Prop :=
  ∃ A n c, w.heap[b]? = some (.cells #[.slice A n c, .int .i64 (a : Int)] 138 (0, 0)) ∧ OpsC w0 A n c X ∧ (∀ o ∈ X, isOp o.o ∧ lenO o.o ≤ 536870912) ∧ (X = [] → a = 0) ∧ ∀ o t, X = o :: t → a < lenO o.o
theorem Rdr.lt {w0 w : World} {b a : Nat} {X : List OpS} (h : Rdr w0 w b X a) : b < w.heap.size := by
  obtain ⟨A, n, c, hb, _⟩ := h; exact lt_of_some hb
theorem Rdr.ext {w0 w w' : World} {b a : Nat} {X : List OpS} (h : Rdr w0 w b X a) (y : Below w.heap.size w w') : Rdr w0 w' b X a := by
  obtain ⟨A, n, c, hb, h1, h2⟩ := h
  exact ⟨A, n, c, (y.block b (lt_of_some hb)).trans hb, h1, h2⟩
theorem Tryz.slOp0 : Tryz.prog.underlying 23 = some (.slice 40) := by kernel_rfl

theorem rdr_over {w : World} {b a : Nat} {X : List OpS} {A : Option Addr} {n c : Nat} (h : OpsC w A n c X) : ((n : Int) == 0) = decide (X = []) := by
  have hl := h.at_.len
  cases X with
  | nil => simp at hl; subst hl; rfl
  | cons o t => simp at hl; subst hl; simp; omega
set_option maxHeartbeats 1600000 in
theorem rdrOver_any (b : Nat) (X : List OpS) (a : Nat) (w0 w : World) (h : Rdr w0 w b X a) (Y : Below w0.heap.size w0 w) :
    Calls Tryz.prog 97 #[.pointer (some ⟨b, 0, none⟩)] w fun e w' => e = .returned (.bool (decide (X = []))) ∧ ∃ d, w' = w.drewN d := by
  obtain ⟨A, n, c, hb, hX, _⟩ := h
  have hd := rdr_over (b := b) (a := a) hX
  obtain ⟨R, hR⟩ : ∃ R, decide (X = []) = R := ⟨_, rfl⟩
  rw [hR] at hd ⊢
  have c0 : w.cell? ⟨b, 0, none⟩ = some (.slice A n c) := by simp [World.cell?, hb]
  clear hX hb hR
  go_enter Tryz.func97, Tryz.ntmps97
  go_wp2_with (fail)
  go_ret
  exact ⟨rfl, 0, rfl⟩
set_option maxRecDepth 100000 in
set_option maxHeartbeats 1600000 in
theorem left_any (b : Nat) (A : Option Addr) (n c : Nat) (o : OpS) (t : List OpS) (a : Nat) (w0 w : World) (hb : w.heap[b]? = some (.cells #[.slice A n c, .int .i64 (a : Int)] 138 (0, 0))) (hX : OpsC w0 A n c (o :: t)) (h1 : isOp o.o) (h2 : lenO o.o ≤ 536870912) (h3 : a ≤ lenO o.o) (Y : Below w0.heap.size w0 w) :
    Calls Tryz.prog 172 #[.pointer (some ⟨b, 0, none⟩)] w fun e w' => e = .returned (.int .i64 ((lenO o.o - a : Nat) : Int)) ∧ ∃ d, w' = w.drewN d := by
  obtain ⟨_, h4⟩ := lenO_of h1
  have hlen := hX.at_.len
  obtain ⟨ad, x, rfl, had, _, hx1, hc1⟩ := (hX.at_.rd.ext Y).1.el (i := 0) (by simp)
  have hxo : x = o := by simpa using hx1.symm
  subst hxo
  have hn : 1 ≤ n := by simp at hlen; omega
  have c0 : w.cell? ⟨b, 0, none⟩ = some (.slice (some ad) n c) := by simp [World.cell?, hb]
  have c1 : w.cell? ⟨b, 1, none⟩ = some (.int .i64 (a : Int)) := by simp [World.cell?, hb]
  obtain ⟨L, hL⟩ : ∃ L, lenO x.o = L := ⟨_, rfl⟩
  rw [hL] at h2 h3 h4 ⊢
  have HS : Hid (sizeO x.o = (L : Int)) := Lib.hid h4.symm
  have hwr : IntKind.i64.wrap ((L : Int) - (a : Int)) = ((L - a : Nat) : Int) := by rw [IntWalk.i64_in _ (by omega)]; omega
  have hwr' : wrap64 ((L : Int) - (a : Int)) = ((L - a : Nat) : Int) := by rw [w64_in _ (by omega)]; omega
  obtain ⟨⟨k, nn, r, s, p⟩, Ar, cr, As, cs, Ap, cp⟩ := x
  rw [Nat.zero_mul, add_zero'] at hc1
  obtain ⟨z0, z1, z2, z3, z4⟩ := op_cells hc1
  clear hX hb hx1 hc1 h1 h2 h3 h4 hL hlen
  by_cases hk : k = 2
  · subst hk
    have hs : Hid ((r.length : Int) = (L : Int)) := Lib.hid HS.out
    go_enter Tryz.func172, Tryz.ntmps172
    go_wp2_with (fail)
    go_quiet (fail)
    go_wp2_with (fail)
    go_ret
    refine ⟨?_, _, rfl⟩
    show Ending.returned (.int .i64 (wrap64 ((r.length : Int) - (a : Int)))) = _
    rw [hs.out, hwr']
  · have hk' : (k == 2) = false := beq_eq_false_iff_ne.2 hk
    have hs : nn = (L : Int) := by have := HS.out; unfold sizeO at this; rw [if_neg hk] at this; exact this
    subst hs
    go_enter Tryz.func172, Tryz.ntmps172
    go_wp2_with (fail)
    go_quiet (fail)
    go_wp2_with (fail)
    go_ret
    exact ⟨rfl, _, rfl⟩
theorem rdrLeft_any (b : Nat) (o : OpS) (t : List OpS) (a : Nat) (w0 w : World) (h : Rdr w0 w b (o :: t) a) (Y : Below w0.heap.size w0 w) :
    Calls Tryz.prog 172 #[.pointer (some ⟨b, 0, none⟩)] w fun e w' => e = .returned (.int .i64 ((lenO o.o - a : Nat) : Int)) ∧ ∃ d, w' = w.drewN d := by
  obtain ⟨A, n, c, hb, hX, hI, _, hlt⟩ := h
  obtain ⟨h1, h2⟩ := hI o (by simp)
  exact left_any b A n c o t a w0 w hb hX h1 h2 (Nat.le_of_lt (hlt o t rfl)) Y
set_option maxHeartbeats 1600000 in
theorem rdrKind_any (b : Nat) (X : List OpS) (a : Nat) (w0 w : World) (h : Rdr w0 w b X a) (Y : Below w0.heap.size w0 w) :
    Calls Tryz.prog 98 #[.pointer (some ⟨b, 0, none⟩)] w fun e w' => e = .returned (.int .u8 (kindR X)) ∧ ∃ d, w' = w.drewN d := by
  have HC := Lib.hid (rdrOver_any b X a w0 w h Y)
  obtain ⟨A, n, c, hb, hX, _⟩ := h
  have c0 : w.cell? ⟨b, 0, none⟩ = some (.slice A n c) := by simp [World.cell?, hb]
  cases X with
  | nil =>
    clear hX hb
    go_enter Tryz.func98, Tryz.ntmps98
    go_wp2_with (go_at_call 97; refine Hid.out ?_)
    refine Lib.hid ?_
    refine HC.out.mono ?_
    rintro e w1 ⟨rfl, d, rfl⟩
    go_wp2_with (fail)
    go_ret
    exact ⟨rfl, _, rfl⟩
  | cons o t =>
    have hlen := hX.at_.len
    obtain ⟨ad, x, rfl, had, _, hx1, hc1⟩ := (hX.at_.rd.ext Y).1.el (i := 0) (by simp)
    have hxo : x = o := by simpa using hx1.symm
    subst hxo
    have hn : 1 ≤ n := by simp at hlen; omega
    obtain ⟨⟨k, nn, r, s, p⟩, Ar, cr, As, cs, Ap, cp⟩ := x
    rw [Nat.zero_mul, add_zero'] at hc1
    obtain ⟨z0, z1, z2, z3, z4⟩ := op_cells hc1
    have hk : kindR (⟨⟨k, nn, r, s, p⟩, Ar, cr, As, cs, Ap, cp⟩ :: t) = k := rfl
    rw [hk]
    have hdec : decide ((⟨⟨k, nn, r, s, p⟩, Ar, cr, As, cs, Ap, cp⟩ :: t : List OpS) = []) = false := rfl
    rw [hdec] at HC
    clear hX hb hx1 hc1 hk hdec hlen
    go_enter Tryz.func98, Tryz.ntmps98
    go_wp2_with (go_at_call 97; refine Hid.out ?_)
    refine Lib.hid ?_
    refine HC.out.mono ?_
    rintro e w1 ⟨rfl, d, rfl⟩
    go_wp2_with (fail)
    go_ret
    exact ⟨rfl, _, rfl⟩
set_option maxHeartbeats 1600000 in
theorem rdrLong_any (b : Nat) (X : List OpS) (a : Nat) (w0 w : World) (h : Rdr w0 w b X a) (Y : Below w0.heap.size w0 w) :
    Calls Tryz.prog 101 #[.pointer (some ⟨b, 0, none⟩)] w fun e w' => e = .returned (.int .i64 ((longR X a : Nat) : Int)) ∧ ∃ d, w' = w.drewN d := by
  have HC := Lib.hid (rdrOver_any b X a w0 w h Y)
  cases X with
  | nil =>
    go_enter Tryz.func101, Tryz.ntmps101
    go_wp2_with (go_at_call 97; refine Hid.out ?_)
    refine Lib.hid ?_
    refine HC.out.mono ?_
    rintro e w1 ⟨rfl, d, rfl⟩
    go_wp2_with (fail)
    go_ret
    exact ⟨rfl, _, rfl⟩
  | cons o t =>
    have hdec : decide ((o :: t : List OpS) = []) = false := rfl
    rw [hdec] at HC
    have HH := Lib.hid h
    have hk : longR (o :: t) a = lenO o.o - a := rfl
    rw [hk]
    generalize hg : lenO o.o - a = G
    have HG := Lib.hid hg
    clear h hdec hk hg
    go_enter Tryz.func101, Tryz.ntmps101
    go_wp2_with (go_at_call 97; refine Hid.out ?_)
    refine Lib.hid ?_
    refine HC.out.mono ?_
    rintro e w1 ⟨rfl, d, rfl⟩
    go_wp2_with (go_at_call 172; refine Hid.out ?_)
    refine Lib.hid ?_
    refine (rdrLeft_any b o t a w0 _ (HH.out.ext (ext_drew w d)) (Y.trans ((ext_drew w d).mono Y.size))).mono ?_
    rw [HG.out]
    rintro e w2 ⟨rfl, d2, rfl⟩
    go_wp2_with (fail)
    go_ret
    exact ⟨rfl, _, rfl⟩
theorem Tryz.elI32r : Tryz.prog.elem 36 = 21 := by kernel_rfl
theorem Tryz.szI32r0 : (Tryz.prog.info? 21).map (·.size) = some 1 := by kernel_rfl
theorem Tryz.szI32r (W : World) : (sizeOf 21).run Tryz.prog W = .ok 1 W := by
  cases h : Tryz.prog.info? 21 with
  | none => have := Tryz.szI32r0; rw [h] at this; cases this
  | some i => have := Tryz.szI32r0; rw [h] at this; simp at this; simp [sizeOf, typeInfo, h, this]
def Took (b : Nat) (X : List OpS) (a n : Nat) (w0 w : World) (e : Ending) (w' : World) : Prop :=
  ∃ (o : OpS) (X' : List OpS) (a' : Nat), e = .returned o.val ∧ tookV X a n o.o X' a' ∧ OpIn w0 o ∧ capO o ∧ okOp o.o ∧ Rdr w0 w' b X' a' ∧ Grow w (fun k => k = b) w' (fun k => k = b)
theorem Tryz.unOp : Tryz.prog.underlying 40 = some (.struct (Tryz.prog.fieldsOf 40)) := by kernel_rfl
theorem Tryz.szOp9 : (Tryz.prog.info? 40).map (·.size) = some 5 := by kernel_rfl
theorem Rdr.keep {w0 w w' : World} {b a : Nat} {X : List OpS} (h : Rdr w0 w b X a) (hb : w'.heap[b]? = w.heap[b]?) : Rdr w0 w' b X a := by
  obtain ⟨A, n, c, h1, h2⟩ := h
  exact ⟨A, n, c, hb.trans h1, h2⟩
theorem cap_zero {n : Int} : capO (⟨opR n [], none, 0, none, 0, none, 0⟩ : OpS) := by
  unfold capO maxLen
  simp [opR]
theorem set5 {w : World} {b : Nat} {t : TypeId} {u0 u1 u2 u3 u4 : Value} (h : w.heap[b]? = some (.cells #[u0, u1, u2, u3, u4] t (0, 0))) (v0 v1 v2 v3 v4 : Value) :
    (((((w.setCell ⟨b, 0, none⟩ v0).setCell ⟨b, 1, none⟩ v1).setCell ⟨b, 2, none⟩ v2).setCell ⟨b, 3, none⟩ v3).setCell ⟨b, 4, none⟩ v4).heap[b]? = some (.cells #[v0, v1, v2, v3, v4] t (0, 0)) := by
  have h0 := heap_setCell_self (j := 0) h v0
  have h1 := heap_setCell_self (j := 1) h0 v1
  have h2 := heap_setCell_self (j := 2) h1 v2
  have h3 := heap_setCell_self (j := 3) h2 v3
  have h4 := heap_setCell_self (j := 4) h3 v4
  simpa using h4
theorem below_set5 {B : Nat} {w0 w : World} {b : Nat} (h : Below B w0 w) (hb : B ≤ b) (v0 v1 v2 v3 v4 : Value) :
    Below B w0 (((((w.setCell ⟨b, 0, none⟩ v0).setCell ⟨b, 1, none⟩ v1).setCell ⟨b, 2, none⟩ v2).setCell ⟨b, 3, none⟩ v3).setCell ⟨b, 4, none⟩ v4) :=
  ((((h.setCell (p := ⟨b, 0, none⟩) hb _).setCell (p := ⟨b, 1, none⟩) hb _).setCell (p := ⟨b, 2, none⟩) hb _).setCell (p := ⟨b, 3, none⟩) hb _).setCell (p := ⟨b, 4, none⟩) hb _
set_option maxRecDepth 100000 in
set_option maxHeartbeats 3200000 in
theorem rdrTake0_any (b n : Nat) (w0 w : World) (h : Rdr w0 w b [] 0) (Y : Below w0.heap.size w0 w) (hn : n ≤ 536870912) :
    Calls Tryz.prog 100 #[.pointer (some ⟨b, 0, none⟩), .int .i64 (n : Int)] w (Took b [] 0 n w0 w) := by
  have HH := Lib.hid h
  clear h
  go_enter Tryz.func100, Tryz.ntmps100
  have ya := ext_alloc w (.cells #[.int .u8 0, .int .i64 0, .slice none 0 0, .slice none 0 0, .slice none 0 0] 40)
  have hba := heap_alloc_new w (.cells #[.int .u8 0, .int .i64 0, .slice none 0 0, .slice none 0 0, .slice none 0 0] 40)
  have H1 := Lib.hid (HH.out.ext ya)
  go_wp2_with (go_at_call 97; refine Hid.out ?_)
  refine Lib.hid ?_
  refine (rdrOver_any b [] 0 w0 _ H1.out (Y.trans (ya.mono Y.size))).mono ?_
  rintro e w1 ⟨rfl, d, rfl⟩
  have yb := ext_trans ya (ext_drew _ d)
  have hbb : ((w.alloc (.cells #[.int .u8 0, .int .i64 0, .slice none 0 0, .slice none 0 0, .slice none 0 0] 40)).drewN d).heap[w.heap.size]? = _ := hba
  generalize (w.alloc (.cells #[.int .u8 0, .int .i64 0, .slice none 0 0, .slice none 0 0, .slice none 0 0] 40)).drewN d = w2 at *
  have hfz := fun j => box_thaw hbb j
  have hltb := lt_of_some hbb
  have HBB := Lib.hid hbb
  have YB := Lib.hid yb
  have f0 := hfz 0
  have f1 := hfz 1
  have f2 := hfz 2
  have f3 := hfz 3
  have f4 := hfz 4
  have g0 : w2.cell? ⟨w.heap.size, 0, none⟩ = some (.int .u8 0) := by simp [World.cell?, hbb]
  have g1 : w2.cell? ⟨w.heap.size, 1, none⟩ = some (.int .i64 0) := by simp [World.cell?, hbb]
  have g2 : w2.cell? ⟨w.heap.size, 2, none⟩ = some (.slice none 0 0) := by simp [World.cell?, hbb]
  have g3 : w2.cell? ⟨w.heap.size, 3, none⟩ = some (.slice none 0 0) := by simp [World.cell?, hbb]
  have g4 : w2.cell? ⟨w.heap.size, 4, none⟩ = some (.slice none 0 0) := by simp [World.cell?, hbb]
  clear ya yb hba hbb hfz
  go_wp2_with (fail)
  refine bodyPost_ret (results_cell_row (P := Tryz.prog) rfl _ _ w.heap.size 40 #[.int .u8 1, .int .i64 (n : Int), .slice none 0 0, .slice none 0 0, .slice none 0 0] (0, 0) _ rfl (set5 HBB.out _ _ _ _ _) Tryz.unOp rfl Tryz.szOp9) rfl ?_
  have y9 := below_set5 (b := w.heap.size) YB.out (Nat.le_refl _) (.int .u8 1) (.int .i64 (n : Int)) (.slice none 0 0) (.slice none 0 0) (.slice none 0 0)
  exact ⟨⟨opR (n : Int) [], none, 0, none, 0, none, 0⟩, [], 0, rfl, ⟨rfl, rfl, rfl⟩, ⟨Rd.nil, Rd.nil, Rd.nil, by simp [opR], by simp [opR], by simp [opR]⟩, cap_zero,
    ⟨(fun c hc => by cases hc), (fun c hc => by cases hc), by simp [opR], by simp [opR], by simp [opR]⟩, HH.out.keep (y9.block b HH.out.lt), Grow.of y9⟩
end Go.Proofs.YtbdkbfoplpociaaGreatDoor
