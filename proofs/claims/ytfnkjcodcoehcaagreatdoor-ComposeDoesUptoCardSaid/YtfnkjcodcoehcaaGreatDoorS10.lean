/- Merged texts: Canon, Cell, PatchFn, Find, PatchLaw, KeepK. -/
import Derived.Test.YtfnkjcodcoehcaaGreatDoorS9
import Derived.Test.YtfnkjcodcoehcaaGreatDoorS1
import Derived.Test.YtfnkjcodcoehcaaGreatDoorS2
namespace Go.Proofs.YtfnkjcodcoehcaaGreatDoor
set_option linter.unusedVariables false
set_option linter.unusedSimpArgs false

/-- inserts ahead of deletes, gap by gap; I and g: what the gap has so far -/
def cn : List Un → List Un → Nat → List Un
  | [], I, g => I ++ List.replicate g .del
  | .ins r s :: us, I, g => cn us (I ++ [.ins r s]) g
  | .del :: us, I, g => cn us I (g + 1)
  | .ret p :: us, I, g => I ++ List.replicate g .del ++ .ret p :: cn us [] 0
def canon (us : List Un) : List Un := cn us [] 0
/-- the normal form of units -/
def nf (us : List Un) : List Un := trim (canon us)

def takesU : List Un → Nat
  | [] => 0
  | .ins _ _ :: us => takesU us
  | _ :: us => takesU us + 1
def makesU : List Un → Nat
  | [] => 0
  | .del :: us => makesU us
  | _ :: us => makesU us + 1
theorem takesU_r (p : List Ch) (us : List Un) : takesU (.ret p :: us) = takesU us + 1 := rfl
theorem takesU_d (us : List Un) : takesU (.del :: us) = takesU us + 1 := rfl
theorem takesU_i (r : Int) (s : List At) (us : List Un) : takesU (.ins r s :: us) = takesU us := rfl
theorem makesU_r (p : List Ch) (us : List Un) : makesU (.ret p :: us) = makesU us + 1 := rfl
theorem makesU_d (us : List Un) : makesU (.del :: us) = makesU us := rfl
theorem makesU_i (r : Int) (s : List At) (us : List Un) : makesU (.ins r s :: us) = makesU us + 1 := rfl
theorem takesU_append (a b : List Un) : takesU (a ++ b) = takesU a + takesU b := by
  induction a with
  | nil => simp [takesU]
  | cons u a ih => cases u <;> simp [takesU, ih] <;> omega
theorem makesU_append (a b : List Un) : makesU (a ++ b) = makesU a + makesU b := by
  induction a with
  | nil => simp [makesU]
  | cons u a ih => cases u <;> simp [makesU, ih] <;> omega
theorem takesU_del (g : Nat) : takesU (List.replicate g .del) = g := by induction g with | zero => rfl | succ g ih => rw [List.replicate_succ, takesU_d, ih]
theorem makesU_del (g : Nat) : makesU (List.replicate g .del) = 0 := by induction g with | zero => rfl | succ g ih => rw [List.replicate_succ, makesU_d, ih]
theorem cn_takes (us : List Un) : ∀ (I : List Un) (g : Nat), takesU (cn us I g) = takesU I + g + takesU us := by
  induction us with
  | nil => intro I g; simp [cn, takesU_append, takesU_del, takesU]
  | cons u us ih =>
    intro I g
    cases u with
    | ins r s => rw [cn, ih, takesU_append]; simp [takesU]
    | del => rw [cn, ih]; simp [takesU]; omega
    | ret p => rw [cn, takesU_append, takesU_append, takesU_del, takesU_r, takesU_r, ih]; simp [takesU]; try omega
theorem cn_makes (us : List Un) : ∀ (I : List Un) (g : Nat), makesU (cn us I g) = makesU I + makesU us := by
  induction us with
  | nil => intro I g; simp [cn, makesU_append, makesU_del, makesU]
  | cons u us ih =>
    intro I g
    cases u with
    | ins r s => rw [cn, ih, makesU_append]; simp [makesU]; omega
    | del => rw [cn, ih]; simp [makesU]
    | ret p => rw [cn, makesU_append, makesU_append, makesU_del, makesU_r, makesU_r, ih]; simp [makesU]; try omega
theorem canon_takes (us : List Un) : takesU (canon us) = takesU us := by rw [canon, cn_takes]; simp [takesU]
theorem canon_makes (us : List Un) : makesU (canon us) = makesU us := by rw [canon, cn_makes]; simp [makesU]

theorem cn_ins (l : List Int) (s : List At) (us : List Un) : ∀ (I : List Un) (g : Nat), cn (l.map (fun r => Un.ins r s) ++ us) I g = cn us (I ++ l.map (fun r => Un.ins r s)) g := by
  induction l with
  | nil => intro I g; simp
  | cons r l ih => intro I g; show cn (l.map _ ++ us) (I ++ [.ins r s]) g = _; rw [ih]; simp
theorem cn_del (k : Nat) (us : List Un) : ∀ (I : List Un) (g : Nat), cn (List.replicate k .del ++ us) I g = cn us I (g + k) := by
  induction k with
  | zero => intro I g; simp
  | succ k ih => intro I g; rw [List.replicate_succ]; show cn (List.replicate k .del ++ us) I (g + 1) = _; rw [ih]; congr 1; omega
theorem cn_ret (k : Nat) (p : List Ch) (us : List Un) (I : List Un) (g : Nat) : cn (List.replicate (k + 1) (.ret p) ++ us) I g = I ++ List.replicate g .del ++ List.replicate (k + 1) (.ret p) ++ cn us [] 0 := by
  have h : ∀ k, cn (List.replicate k (.ret p) ++ us) [] 0 = List.replicate k (.ret p) ++ cn us [] 0 := by
    intro k
    induction k with
    | zero => rfl
    | succ k ih => rw [List.replicate_succ]; show [] ++ List.replicate 0 .del ++ .ret p :: cn (List.replicate k (.ret p) ++ us) [] 0 = _; rw [ih]; simp
  rw [List.replicate_succ]
  show I ++ List.replicate g .del ++ .ret p :: cn (List.replicate k (.ret p) ++ us) [] 0 = _
  rw [h]; simp

/-- a maker that was told these units -/
def Told (m : Mk) (us : List Un) : Prop :=
  ∃ K I g, MkAt m K I g ∧ (∀ rest, canon (us ++ rest) = K ++ cn rest I g) ∧ K.length + I.length + g = us.length
theorem Told.new : Told Mk.new [] := ⟨[], [], 0, MkAt.new, fun rest => rfl, rfl⟩
theorem Told.retain {m : Mk} {us : List Un} (h : Told m us) (n : Int) (p : List Ch) (hb : (us.length : Int) + n ≤ 4611686018427387904) : Told (mkRetain m n p) (us ++ List.replicate n.toNat (.ret p)) := by
  obtain ⟨K, I, g, h1, h2, h3⟩ := h
  by_cases hn : n < 1
  · have : n.toNat = 0 := by omega
    rw [this]
    exact ⟨K, I, g, h1.retain0 hn, fun rest => by rw [List.replicate_zero, List.append_nil]; exact h2 rest, by simpa using h3⟩
  · obtain ⟨k, hk⟩ : ∃ k, n.toNat = k + 1 := ⟨n.toNat - 1, by omega⟩
    refine ⟨_, [], 0, h1.retain (p := p) (by omega) (by rw [h3]; exact hb), fun rest => ?_, ?_⟩
    · rw [List.append_assoc, h2, hk, cn_ret]; simp only [List.append_assoc]
    · simp only [List.length_append, List.length_replicate, List.length_nil]; omega
theorem Told.insert {m : Mk} {us : List Un} (h : Told m us) (l : List Int) (s : List At) : Told (mkInsert m l s) (us ++ l.map (fun r => Un.ins r s)) := by
  obtain ⟨K, I, g, h1, h2, h3⟩ := h
  refine ⟨K, _, g, h1.insert l s, fun rest => by rw [List.append_assoc, h2, cn_ins], by simp; omega⟩
theorem Told.delete {m : Mk} {us : List Un} (h : Told m us) (n : Int) (hb : (us.length : Int) + n ≤ 4611686018427387904) (hb2 : us.length ≤ 4611686018427387904) : Told (mkDelete m n) (us ++ List.replicate n.toNat .del) := by
  obtain ⟨K, I, g, h1, h2, h3⟩ := h
  refine ⟨K, I, _, h1.delete (n := n) (by omega) (by omega), fun rest => by rw [List.append_assoc, h2, cn_del], by simp; omega⟩
/-- what a maker makes -/
theorem Told.ops {m : Mk} {us : List Un} (h : Told m us) : tight (mkOps m) ∧ units (mkOps m) = nf us := by
  obtain ⟨K, I, g, h1, h2, h3⟩ := h
  obtain ⟨g1, g2⟩ := h1.ops
  refine ⟨g1, ?_⟩
  rw [g2, nf]
  have := h2 []
  rw [List.append_nil] at this
  rw [this]
  simp [cn, List.append_assoc]
/-- two makers that were told units of one normal form -/
theorem Told.same {m m' : Mk} {us us' : List Un} (h : Told m us) (h' : Told m' us') (e : nf us = nf us') : mkOps m = mkOps m' :=
  tight_ext h.ops.1 h'.ops.1 (by rw [h.ops.2, h'.ops.2, e])

end Go.Proofs.YtfnkjcodcoehcaaGreatDoor
namespace Go.Proofs.YtfnkjcodcoehcaaGreatDoor
open Go.RowKit
set_option linter.unusedVariables false
set_option linter.unusedSimpArgs false

def osOf (x : List OpS) : List Opd := x.map (·.o)
/-- a cell: its rune, its set -/
structure Cl where
  r : Int
  s : List At
deriving DecidableEq
/-- a cell and where its set lies -/
structure ClS where
  c : Cl
  As : Option Addr
  cs : Nat
def ClS.enc (x : ClS) : List Value := [.int .i32 x.c.r, .slice x.As x.c.s.length x.cs]
theorem ClS.enc_len (x : ClS) : x.enc.length = 2 := rfl
theorem ClS.enc_one (x : ClS) : ∀ u ∈ x.enc, u.oneCell' = true := by intro u hu; simp [ClS.enc] at hu; rcases hu with rfl | rfl <;> rfl
abbrev RdCs := @Rd ClS ClS.enc 2
/-- the sets of cells read so -/
def SubC (w : World) (B : Nat) (l : List ClS) : Prop := ∀ x ∈ l, RdAt w B x.As x.c.s
/-- the slice at A reads as the cells l -/
def RdCl (w : World) (B : Nat) (A : Option Addr) (l : List ClS) : Prop := RdCs w B A l ∧ SubC w B l
theorem SubC.ext {w w' : World} {l : List ClS} (h : SubC w w.heap.size l) (y : Below w.heap.size w w') : SubC w' w'.heap.size l := fun x hx => (h x hx).ext y
theorem RdCl.ext {w w' : World} {A : Option Addr} {l : List ClS} (h : RdCl w w.heap.size A l) (y : Below w.heap.size w w') : RdCl w' w'.heap.size A l := ⟨h.1.ext y, h.2.ext y⟩
theorem box_cl {w : World} {b : Nat} {t : TypeId} {c0 c1 : Value} (h : w.heap[b]? = some (.cells #[c0, c1] t (0, 0))) : w.cell? ⟨b, 0, none⟩ = some c0 ∧ w.cell? ⟨b, 1, none⟩ = some c1 := by
  simp [World.cell?, h]
end Go.Proofs.YtfnkjcodcoehcaaGreatDoor
namespace Go.Proofs.YtfnkjcodcoehcaaGreatDoor

def put1 (c : Ch) : List At := if c.gone then [] else [⟨c.key, c.v⟩]
def drop1 (k : Int) : List At → List At
  | [] => []
  | a :: s => if a.key = k then s else a :: s
def applyP : List Ch → List At → List At
  | [], s => s
  | c :: p, s => s.takeWhile (fun a => decide (a.key < c.key)) ++ (put1 c ++ applyP p (drop1 c.key (s.dropWhile (fun a => decide (a.key < c.key)))))
/-- what is left to do at a change -/
def applyAt (c : Ch) (p : List Ch) (s : List At) : List At :=
  s.takeWhile (fun a => decide (a.key < c.key)) ++ (put1 c ++ applyP p (drop1 c.key (s.dropWhile (fun a => decide (a.key < c.key)))))

theorem applyAt_less (c : Ch) (p : List Ch) (a : At) (s : List At) (h : a.key < c.key) : applyAt c p (a :: s) = a :: applyAt c p s := by
  simp [applyAt, h]
theorem applyAt_eq (c : Ch) (p : List Ch) (a : At) (s : List At) (h : a.key = c.key) : applyAt c p (a :: s) = put1 c ++ applyP p s := by
  simp [applyAt, h, drop1]
theorem applyAt_more (c : Ch) (p : List Ch) (a : At) (s : List At) (h : c.key < a.key) : applyAt c p (a :: s) = put1 c ++ applyP p (a :: s) := by
  have h1 : ¬ a.key < c.key := by omega
  have h2 : ¬ a.key = c.key := by omega
  simp [applyAt, h1, h2, drop1]
theorem applyAt_nil (c : Ch) (p : List Ch) : applyAt c p [] = put1 c ++ applyP p [] := by
  simp [applyAt, drop1]
def composeP : List Ch → List Ch → List Ch
  | p, [] => p
  | p, c :: q => (p.takeWhile (fun a => decide (a.key ≤ c.key))).filter (fun a => decide (a.key < c.key)) ++ c :: composeP (p.dropWhile (fun a => decide (a.key ≤ c.key))) q
def composeAt (p : List Ch) (c : Ch) (q : List Ch) : List Ch :=
  (p.takeWhile (fun a => decide (a.key ≤ c.key))).filter (fun a => decide (a.key < c.key)) ++ c :: composeP (p.dropWhile (fun a => decide (a.key ≤ c.key))) q
theorem composeP_cons (p : List Ch) (c : Ch) (q : List Ch) : composeP p (c :: q) = composeAt p c q := by simp [composeP, composeAt]
theorem composeP_nil (p : List Ch) : composeP p [] = p := by simp [composeP]
theorem composeAt_less (a : Ch) (p : List Ch) (c : Ch) (q : List Ch) (h : a.key < c.key) : composeAt (a :: p) c q = a :: composeAt p c q := by
  have : a.key ≤ c.key := by omega
  simp [composeAt, h, this]
theorem composeAt_eq (a : Ch) (p : List Ch) (c : Ch) (q : List Ch) (h : a.key = c.key) : composeAt (a :: p) c q = composeAt p c q := by
  simp [composeAt, h]
theorem composeAt_more (a : Ch) (p : List Ch) (c : Ch) (q : List Ch) (h : c.key < a.key) : composeAt (a :: p) c q = c :: composeP (a :: p) q := by
  have : ¬ a.key ≤ c.key := by omega
  simp [composeAt, this]
theorem composeAt_nil (c : Ch) (q : List Ch) : composeAt [] c q = c :: composeP [] q := by simp [composeAt]

end Go.Proofs.YtfnkjcodcoehcaaGreatDoor
namespace Go.Proofs.YtfnkjcodcoehcaaGreatDoor
open Go.RowKit
set_option linter.unusedVariables false
set_option linter.unusedSimpArgs false

theorem rise_head {a : Int} {l : List Int} (h : rise (a :: l) = true) : ∀ b ∈ l, a < b := by
  induction l generalizing a with
  | nil => intro b hb; simp at hb
  | cons c l ih =>
    simp only [rise, Bool.and_eq_true, decide_eq_true_eq] at h
    intro b hb
    rcases List.mem_cons.1 hb with rfl | hb
    · exact h.1
    · have := ih h.2 b hb; omega
theorem rise_tail {a : Int} {l : List Int} (h : rise (a :: l) = true) : rise l = true := by
  cases l with
  | nil => rfl
  | cons c l => simp only [rise, Bool.and_eq_true] at h; exact h.2
theorem rise_lt {l : List At} (h : riseA l = true) : ∀ {x y : Nat} {a b : At}, x < y → l[x]? = some a → l[y]? = some b → a.key < b.key := by
  induction l with
  | nil => intro x y a b _ h1; simp at h1
  | cons c l ih =>
    intro x y a b hxy h1 h2
    have ht : riseA l = true := rise_tail (a := c.key) (l := l.map At.key) h
    cases y with
    | zero => omega
    | succ y =>
      cases x with
      | zero =>
        simp at h1 h2
        subst h1
        exact rise_head (a := c.key) (l := l.map At.key) h _ (List.mem_map.2 ⟨b, List.mem_of_getElem? h2, rfl⟩)
      | succ x => exact ih ht (Nat.lt_of_succ_lt_succ hxy) (by rw [List.getElem?_cons_succ] at h1; exact h1) (by rw [List.getElem?_cons_succ] at h2; exact h2)

def cmpI (a b : Int) : Int := if a < b then -1 else if b < a then 1 else 0

/-- what the halving knows: keys ahead of i are less, those from j on are not -/
def BsInv (l : List At) (key : Int) (i j : Nat) : Prop :=
  i ≤ j ∧ j ≤ l.length ∧ (riseA l = true → (∀ x a, x < i → l[x]? = some a → a.key < key) ∧ ∀ x a, j ≤ x → l[x]? = some a → key ≤ a.key)
def FindOut (l : List At) (key : Int) (i : Nat) (b : Bool) : Prop :=
  i ≤ l.length ∧ (b = true ↔ ∃ a, l[i]? = some a ∧ a.key = key) ∧ (riseA l = true → (∀ x a, x < i → l[x]? = some a → a.key < key) ∧ ∀ x a, i ≤ x → l[x]? = some a → key ≤ a.key)
theorem BsInv.up {l : List At} {key : Int} {i j h : Nat} {a : At} (v : BsInv l key i j) (h2 : h < j) (ha : l[h]? = some a) (hk : a.key < key) : BsInv l key (h + 1) j :=
  ⟨h2, v.2.1, fun r => ⟨fun x b hx hb => by
    rcases Nat.lt_or_ge x h with hlt | hge
    · have := rise_lt r hlt hb ha; omega
    · have : x = h := by omega
      subst this
      rw [ha] at hb; injection hb with hb; subst hb; exact hk, (v.2.2 r).2⟩⟩
theorem BsInv.down {l : List At} {key : Int} {i j h : Nat} {a : At} (v : BsInv l key i j) (h1 : i ≤ h) (h2 : h < j) (ha : l[h]? = some a) (hk : ¬ a.key < key) : BsInv l key i h :=
  ⟨h1, by have := v.2.1; omega, fun r => ⟨(v.2.2 r).1, fun x b hx hb => by
    rcases Nat.lt_or_ge h x with hlt | hge
    · have := rise_lt r hlt ha hb; omega
    · have : x = h := by omega
      subst this
      rw [ha] at hb; injection hb with hb; subst hb; omega⟩⟩
theorem BsInv.done {l : List At} {key : Int} {i j : Nat} {b : Bool} (v : BsInv l key i j) (hij : ¬ i < j) (hb : b = true ↔ ∃ a, l[i]? = some a ∧ a.key = key) : FindOut l key i b := by
  obtain ⟨h1, h2, h3⟩ := v
  have : i = j := by omega
  subst this
  exact ⟨h2, hb, h3⟩

set_option maxHeartbeats 400000 in
theorem cmpNaN_any (x : Int) (w : World) : Calls Tryz.prog 149 #[.int .i64 x] w fun e w' => e = .returned (.bool false) ∧ w = w' := by
  go_enter Tryz.func149, Tryz.ntmps149
  go_wp2
  go_ret
  exact ⟨by simp, rfl⟩

set_option maxHeartbeats 400000 in
theorem compare_any (x y : Int) (w : World) : Calls Tryz.prog 71 #[.int .i64 x, .int .i64 y] w fun e w' => e = .returned (.int .i64 (cmpI x y)) ∧ w = w' := by
  have hc : (x < y ∧ cmpI x y = -1) ∨ (¬ x < y ∧ y < x ∧ cmpI x y = 1) ∨ (¬ x < y ∧ ¬ y < x ∧ cmpI x y = 0) := by
    unfold cmpI
    by_cases h1 : x < y
    · simp [h1]
    · by_cases h2 : y < x <;> simp [h1, h2]
  rcases hc with ⟨h1, hc⟩ | ⟨h1, h2, hc⟩ | ⟨h1, h2, hc⟩
  all_goals
    have HC := Lib.hid hc
    clear hc
    go_enter Tryz.func71, Tryz.ntmps71
    go_wp2_with (go_at_call 149; refine (cmpNaN_any _ _).mono ?_; rintro e w' ⟨rfl, rfl⟩)
    go_ret
    exact ⟨ret_int HC.out.symm, rfl⟩

end Go.Proofs.YtfnkjcodcoehcaaGreatDoor
namespace Go.Proofs.YtfnkjcodcoehcaaGreatDoor
set_option linter.unusedVariables false
set_option linter.unusedSimpArgs false

section
variable {α : Type} (key : α → Int)
def lk (l : List α) (k : Int) : Option α := l.find? (fun a => decide (key a = k))
def Srt (l : List α) : Prop := l.Pairwise (fun a b => key a < key b)

theorem lk_nil (k : Int) : lk key [] k = none := rfl
theorem lk_cons (a : α) (l : List α) (k : Int) : lk key (a :: l) k = if key a = k then some a else lk key l k := by
  unfold lk
  by_cases h : key a = k <;> simp [h]
theorem lk_append (l m : List α) (k : Int) : lk key (l ++ m) k = (lk key l k).or (lk key m k) := by
  unfold lk
  rw [List.find?_append]
theorem lk_none {l : List α} {k : Int} (h : ∀ a ∈ l, key a ≠ k) : lk key l k = none := by
  unfold lk
  rw [List.find?_eq_none]
  intro a ha
  simpa using h a ha
theorem lk_key {l : List α} {k : Int} {a : α} (h : lk key l k = some a) : key a = k := by
  unfold lk at h
  have := List.find?_some h
  simpa using this
theorem lk_mem {l : List α} {k : Int} {a : α} (h : lk key l k = some a) : a ∈ l := by
  unfold lk at h
  exact List.mem_of_find?_eq_some h
theorem lk_of_mem {l : List α} (hs : Srt key l) {a : α} (h : a ∈ l) : lk key l (key a) = some a := by
  induction l with
  | nil => simp at h
  | cons b l ih =>
    rw [lk_cons]
    obtain ⟨h1, h2⟩ := List.pairwise_cons.1 hs
    rcases List.mem_cons.1 h with rfl | h
    · simp
    · have := h1 a h
      rw [if_neg (by omega)]
      exact ih h2 h
theorem lk_ext {l m : List α} (hl : Srt key l) (hm : Srt key m) (h : ∀ k, lk key l k = lk key m k) : l = m := by
  induction l generalizing m with
  | nil =>
    cases m with
    | nil => rfl
    | cons b m => have := h (key b); simp [lk_cons, lk_nil] at this
  | cons a l ih =>
    obtain ⟨h1, h2⟩ := List.pairwise_cons.1 hl
    cases m with
    | nil => have := h (key a); simp [lk_cons, lk_nil] at this
    | cons b m =>
      obtain ⟨h3, h4⟩ := List.pairwise_cons.1 hm
      have hab : key a = key b := by
        rcases Int.lt_trichotomy (key a) (key b) with hlt | he | hgt
        · have := h (key a)
          rw [lk_cons, if_pos rfl, lk_cons, if_neg (by omega), lk_none key (fun c hc => by have := h3 c hc; omega)] at this
          cases this
        · exact he
        · have := h (key b)
          rw [lk_cons, lk_cons, if_pos rfl, if_neg (by omega), lk_none key (fun c hc => by have := h1 c hc; omega)] at this
          cases this
      have e := h (key a)
      rw [lk_cons, if_pos rfl, lk_cons, if_pos hab.symm] at e
      injection e with e
      subst e
      congr 1
      refine ih h2 h4 fun k => ?_
      have := h k
      rw [lk_cons, lk_cons] at this
      by_cases hk : key a = k
      · rw [lk_none key (fun c hc => by have := h1 c hc; omega), lk_none key (fun c hc => by have := h3 c hc; omega)]
      · rw [if_neg hk, if_neg hk] at this; exact this
theorem Srt.nil : Srt key ([] : List α) := List.Pairwise.nil
theorem srt_cons {a : α} {l : List α} : Srt key (a :: l) ↔ (∀ b ∈ l, key a < key b) ∧ Srt key l := List.pairwise_cons
theorem srt_append {l m : List α} : Srt key (l ++ m) ↔ Srt key l ∧ Srt key m ∧ ∀ a ∈ l, ∀ b ∈ m, key a < key b := List.pairwise_append
theorem Srt.filter {l : List α} (h : Srt key l) (p : α → Bool) : Srt key (l.filter p) := List.Pairwise.filter p h
theorem lk_filter {l : List α} (hs : Srt key l) (p : α → Bool) (k : Int) : lk key (l.filter p) k = (lk key l k).filter p := by
  induction l with
  | nil => rfl
  | cons a l ih =>
    obtain ⟨h1, h2⟩ := (srt_cons key).1 hs
    rw [lk_cons]
    by_cases hk : key a = k
    · rw [if_pos hk]
      by_cases hp : p a = true
      · rw [List.filter_cons_of_pos hp, lk_cons, if_pos hk]; simp [Option.filter, hp]
      · rw [List.filter_cons_of_neg hp, lk_none key (fun c hc => by have := h1 c (List.mem_filter.1 hc).1; omega)]; simp [Option.filter, hp]
    · rw [if_neg hk, ← ih h2]
      by_cases hp : p a = true
      · rw [List.filter_cons_of_pos hp, lk_cons, if_neg hk]
      · rw [List.filter_cons_of_neg hp]
end

theorem rise_srt {α : Type} (key : α → Int) (l : List α) : rise (l.map key) = true ↔ Srt key l := by
  induction l with
  | nil => simp [rise, Srt]
  | cons a l ih =>
    rw [srt_cons, ← ih]
    constructor
    · intro h
      refine ⟨fun b hb => rise_head h _ (List.mem_map.2 ⟨b, hb, rfl⟩), rise_tail h⟩
    · rintro ⟨h1, h2⟩
      cases l with
      | nil => rfl
      | cons b l =>
        simp only [List.map_cons, rise, Bool.and_eq_true, decide_eq_true_eq]
        exact ⟨h1 b (by simp), h2⟩
theorem riseA_srt {l : List At} : riseA l = true ↔ Srt At.key l := rise_srt At.key l
theorem riseC_srt {l : List Ch} : riseC l = true ↔ Srt Ch.key l := rise_srt Ch.key l
/-- a list by rising keys, cut at a key -/
theorem cut_lt {α : Type} (key : α → Int) {l : List α} (hs : Srt key l) (c : Int) :
    (∀ a ∈ l.takeWhile (fun a => decide (key a < c)), key a < c) ∧ (∀ a ∈ l.dropWhile (fun a => decide (key a < c)), c ≤ key a) := by
  induction l with
  | nil => simp
  | cons a l ih =>
    obtain ⟨h1, h2⟩ := (srt_cons key).1 hs
    by_cases h : key a < c
    · simp only [List.takeWhile_cons, List.dropWhile_cons, h, decide_true, if_true]
      refine ⟨fun b hb => ?_, (ih h2).2⟩
      rcases List.mem_cons.1 hb with rfl | hb
      · exact h
      · exact (ih h2).1 b hb
    · simp only [List.takeWhile_cons, List.dropWhile_cons, h, decide_false, Bool.false_eq_true, if_false]
      refine ⟨fun b hb => by simp at hb, fun b hb => ?_⟩
      rcases List.mem_cons.1 hb with rfl | hb
      · omega
      · have := h1 b hb; omega
theorem cut_le {α : Type} (key : α → Int) {l : List α} (hs : Srt key l) (c : Int) :
    (∀ a ∈ l.takeWhile (fun a => decide (key a ≤ c)), key a ≤ c) ∧ (∀ a ∈ l.dropWhile (fun a => decide (key a ≤ c)), c < key a) := by
  induction l with
  | nil => simp
  | cons a l ih =>
    obtain ⟨h1, h2⟩ := (srt_cons key).1 hs
    by_cases h : key a ≤ c
    · simp only [List.takeWhile_cons, List.dropWhile_cons, h, decide_true, if_true]
      refine ⟨fun b hb => ?_, (ih h2).2⟩
      rcases List.mem_cons.1 hb with rfl | hb
      · exact h
      · exact (ih h2).1 b hb
    · simp only [List.takeWhile_cons, List.dropWhile_cons, h, decide_false, Bool.false_eq_true, if_false]
      refine ⟨fun b hb => by simp at hb, fun b hb => ?_⟩
      rcases List.mem_cons.1 hb with rfl | hb
      · omega
      · have := h1 b hb; omega
theorem srt_tw {α : Type} (key : α → Int) {l : List α} (hs : Srt key l) (p : α → Bool) : Srt key (l.takeWhile p) := hs.sublist (List.takeWhile_sublist p)
theorem srt_dw {α : Type} (key : α → Int) {l : List α} (hs : Srt key l) (p : α → Bool) : Srt key (l.dropWhile p) := hs.sublist (List.dropWhile_sublist p)
theorem drop1_gt {l : List At} (hs : Srt At.key l) {c : Int} (h : ∀ a ∈ l, c ≤ a.key) : Srt At.key (drop1 c l) ∧ (∀ a ∈ drop1 c l, c < a.key) ∧ ∀ k, c < k → lk At.key (drop1 c l) k = lk At.key l k := by
  cases l with
  | nil => exact ⟨hs, by simp [drop1], fun _ _ => rfl⟩
  | cons a l =>
    obtain ⟨h1, h2⟩ := (srt_cons At.key).1 hs
    have hd : drop1 c (a :: l) = if a.key = c then l else a :: l := rfl
    rw [hd]
    by_cases he : a.key = c
    · rw [if_pos he]
      exact ⟨h2, fun b hb => by have := h1 b hb; omega, fun k hk => by rw [lk_cons, if_neg (by omega)]⟩
    · rw [if_neg he]
      refine ⟨hs, fun b hb => ?_, fun _ _ => rfl⟩
      have ha := h a (by simp)
      rcases List.mem_cons.1 hb with rfl | hb
      · omega
      · have := h1 b hb; omega

/-- what a patch makes of what is looked up -/
def lkApply (c : Option Ch) (x : Option At) : Option At :=
  match c with
  | some c => if c.gone = true then none else some ⟨c.key, c.v⟩
  | none => x
theorem mem_put1 {c : Ch} {a : At} (h : a ∈ put1 c) : a.key = c.key := by
  unfold put1 at h
  split at h
  · simp at h
  · simp at h; rw [h]
theorem apply_all {p : List Ch} (hp : Srt Ch.key p) : ∀ {s : List At}, Srt At.key s →
    Srt At.key (applyP p s) ∧ (∀ k, lk At.key (applyP p s) k = lkApply (lk Ch.key p k) (lk At.key s k)) ∧ (∀ m : Int, (∀ c ∈ p, m < c.key) → (∀ a ∈ s, m < a.key) → ∀ a ∈ applyP p s, m < a.key) ∧ (applyP p s).length ≤ p.length + s.length := by
  induction p with
  | nil => intro s hs; exact ⟨hs, fun k => rfl, fun m _ h a ha => h a ha, by simp [applyP]⟩
  | cons c p ih =>
    intro s hs
    obtain ⟨h1, h2⟩ := (srt_cons Ch.key).1 hp
    obtain ⟨t1, t2⟩ := cut_lt At.key hs c.key
    have hts := srt_tw At.key hs (fun a => decide (a.key < c.key))
    have hds := srt_dw At.key hs (fun a => decide (a.key < c.key))
    have e : applyP (c :: p) s = s.takeWhile (fun a => decide (a.key < c.key)) ++ (put1 c ++ applyP p (drop1 c.key (s.dropWhile (fun a => decide (a.key < c.key))))) := rfl
    have happ : s.takeWhile (fun a => decide (a.key < c.key)) ++ s.dropWhile (fun a => decide (a.key < c.key)) = s := List.takeWhile_append_dropWhile
    have hlen : (s.takeWhile (fun a => decide (a.key < c.key))).length + (s.dropWhile (fun a => decide (a.key < c.key))).length = s.length := by rw [← List.length_append, happ]
    have hlk : ∀ k, lk At.key s k = (lk At.key (s.takeWhile (fun a => decide (a.key < c.key))) k).or (lk At.key (s.dropWhile (fun a => decide (a.key < c.key))) k) := fun k => by rw [← lk_append, happ]
    have hmt : ∀ a ∈ s.takeWhile (fun a => decide (a.key < c.key)), a ∈ s := fun a ha => (List.takeWhile_sublist _).subset ha
    have hmd : ∀ a ∈ s.dropWhile (fun a => decide (a.key < c.key)), a ∈ s := fun a ha => (List.dropWhile_sublist _).subset ha
    generalize s.takeWhile (fun a => decide (a.key < c.key)) = tw at *
    generalize s.dropWhile (fun a => decide (a.key < c.key)) = dw at *
    obtain ⟨d1, d2, d3⟩ := drop1_gt hds t2
    have hdl : (drop1 c.key dw).length ≤ dw.length := by
      unfold drop1; split
      · simp
      · split <;> simp
    have hdm : ∀ a ∈ drop1 c.key dw, a ∈ dw := by
      unfold drop1; split
      · simp
      · intro a ha; split at ha
        · exact List.mem_cons_of_mem _ ha
        · exact ha
    obtain ⟨i1, i2, i3, i4⟩ := ih h2 d1
    rw [e]
    have hput : ∀ a ∈ put1 c, a.key = c.key := fun a ha => mem_put1 ha
    have hpl : (put1 c).length ≤ 1 := by unfold put1; split <;> simp
    have hrest : ∀ a ∈ applyP p (drop1 c.key dw), c.key < a.key := i3 c.key h1 d2
    refine ⟨?_, fun k => ?_, fun m hm1 hm2 a ha => ?_, ?_⟩
    · rw [srt_append, srt_append]
      refine ⟨hts, ⟨?_, i1, fun a ha b hb => ?_⟩, fun a ha b hb => ?_⟩
      · unfold put1; split
        · exact Srt.nil _
        · rw [srt_cons]; exact ⟨by simp, Srt.nil _⟩
      · rw [hput a ha]; exact hrest b hb
      · have := t1 a ha
        rcases List.mem_append.1 hb with hb | hb
        · rw [hput b hb]; exact this
        · have := hrest b hb; omega
    · rw [lk_append, lk_append, hlk, lk_cons]
      rcases Int.lt_trichotomy k c.key with hlt | rfl | hgt
      · rw [if_neg (by omega), lk_none Ch.key (fun d hd => by have := h1 d hd; omega), lk_none At.key (l := put1 c) (fun d hd => by have := hput d hd; omega), lk_none At.key (l := applyP p (drop1 c.key dw)) (fun d hd => by have := hrest d hd; omega),
          lk_none At.key (l := dw) (fun d hd => by have := t2 d hd; omega)]
        rfl
      · rw [if_pos rfl, lk_none At.key (l := tw) (fun d hd => by have := t1 d hd; omega), lk_none At.key (l := applyP p (drop1 c.key dw)) (fun d hd => by have := hrest d hd; omega)]
        unfold put1 lkApply
        by_cases hg : c.gone = true
        · simp [hg, lk_nil]
        · simp [hg, lk_cons]
      · rw [if_neg (by omega), lk_none At.key (l := tw) (fun d hd => by have := t1 d hd; omega), lk_none At.key (l := put1 c) (fun d hd => by have := hput d hd; omega), i2, d3 k hgt]
        rfl
    · rcases List.mem_append.1 ha with ha | ha
      · exact hm2 a (hmt a ha)
      · rcases List.mem_append.1 ha with ha | ha
        · rw [hput a ha]; exact hm1 c (by simp)
        · have := hrest a ha; have := hm1 c (by simp); omega
    · simp only [List.length_append, List.length_cons]; omega

theorem compose_all {q : List Ch} (hq : Srt Ch.key q) : ∀ {p : List Ch}, Srt Ch.key p →
    Srt Ch.key (composeP p q) ∧ (∀ k, lk Ch.key (composeP p q) k = (lk Ch.key q k).or (lk Ch.key p k)) ∧ (∀ m : Int, (∀ c ∈ p, m < c.key) → (∀ c ∈ q, m < c.key) → ∀ c ∈ composeP p q, m < c.key) ∧ (composeP p q).length ≤ p.length + q.length := by
  induction q with
  | nil => intro p hp; rw [composeP_nil]; exact ⟨hp, fun k => by rw [lk_nil]; rfl, fun m h _ c hc => h c hc, by simp⟩
  | cons x q ih =>
    intro p hp
    obtain ⟨h1, h2⟩ := (srt_cons Ch.key).1 hq
    obtain ⟨t1, t2⟩ := cut_le Ch.key hp x.key
    have hts := srt_tw Ch.key hp (fun a => decide (a.key ≤ x.key))
    have hds := srt_dw Ch.key hp (fun a => decide (a.key ≤ x.key))
    have e : composeP p (x :: q) = (p.takeWhile (fun a => decide (a.key ≤ x.key))).filter (fun a => decide (a.key < x.key)) ++ x :: composeP (p.dropWhile (fun a => decide (a.key ≤ x.key))) q := by rw [composeP_cons]; rfl
    have happ : p.takeWhile (fun a => decide (a.key ≤ x.key)) ++ p.dropWhile (fun a => decide (a.key ≤ x.key)) = p := List.takeWhile_append_dropWhile
    have hlen : (p.takeWhile (fun a => decide (a.key ≤ x.key))).length + (p.dropWhile (fun a => decide (a.key ≤ x.key))).length = p.length := by rw [← List.length_append, happ]
    have hlk : ∀ k, lk Ch.key p k = (lk Ch.key (p.takeWhile (fun a => decide (a.key ≤ x.key))) k).or (lk Ch.key (p.dropWhile (fun a => decide (a.key ≤ x.key))) k) := fun k => by rw [← lk_append, happ]
    have hmt : ∀ c ∈ p.takeWhile (fun a => decide (a.key ≤ x.key)), c ∈ p := fun c hc => (List.takeWhile_sublist _).subset hc
    generalize p.takeWhile (fun a => decide (a.key ≤ x.key)) = tw at *
    generalize p.dropWhile (fun a => decide (a.key ≤ x.key)) = dw at *
    rw [e]
    obtain ⟨j1, j2, j3, j4⟩ := ih h2 hds
    have j5 := j3 x.key t2 h1
    have hf := hts.filter Ch.key (fun a => decide (a.key < x.key))
    have hfl := lk_filter Ch.key hts (fun a => decide (a.key < x.key))
    have hfm : ∀ c ∈ tw.filter (fun a => decide (a.key < x.key)), c ∈ tw ∧ c.key < x.key := fun c hc => by have := List.mem_filter.1 hc; simpa using this
    have hfn : (tw.filter (fun a => decide (a.key < x.key))).length ≤ tw.length := List.length_filter_le _ _
    generalize tw.filter (fun a => decide (a.key < x.key)) = ft at *
    refine ⟨?_, fun k => ?_, fun m hm1 hm2 c hc => ?_, ?_⟩
    · rw [srt_append, srt_cons]
      refine ⟨hf, ⟨j5, j1⟩, fun a ha b hb => ?_⟩
      have := (hfm a ha).2
      rcases List.mem_cons.1 hb with rfl | hb
      · exact this
      · have := j5 b hb; omega
    · rw [lk_append, lk_cons, hfl, hlk, lk_cons Ch.key x]
      rcases Int.lt_trichotomy k x.key with hlt | rfl | hgt
      · rw [if_neg (by omega), if_neg (by omega), lk_none Ch.key (l := composeP dw q) (fun d hd => by have := j5 d hd; omega), lk_none Ch.key (l := q) (fun d hd => by have := h1 d hd; omega), lk_none Ch.key (l := dw) (fun d hd => by have := t2 d hd; omega)]
        cases hl : lk Ch.key tw k with
        | none => rfl
        | some d =>
          have := lk_key Ch.key hl
          have hd : d.key < x.key := by omega
          simp [Option.filter, hd]
      · rw [if_pos rfl, if_pos rfl]
        cases hl : lk Ch.key tw x.key with
        | none => rfl
        | some d =>
          have := lk_key Ch.key hl
          have hd : ¬ d.key < x.key := by omega
          simp [Option.filter, hd]
      · rw [if_neg (by omega), if_neg (by omega), j2, lk_none Ch.key (l := tw) (fun d hd => by have := t1 d hd; omega)]
        rfl
    · rcases List.mem_append.1 hc with hc | hc
      · exact hm1 c (hmt c (hfm c hc).1)
      · rcases List.mem_cons.1 hc with rfl | hc
        · exact hm2 _ (by simp)
        · have := j5 c hc; have := hm2 x (by simp); omega
    · simp only [List.length_append, List.length_cons]; omega

section
variable {a b : List At} {p q r : List Ch}
theorem law_nil_left (hp : riseC p = true) : composeP [] p = p := by
  rw [riseC_srt] at hp
  obtain ⟨a1, a2, _⟩ := compose_all hp (Srt.nil Ch.key)
  refine lk_ext Ch.key a1 hp fun k => ?_
  rw [a2, lk_nil]
  cases lk Ch.key p k <;> rfl
end
end Go.Proofs.YtfnkjcodcoehcaaGreatDoor
namespace Go.Proofs.YtfnkjcodcoehcaaGreatDoor

/-- is a key there, and of the kind? -/
def keepK (l : List Ky) (b : Bool) (id : Int) : Bool :=
  match findK l id with
  | none => false
  | some k => k.block == b
/-- the changes of block keys, or of inline ones -/
def partP (l : List Ky) (b : Bool) (p : List Ch) : List Ch := p.filter (fun c => keepK l b c.key)
end Go.Proofs.YtfnkjcodcoehcaaGreatDoor
