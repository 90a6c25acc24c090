/- Merged texts: Canon, Cell, PatchFn, Find. -/
import Derived.Test.YtbdkbfoplpociaaGreatDoorE10
import Derived.Test.YtbdkbfoplpociaaGreatDoorE9
import Derived.Test.YtbdkbfoplpociaaGreatDoorE1
import Derived.Test.YtbdkbfoplpociaaGreatDoorE2
namespace Go.Proofs.YtbdkbfoplpociaaGreatDoor
set_option linter.unusedVariables false
set_option linter.unusedSimpArgs false

/-- inserts ahead of deletes, gap by gap; I and g: what the gap has so far -/
def cn : List Un → List Un → Nat → List Un
  | [], I, g => I ++ List.replicate g .del
  | .ins r s :: us, I, g => cn us (I ++ [.ins r s]) g
  | .del :: us, I, g => cn us I (g + 1)
  | .ret p :: us, I, g => I ++ List.replicate g .del ++ .ret p :: cn us [] 0
def canon (us : List Un) : List Un := cn us [] 0
/-- the normal form of units -/
def nf (us : List Un) : List Un := trim (canon us)

def takesU : List Un → Nat
  | [] => 0
  | .ins _ _ :: us => takesU us
  | _ :: us => takesU us + 1
def makesU : List Un → Nat
  | [] => 0
  | .del :: us => makesU us
  | _ :: us => makesU us + 1
theorem takesU_r (p : List Ch) (us : List Un) : takesU (.ret p :: us) = takesU us + 1 := rfl
theorem takesU_d (us : List Un) : takesU (.del :: us) = takesU us + 1 := rfl
theorem takesU_i (r : Int) (s : List At) (us : List Un) : takesU (.ins r s :: us) = takesU us := rfl
theorem makesU_r (p : List Ch) (us : List Un) : makesU (.ret p :: us) = makesU us + 1 := rfl
theorem makesU_d (us : List Un) : makesU (.del :: us) = makesU us := rfl
theorem makesU_i (r : Int) (s : List At) (us : List Un) : makesU (.ins r s :: us) = makesU us + 1 := rfl
theorem takesU_append (a b : List Un) : takesU (a ++ b) = takesU a + takesU b := by
  induction a with
  | nil => simp [takesU]
  | cons u a ih => cases u <;> simp [takesU, ih] <;> omega
theorem makesU_append (a b : List Un) : makesU (a ++ b) = makesU a + makesU b := by
  induction a with
  | nil => simp [makesU]
  | cons u a ih => cases u <;> simp [makesU, ih] <;> omega
theorem takesU_del (g : Nat) : takesU (List.replicate g .del) = g := by induction g with | zero => rfl | succ g ih => rw [List.replicate_succ, takesU_d, ih]
theorem makesU_del (g : Nat) : makesU (List.replicate g .del) = 0 := by induction g with | zero => rfl | succ g ih => rw [List.replicate_succ, makesU_d, ih]
theorem cn_takes (us : List Un) : ∀ (I : List Un) (g : Nat), takesU (cn us I g) = takesU I + g + takesU us := by
  induction us with
  | nil => intro I g; simp [cn, takesU_append, takesU_del, takesU]
  | cons u us ih =>
    intro I g
    cases u with
    | ins r s => rw [cn, ih, takesU_append]; simp [takesU]
    | del => rw [cn, ih]; simp [takesU]; omega
    | ret p => rw [cn, takesU_append, takesU_append, takesU_del, takesU_r, takesU_r, ih]; simp [takesU]; try omega
theorem cn_makes (us : List Un) : ∀ (I : List Un) (g : Nat), makesU (cn us I g) = makesU I + makesU us := by
  induction us with
  | nil => intro I g; simp [cn, makesU_append, makesU_del, makesU]
  | cons u us ih =>
    intro I g
    cases u with
    | ins r s => rw [cn, ih, makesU_append]; simp [makesU]; omega
    | del => rw [cn, ih]; simp [makesU]
    | ret p => rw [cn, makesU_append, makesU_append, makesU_del, makesU_r, makesU_r, ih]; simp [makesU]; try omega
theorem canon_takes (us : List Un) : takesU (canon us) = takesU us := by rw [canon, cn_takes]; simp [takesU]
theorem canon_makes (us : List Un) : makesU (canon us) = makesU us := by rw [canon, cn_makes]; simp [makesU]

theorem cn_ins (l : List Int) (s : List At) (us : List Un) : ∀ (I : List Un) (g : Nat), cn (l.map (fun r => Un.ins r s) ++ us) I g = cn us (I ++ l.map (fun r => Un.ins r s)) g := by
  induction l with
  | nil => intro I g; simp
  | cons r l ih => intro I g; show cn (l.map _ ++ us) (I ++ [.ins r s]) g = _; rw [ih]; simp
theorem cn_del (k : Nat) (us : List Un) : ∀ (I : List Un) (g : Nat), cn (List.replicate k .del ++ us) I g = cn us I (g + k) := by
  induction k with
  | zero => intro I g; simp
  | succ k ih => intro I g; rw [List.replicate_succ]; show cn (List.replicate k .del ++ us) I (g + 1) = _; rw [ih]; congr 1; omega
theorem cn_ret (k : Nat) (p : List Ch) (us : List Un) (I : List Un) (g : Nat) : cn (List.replicate (k + 1) (.ret p) ++ us) I g = I ++ List.replicate g .del ++ List.replicate (k + 1) (.ret p) ++ cn us [] 0 := by
  have h : ∀ k, cn (List.replicate k (.ret p) ++ us) [] 0 = List.replicate k (.ret p) ++ cn us [] 0 := by
    intro k
    induction k with
    | zero => rfl
    | succ k ih => rw [List.replicate_succ]; show [] ++ List.replicate 0 .del ++ .ret p :: cn (List.replicate k (.ret p) ++ us) [] 0 = _; rw [ih]; simp
  rw [List.replicate_succ]
  show I ++ List.replicate g .del ++ .ret p :: cn (List.replicate k (.ret p) ++ us) [] 0 = _
  rw [h]; simp

/-- a maker that was told these units -/
def Told (m : Mk) (us : List Un) : Prop :=
  ∃ K I g, MkAt m K I g ∧ (∀ rest, canon (us ++ rest) = K ++ cn rest I g) ∧ K.length + I.length + g = us.length
theorem Told.new : Told Mk.new [] := ⟨[], [], 0, MkAt.new, fun rest => rfl, rfl⟩
theorem Told.retain {m : Mk} {us : List Un} (h : Told m us) (n : Int) (p : List Ch) (hb : (us.length : Int) + n ≤ 4611686018427387904) : Told (mkRetain m n p) (us ++ List.replicate n.toNat (.ret p)) := by
  obtain ⟨K, I, g, h1, h2, h3⟩ := h
  by_cases hn : n < 1
  · have : n.toNat = 0 := by omega
    rw [this]
    exact ⟨K, I, g, h1.retain0 hn, fun rest => by rw [List.replicate_zero, List.append_nil]; exact h2 rest, by simpa using h3⟩
  · obtain ⟨k, hk⟩ : ∃ k, n.toNat = k + 1 := ⟨n.toNat - 1, by omega⟩
    refine ⟨_, [], 0, h1.retain (p := p) (by omega) (by rw [h3]; exact hb), fun rest => ?_, ?_⟩
    · rw [List.append_assoc, h2, hk, cn_ret]; simp only [List.append_assoc]
    · simp only [List.length_append, List.length_replicate, List.length_nil]; omega
theorem Told.insert {m : Mk} {us : List Un} (h : Told m us) (l : List Int) (s : List At) : Told (mkInsert m l s) (us ++ l.map (fun r => Un.ins r s)) := by
  obtain ⟨K, I, g, h1, h2, h3⟩ := h
  refine ⟨K, _, g, h1.insert l s, fun rest => by rw [List.append_assoc, h2, cn_ins], by simp; omega⟩
theorem Told.delete {m : Mk} {us : List Un} (h : Told m us) (n : Int) (hb : (us.length : Int) + n ≤ 4611686018427387904) (hb2 : us.length ≤ 4611686018427387904) : Told (mkDelete m n) (us ++ List.replicate n.toNat .del) := by
  obtain ⟨K, I, g, h1, h2, h3⟩ := h
  refine ⟨K, I, _, h1.delete (n := n) (by omega) (by omega), fun rest => by rw [List.append_assoc, h2, cn_del], by simp; omega⟩
/-- what a maker makes -/
theorem Told.ops {m : Mk} {us : List Un} (h : Told m us) : tight (mkOps m) ∧ units (mkOps m) = nf us := by
  obtain ⟨K, I, g, h1, h2, h3⟩ := h
  obtain ⟨g1, g2⟩ := h1.ops
  refine ⟨g1, ?_⟩
  rw [g2, nf]
  have := h2 []
  rw [List.append_nil] at this
  rw [this]
  simp [cn, List.append_assoc]
/-- two makers that were told units of one normal form -/
theorem Told.same {m m' : Mk} {us us' : List Un} (h : Told m us) (h' : Told m' us') (e : nf us = nf us') : mkOps m = mkOps m' :=
  tight_ext h.ops.1 h'.ops.1 (by rw [h.ops.2, h'.ops.2, e])

end Go.Proofs.YtbdkbfoplpociaaGreatDoor
namespace Go.Proofs.YtbdkbfoplpociaaGreatDoor
open Go.RowKit
set_option linter.unusedVariables false
set_option linter.unusedSimpArgs false

def osOf (x : List OpS) : List Opd := x.map (·.o)
/-- a cell: its rune, its set -/
structure Cl where
  r : Int
  s : List At
deriving DecidableEq
/-- a cell and where its set lies -/
structure ClS where
  c : Cl
  As : Option Addr
  cs : Nat
def ClS.enc (x : ClS) : List Value := [.int .i32 x.c.r, .slice x.As x.c.s.length x.cs]
theorem ClS.enc_len (x : ClS) : x.enc.length = 2 := rfl
theorem ClS.enc_one (x : ClS) : ∀ u ∈ x.enc, u.oneCell' = true := by intro u hu; simp [ClS.enc] at hu; rcases hu with rfl | rfl <;> rfl
abbrev RdCs := @Rd ClS ClS.enc 2
/-- the sets of cells read so -/
def SubC (w : World) (B : Nat) (l : List ClS) : Prop := ∀ x ∈ l, RdAt w B x.As x.c.s
/-- the slice at A reads as the cells l -/
def RdCl (w : World) (B : Nat) (A : Option Addr) (l : List ClS) : Prop := RdCs w B A l ∧ SubC w B l
theorem SubC.ext {w w' : World} {l : List ClS} (h : SubC w w.heap.size l) (y : Below w.heap.size w w') : SubC w' w'.heap.size l := fun x hx => (h x hx).ext y
theorem RdCl.ext {w w' : World} {A : Option Addr} {l : List ClS} (h : RdCl w w.heap.size A l) (y : Below w.heap.size w w') : RdCl w' w'.heap.size A l := ⟨h.1.ext y, h.2.ext y⟩
theorem box_cl {w : World} {b : Nat} {t : TypeId} {c0 c1 : Value} (h : w.heap[b]? = some (.cells #[c0, c1] t (0, 0))) : w.cell? ⟨b, 0, none⟩ = some c0 ∧ w.cell? ⟨b, 1, none⟩ = some c1 := by
  simp [World.cell?, h]
end Go.Proofs.YtbdkbfoplpociaaGreatDoor
namespace Go.Proofs.YtbdkbfoplpociaaGreatDoor

def put1 (c : Ch) : List At := if c.gone then [] else [⟨c.key, c.v⟩]
def drop1 (k : Int) : List At → List At
  | [] => []
  | a :: s => if a.key = k then s else a :: s
def applyP : List Ch → List At → List At
  | [], s => s
  | c :: p, s => s.takeWhile (fun a => decide (a.key < c.key)) ++ (put1 c ++ applyP p (drop1 c.key (s.dropWhile (fun a => decide (a.key < c.key)))))
/-- what is left to do at a change -/
def applyAt (c : Ch) (p : List Ch) (s : List At) : List At :=
  s.takeWhile (fun a => decide (a.key < c.key)) ++ (put1 c ++ applyP p (drop1 c.key (s.dropWhile (fun a => decide (a.key < c.key)))))

theorem applyAt_less (c : Ch) (p : List Ch) (a : At) (s : List At) (h : a.key < c.key) : applyAt c p (a :: s) = a :: applyAt c p s := by
  simp [applyAt, h]
theorem applyAt_eq (c : Ch) (p : List Ch) (a : At) (s : List At) (h : a.key = c.key) : applyAt c p (a :: s) = put1 c ++ applyP p s := by
  simp [applyAt, h, drop1]
theorem applyAt_more (c : Ch) (p : List Ch) (a : At) (s : List At) (h : c.key < a.key) : applyAt c p (a :: s) = put1 c ++ applyP p (a :: s) := by
  have h1 : ¬ a.key < c.key := by omega
  have h2 : ¬ a.key = c.key := by omega
  simp [applyAt, h1, h2, drop1]
theorem applyAt_nil (c : Ch) (p : List Ch) : applyAt c p [] = put1 c ++ applyP p [] := by
  simp [applyAt, drop1]
def composeP : List Ch → List Ch → List Ch
  | p, [] => p
  | p, c :: q => (p.takeWhile (fun a => decide (a.key ≤ c.key))).filter (fun a => decide (a.key < c.key)) ++ c :: composeP (p.dropWhile (fun a => decide (a.key ≤ c.key))) q
def composeAt (p : List Ch) (c : Ch) (q : List Ch) : List Ch :=
  (p.takeWhile (fun a => decide (a.key ≤ c.key))).filter (fun a => decide (a.key < c.key)) ++ c :: composeP (p.dropWhile (fun a => decide (a.key ≤ c.key))) q
theorem composeP_cons (p : List Ch) (c : Ch) (q : List Ch) : composeP p (c :: q) = composeAt p c q := by simp [composeP, composeAt]
theorem composeP_nil (p : List Ch) : composeP p [] = p := by simp [composeP]
theorem composeAt_less (a : Ch) (p : List Ch) (c : Ch) (q : List Ch) (h : a.key < c.key) : composeAt (a :: p) c q = a :: composeAt p c q := by
  have : a.key ≤ c.key := by omega
  simp [composeAt, h, this]
theorem composeAt_eq (a : Ch) (p : List Ch) (c : Ch) (q : List Ch) (h : a.key = c.key) : composeAt (a :: p) c q = composeAt p c q := by
  simp [composeAt, h]
theorem composeAt_more (a : Ch) (p : List Ch) (c : Ch) (q : List Ch) (h : c.key < a.key) : composeAt (a :: p) c q = c :: composeP (a :: p) q := by
  have : ¬ a.key ≤ c.key := by omega
  simp [composeAt, this]
theorem composeAt_nil (c : Ch) (q : List Ch) : composeAt [] c q = c :: composeP [] q := by simp [composeAt]

end Go.Proofs.YtbdkbfoplpociaaGreatDoor
namespace Go.Proofs.YtbdkbfoplpociaaGreatDoor
open Go.RowKit
set_option linter.unusedVariables false
set_option linter.unusedSimpArgs false

theorem rise_head {a : Int} {l : List Int} (h : rise (a :: l) = true) : ∀ b ∈ l, a < b := by
  induction l generalizing a with
  | nil => intro b hb; simp at hb
  | cons c l ih =>
    simp only [rise, Bool.and_eq_true, decide_eq_true_eq] at h
    intro b hb
    rcases List.mem_cons.1 hb with rfl | hb
    · exact h.1
    · have := ih h.2 b hb; omega
theorem rise_tail {a : Int} {l : List Int} (h : rise (a :: l) = true) : rise l = true := by
  cases l with
  | nil => rfl
  | cons c l => simp only [rise, Bool.and_eq_true] at h; exact h.2
theorem rise_lt {l : List At} (h : riseA l = true) : ∀ {x y : Nat} {a b : At}, x < y → l[x]? = some a → l[y]? = some b → a.key < b.key := by
  induction l with
  | nil => intro x y a b _ h1; simp at h1
  | cons c l ih =>
    intro x y a b hxy h1 h2
    have ht : riseA l = true := rise_tail (a := c.key) (l := l.map At.key) h
    cases y with
    | zero => omega
    | succ y =>
      cases x with
      | zero =>
        simp at h1 h2
        subst h1
        exact rise_head (a := c.key) (l := l.map At.key) h _ (List.mem_map.2 ⟨b, List.mem_of_getElem? h2, rfl⟩)
      | succ x => exact ih ht (Nat.lt_of_succ_lt_succ hxy) (by rw [List.getElem?_cons_succ] at h1; exact h1) (by rw [List.getElem?_cons_succ] at h2; exact h2)

def cmpI (a b : Int) : Int := if a < b then -1 else if b < a then 1 else 0

/-- what the halving knows: keys ahead of i are less, those from j on are not -/
def BsInv (l : List At) (key : Int) (i j : Nat) : Prop :=
  i ≤ j ∧ j ≤ l.length ∧ (riseA l = true → (∀ x a, x < i → l[x]? = some a → a.key < key) ∧ ∀ x a, j ≤ x → l[x]? = some a → key ≤ a.key)
def FindOut (l : List At) (key : Int) (i : Nat) (b : Bool) : Prop :=
  i ≤ l.length ∧ (b = true ↔ ∃ a, l[i]? = some a ∧ a.key = key) ∧ (riseA l = true → (∀ x a, x < i → l[x]? = some a → a.key < key) ∧ ∀ x a, i ≤ x → l[x]? = some a → key ≤ a.key)
theorem BsInv.up {l : List At} {key : Int} {i j h : Nat} {a : At} (v : BsInv l key i j) (h2 : h < j) (ha : l[h]? = some a) (hk : a.key < key) : BsInv l key (h + 1) j :=
  ⟨h2, v.2.1, fun r => ⟨fun x b hx hb => by
    rcases Nat.lt_or_ge x h with hlt | hge
    · have := rise_lt r hlt hb ha; omega
    · have : x = h := by omega
      subst this
      rw [ha] at hb; injection hb with hb; subst hb; exact hk, (v.2.2 r).2⟩⟩
theorem BsInv.down {l : List At} {key : Int} {i j h : Nat} {a : At} (v : BsInv l key i j) (h1 : i ≤ h) (h2 : h < j) (ha : l[h]? = some a) (hk : ¬ a.key < key) : BsInv l key i h :=
  ⟨h1, by have := v.2.1; omega, fun r => ⟨(v.2.2 r).1, fun x b hx hb => by
    rcases Nat.lt_or_ge h x with hlt | hge
    · have := rise_lt r hlt ha hb; omega
    · have : x = h := by omega
      subst this
      rw [ha] at hb; injection hb with hb; subst hb; omega⟩⟩
theorem BsInv.done {l : List At} {key : Int} {i j : Nat} {b : Bool} (v : BsInv l key i j) (hij : ¬ i < j) (hb : b = true ↔ ∃ a, l[i]? = some a ∧ a.key = key) : FindOut l key i b := by
  obtain ⟨h1, h2, h3⟩ := v
  have : i = j := by omega
  subst this
  exact ⟨h2, hb, h3⟩

set_option maxHeartbeats 400000 in
theorem cmpNaN_any (x : Int) (w : World) : Calls Tryz.prog 171 #[.int .i64 x] w fun e w' => e = .returned (.bool false) ∧ w = w' := by
  go_enter Tryz.func171, Tryz.ntmps171
  go_wp2
  go_ret
  exact ⟨by simp, rfl⟩

set_option maxHeartbeats 400000 in
theorem compare_any (x y : Int) (w : World) : Calls Tryz.prog 94 #[.int .i64 x, .int .i64 y] w fun e w' => e = .returned (.int .i64 (cmpI x y)) ∧ w = w' := by
  have hc : (x < y ∧ cmpI x y = -1) ∨ (¬ x < y ∧ y < x ∧ cmpI x y = 1) ∨ (¬ x < y ∧ ¬ y < x ∧ cmpI x y = 0) := by
    unfold cmpI
    by_cases h1 : x < y
    · simp [h1]
    · by_cases h2 : y < x <;> simp [h1, h2]
  rcases hc with ⟨h1, hc⟩ | ⟨h1, h2, hc⟩ | ⟨h1, h2, hc⟩
  all_goals
    have HC := Lib.hid hc
    clear hc
    go_enter Tryz.func94, Tryz.ntmps94
    go_wp2_with (go_at_call 171; refine (cmpNaN_any _ _).mono ?_; rintro e w' ⟨rfl, rfl⟩)
    go_ret
    exact ⟨ret_int HC.out.symm, rfl⟩

end Go.Proofs.YtbdkbfoplpociaaGreatDoor
