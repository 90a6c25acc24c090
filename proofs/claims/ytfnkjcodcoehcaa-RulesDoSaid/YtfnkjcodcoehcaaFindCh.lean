/- The walk of rules.at: where a key's change is in a patch, or would be. -/
import Derived.Test.YtfnkjcodcoehcaaFind
namespace Go.Proofs.Ytfnkjcodcoehcaa
open Go.RowKit
set_option linter.unusedVariables false
set_option linter.unusedSimpArgs false

theorem riseC_lt {l : List Ch} (h : riseC l = true) : ∀ {x y : Nat} {a b : Ch}, x < y → l[x]? = some a → l[y]? = some b → a.key < b.key := by
  induction l with
  | nil => intro x y a b _ h1; simp at h1
  | cons c l ih =>
    intro x y a b hxy h1 h2
    have ht : riseC l = true := rise_tail (a := c.key) (l := l.map Ch.key) h
    cases y with
    | zero => omega
    | succ y =>
      cases x with
      | zero =>
        simp at h1 h2
        subst h1
        exact rise_head (a := c.key) (l := l.map Ch.key) h _ (List.mem_map.2 ⟨b, List.mem_of_getElem? h2, rfl⟩)
      | succ x => exact ih ht (Nat.lt_of_succ_lt_succ hxy) (by rw [List.getElem?_cons_succ] at h1; exact h1) (by rw [List.getElem?_cons_succ] at h2; exact h2)


def BsInvC (l : List Ch) (key : Int) (i j : Nat) : Prop :=
  i ≤ j ∧ j ≤ l.length ∧ (riseC l = true → (∀ x a, x < i → l[x]? = some a → a.key < key) ∧ ∀ x a, j ≤ x → l[x]? = some a → key ≤ a.key)
def FindOutC (l : List Ch) (key : Int) (i : Nat) (b : Bool) : Prop :=
  i ≤ l.length ∧ (b = true ↔ ∃ a, l[i]? = some a ∧ a.key = key) ∧ (riseC l = true → (∀ x a, x < i → l[x]? = some a → a.key < key) ∧ ∀ x a, i ≤ x → l[x]? = some a → key ≤ a.key)
theorem BsInvC.start (l : List Ch) (key : Int) : BsInvC l key 0 l.length :=
  ⟨Nat.zero_le _, Nat.le_refl _, fun _ => ⟨fun x a h => by omega, fun x a h h1 => by rw [List.getElem?_eq_none h] at h1; cases h1⟩⟩
theorem BsInvC.up {l : List Ch} {key : Int} {i j h : Nat} {a : Ch} (v : BsInvC l key i j) (h2 : h < j) (ha : l[h]? = some a) (hk : a.key < key) : BsInvC l key (h + 1) j :=
  ⟨h2, v.2.1, fun r => ⟨fun x b hx hb => by
    rcases Nat.lt_or_ge x h with hlt | hge
    · have := riseC_lt r hlt hb ha; omega
    · have : x = h := by omega
      subst this
      rw [ha] at hb; injection hb with hb; subst hb; exact hk, (v.2.2 r).2⟩⟩
theorem BsInvC.down {l : List Ch} {key : Int} {i j h : Nat} {a : Ch} (v : BsInvC l key i j) (h1 : i ≤ h) (h2 : h < j) (ha : l[h]? = some a) (hk : ¬ a.key < key) : BsInvC l key i h :=
  ⟨h1, by have := v.2.1; omega, fun r => ⟨(v.2.2 r).1, fun x b hx hb => by
    rcases Nat.lt_or_ge h x with hlt | hge
    · have := riseC_lt r hlt ha hb; omega
    · have : x = h := by omega
      subst this
      rw [ha] at hb; injection hb with hb; subst hb; omega⟩⟩
theorem BsInvC.done {l : List Ch} {key : Int} {i j : Nat} {b : Bool} (v : BsInvC l key i j) (hij : ¬ i < j) (hb : b = true ↔ ∃ a, l[i]? = some a ∧ a.key = key) : FindOutC l key i b := by
  obtain ⟨h1, h2, h3⟩ := v
  have : i = j := by omega
  subst this
  exact ⟨h2, hb, h3⟩

set_option maxHeartbeats 400000 in
theorem atCmp_any (k : Int) (gn : Bool) (a n f key : Int) (s : ByteArray) (w : World) :
    Calls Try.prog 51 #[.agg #[.int .i64 k, .bool gn, .int .u8 a, .int .i64 n, .int .u64 f, .string s], .int .i64 key] w fun e w' => e = .returned (.int .i64 (cmpI k key)) ∧ Below w.heap.size w w' := by
  go_enter Try.func51, Try.ntmps51
  go_wp2_with (go_at_call 24; refine (compare_any _ _ _).mono ?_; rintro e w' ⟨rfl, rfl⟩)
  go_ret
  exact ⟨rfl, (Below.refl _ _).alloc (Nat.le_refl _) _⟩

set_option maxRecDepth 100000 in
set_option maxHeartbeats 400000 in
theorem bsearchC_any (A : Option Addr) (n c : Nat) (l : List Ch) (key : Int) (w : World) (hn : n = l.length) (h : RdCh w w.heap.size A l) (hb : n ≤ 140737488355328) :
    Calls Try.prog 50 #[.slice A n c, .int .i64 key, .func (.func 51) #[] #[]] w fun e w' =>
      ∃ (i : Nat) (b : Bool), e = .returned (.tuple #[.int .i64 (i : Int), .bool b]) ∧ FindOutC l key i b ∧ Below w.heap.size w w' := by
  have N := Lib.hid hn
  clear hn
  go_enter Try.func50, Try.ntmps50
  go_wp2_with (fail)
  go_loopg [9, 10] n (fun g iv jv wr => ∃ i j : Nat, g = j - i ∧ iv = .int .i64 (i : Int) ∧ jv = .int .i64 (j : Int) ∧ BsInvC l key i j ∧ Below w.heap.size w wr)
  case atStart => exact ⟨0, n, rfl, rfl, rfl, by rw [N.out]; exact BsInvC.start l key, Below.refl _ _⟩
  case round =>
    obtain ⟨i, j, hg, rfl, rfl, hinv, hbw⟩ := hrel
    have HG := Lib.hid hg
    clear hg
    have hij : i ≤ j := hinv.1
    have hjn : j ≤ n := by have := hinv.2.1; rw [N.out]; exact this
    by_cases hlt : i < j
    · have hm1 : i ≤ (i + j) / 2 := by omega
      have hm2 : (i + j) / 2 < j := by omega
      obtain ⟨ad, x, rfl, _, _, hx, hc1⟩ := (h.below hbw (Nat.le_refl _)).el (i := (i + j) / 2) (by have := N.out; omega)
      obtain ⟨x1, x6, x2, x3, x4, x5⟩ := x
      obtain ⟨r0, r1, r2, r3, r4, r5⟩ := ch_cells hc1
      have HX := Lib.hid hx
      clear hx hc1
      by_cases hk : x1 < key
      · have hcmp : cmpI x1 key = -1 := by simp [cmpI, hk]
        go_wp2_with (go_at_call 51; refine (atCmp_any _ _ _ _ _ _ _ _).mono ?_; rintro e w' ⟨rfl, hb'⟩)
        have hbw' := hbw.trans (hb'.mono hbw.size)
        go_roundg (j - ((i + j) / 2 + 1))
        case measure => have := HG.out; omega
        case rel => exact ⟨(i + j) / 2 + 1, j, rfl, by go_num, rfl, hinv.up hm2 HX.out hk, hbw'⟩
      · have hcmp : cmpI x1 key = 0 ∨ cmpI x1 key = 1 := by unfold cmpI; by_cases h2 : key < x1 <;> simp [hk, h2]
        have hcmp' : (decide (cmpI x1 key < 0)) = false := by rcases hcmp with h | h <;> simp [h]
        go_wp2_with (go_at_call 51; refine (atCmp_any _ _ _ _ _ _ _ _).mono ?_; rintro e w' ⟨rfl, hb'⟩)
        have hbw' := hbw.trans (hb'.mono hbw.size)
        go_roundg ((i + j) / 2 - i)
        case measure => have := HG.out; omega
        case rel => exact ⟨i, (i + j) / 2, rfl, rfl, by go_num, hinv.down hm1 hm2 HX.out (by show ¬ x1 < key; omega), hbw'⟩
    · by_cases hin : i < n
      · obtain ⟨ad, x, rfl, _, _, hx, hc1⟩ := (h.below hbw (Nat.le_refl _)).el (i := i) (by have := N.out; omega)
        obtain ⟨x1, x6, x2, x3, x4, x5⟩ := x
        obtain ⟨r0, r1, r2, r3, r4, r5⟩ := ch_cells hc1
        have HX := Lib.hid hx
        clear hx hc1
        by_cases hk : x1 = key
        · have hcmp : (cmpI x1 key == 0) = true := by simp [cmpI, hk]
          have HK := Lib.hid hk
          clear hk
          go_wp2_with (go_at_call 51; refine (atCmp_any _ _ _ _ _ _ _ _).mono ?_; rintro e w' ⟨rfl, hb'⟩)
          go_ret2
          exact ⟨i, true, rfl, hinv.done hlt (by simpa using ⟨_, HX.out, HK.out⟩), hbw.trans (hb'.mono hbw.size)⟩
        · have hcmp : (cmpI x1 key == 0) = false := by
            unfold cmpI
            by_cases h1 : x1 < key <;> by_cases h2 : key < x1 <;> simp [h1, h2]
            omega
          go_wp2_with (go_at_call 51; refine (atCmp_any _ _ _ _ _ _ _ _).mono ?_; rintro e w' ⟨rfl, hb'⟩)
          go_ret2
          exact ⟨i, false, rfl, hinv.done hlt (by simp [HX.out, hk]), hbw.trans (hb'.mono hbw.size)⟩
      · go_wp2_with (fail)
        go_ret2
        have hl : l[i]? = none := List.getElem?_eq_none (by have := N.out; omega)
        exact ⟨i, false, rfl, hinv.done hlt (by simp [hl]), hbw⟩

set_option maxHeartbeats 400000 in
theorem atC_any (A : Option Addr) (n c : Nat) (l : List Ch) (key : Int) (w : World) (hn : n = l.length) (h : RdCh w w.heap.size A l) (hb : n ≤ 140737488355328) :
    Calls Try.prog 27 #[.slice A n c, .int .i64 key] w fun e w' =>
      ∃ (i : Nat) (b : Bool), e = .returned (.tuple #[.int .i64 (i : Int), .bool b]) ∧ FindOutC l key i b ∧ Below w.heap.size w w' := by
  have N := Lib.hid hn
  clear hn
  go_enter Try.func27, Try.ntmps27
  go_wp2_with (go_at_call 50; refine (bsearchC_any A n c l key _ N.out h hb).mono ?_; rintro e w' ⟨i, b, rfl, hf, hb'⟩)
  go_ret2
  exact ⟨i, b, rfl, hf, hb'⟩
end Go.Proofs.Ytfnkjcodcoehcaa
