/- Merged texts: Known24, Great18, WholeLaw, RoundLaw, KeyRow, FindCh, Insert, InsertCh. -/
import Derived.Test.YtfnkjcodcoehcaaGreatDoorY18
import Derived.Test.YtfnkjcodcoehcaaGreatDoorY19
import Derived.Test.YtfnkjcodcoehcaaGreatDoorY15
import Derived.Test.YtfnkjcodcoehcaaGreatDoorY7
import Derived.Test.YtfnkjcodcoehcaaGreatDoorY5
import Derived.Test.YtfnkjcodcoehcaaGreatDoorY17
import Derived.Test.YtfnkjcodcoehcaaGreatDoorY10
import Derived.Test.YtfnkjcodcoehcaaGreatDoorY13
import Derived.Test.YtfnkjcodcoehcaaGreatDoorY6
import Derived.Lib.AppendZeros
import Derived.Deep.RegionLaw
import Derived.Laws.CopyOwn
import Derived.Test.YtfnkjcodcoehcaaGreatDoorY9
import Derived.Test.YtfnkjcodcoehcaaGreatDoorY11
namespace Go.Proofs.YtfnkjcodcoehcaaGreatDoor
open Go.RowKit
set_option linter.unusedVariables false
set_option linter.unusedSimpArgs false

def xR24  : List OpS := [⟨opR 2 [], none, 0, none, 0, none, 0⟩, ⟨opD 3, none, 0, none, 0, none, 0⟩]
def chK (k : Int) : Ch := ⟨k, true, V.zero⟩
def cx24 (a b : Nat) : List CX := [⟨some ⟨a, 0, none⟩, 1, [chK 1]⟩, ⟨some ⟨b, 0, none⟩, 1, [chK 2]⟩]
theorem r24_made : mkU (goneU 2 3) = osOf xR24 := by kernel_rfl
theorem l24_made (a b : Nat) : (mkU (linesU (atX (cx24 a b)) 0 0 [3, 7])).length = 4 := by kernel_rfl
theorem okch (k : Int) : okVs [chK k] := fun c hc => by
  rw [List.mem_singleton] at hc; subst hc
  exact ⟨by unfold okV chK V.zero; simp, Nat.zero_le _⟩

set_option maxRecDepth 100000 in
set_option maxHeartbeats 3200000 in
theorem known24_any (w : World) (hT : Lib.Utf8Tabs 1 2 w) :
    Calls Tryz.prog 55 #[] w fun e w' => e = .returned (.bool true) ∧ Below w.heap.size w w' := by
  have HT := Lib.hid hT
  clear hT
  go_enter Tryz.func55, Tryz.ntmps55
  go_wp2_with (go_at_call 125; refine Hid.out ?_)
  refine Lib.hid ?_
  refine (remove_any 2 3 2 5 rfl rfl (by omega) _).mono ?_
  rintro e w1 ⟨A1, c1, x1, rfl, h1, o1, y1⟩
  have E1 := Lib.hid (h1.trans r24_made)
  have O1 := Lib.hid o1
  have Y1 := Lib.hid y1
  clear h1 o1 y1
  go_wp2_with (go_at_call 22; refine Hid.out ?_)
  refine Lib.hid ?_
  have yt1 := ext_alloc w1 (.cells #[.int .u8 1, .int .i64 2, .slice none 0 0, .slice none 0 0, .slice none 0 0, .int .u8 3, .int .i64 3, .slice none 0 0, .slice none 0 0, .slice none 0 0] 50)
  have rdxR24 := rd_ops w1 xR24 (fun z hz => by
    simp only [xR24, List.mem_cons, List.not_mem_nil, or_false] at hz
    rcases hz with rfl | rfl
    · exact ⟨Rd.nil, Rd.nil, Rd.nil⟩
    · exact ⟨Rd.nil, Rd.nil, Rd.nil⟩) (cs := #[.int .u8 1, .int .i64 2, .slice none 0 0, .slice none 0 0, .slice none 0 0, .int .u8 3, .int .i64 3, .slice none 0 0, .slice none 0 0, .slice none 0 0]) rfl (b := w1.heap.size) rfl
  have zt1 : (w1.alloc (.cells #[.int .u8 1, .int .i64 2, .slice none 0 0, .slice none 0 0, .slice none 0 0, .int .u8 3, .int .i64 3, .slice none 0 0, .slice none 0 0, .slice none 0 0] 50)).heap.size = w1.heap.size + 1 := by simp
  generalize w1.alloc (.cells #[.int .u8 1, .int .i64 2, .slice none 0 0, .slice none 0 0, .slice none 0 0, .int .u8 3, .int .i64 3, .slice none 0 0, .slice none 0 0, .slice none 0 0] 50) = t1 at *
  have atxR24 : OpsC t1 (some ⟨w1.heap.size, 0, none⟩) 2 2 xR24 := ⟨⟨rdxR24, rfl, (fun z hz => by
    simp only [xR24, List.mem_cons, List.not_mem_nil, or_false] at hz
    rcases hz with rfl | rfl <;> exact ok_small _ rfl rfl (by simp [opR, opI, opD])), by omega⟩, Nat.le_refl _, by unfold maxLen; omega, (fun z hz => by
    simp only [xR24, List.mem_cons, List.not_mem_nil, or_false] at hz
    rcases hz with rfl | rfl <;> (unfold capO maxLen; simp [opR, opI, opD]))⟩
  refine (same15D (O1.out.at_.ext yt1) atxR24.at_ (decide_eq_true E1.out)).mono ?_
  have yq := ext_trans Y1.out yt1
  rintro e v1 ⟨rfl, y9⟩
  have Y2 := Lib.hid (ext_trans yq y9)
  clear yq y9 yt1 atxR24 rdxR24 O1 E1 Y1
  go_wp2_with (go_at_call 126; refine Hid.out ?_)
  refine Lib.hid ?_
  have yu1 := ext_alloc v1 (.cells #[.int .i64 3, .int .i64 7] 3)
  have ri : RdInt _ _ _ ([3, 7].map (fun p : Nat => (p : Int))) := Rd.new (enc := encInt) (size := 1) encInt_len v1 3 ([3, 7].map (fun p : Nat => (p : Int))) (cs := #[.int .i64 3, .int .i64 7]) rfl rfl
  have zu1 : (v1.alloc (.cells #[.int .i64 3, .int .i64 7] 3)).heap.size = v1.heap.size + 1 := by simp
  generalize v1.alloc (.cells #[.int .i64 3, .int .i64 7] 3) = u1 at *
  have yu2 := ext_alloc u1 (.cells #[.int .i64 1, .bool true, .int .u8 0, .int .i64 0, .int .u64 0, .string ⟨#[]⟩] 77)
  have rc1 : RdCh _ _ _ [chK 1] := Rd.new (enc := Ch.enc) (size := 6) Ch.enc_len u1 77 [chK 1] (cs := #[.int .i64 1, .bool true, .int .u8 0, .int .i64 0, .int .u64 0, .string ⟨#[]⟩]) rfl (b := v1.heap.size + 1) zu1.symm
  have zu2 : (u1.alloc (.cells #[.int .i64 1, .bool true, .int .u8 0, .int .i64 0, .int .u64 0, .string ⟨#[]⟩] 77)).heap.size = v1.heap.size + 2 := by rw [World.size_alloc, zu1]
  generalize u1.alloc (.cells #[.int .i64 1, .bool true, .int .u8 0, .int .i64 0, .int .u64 0, .string ⟨#[]⟩] 77) = u2 at *
  have yu3 := ext_alloc u2 (.cells #[.int .i64 2, .bool true, .int .u8 0, .int .i64 0, .int .u64 0, .string ⟨#[]⟩] 77)
  have rc2 : RdCh _ _ _ [chK 2] := Rd.new (enc := Ch.enc) (size := 6) Ch.enc_len u2 77 [chK 2] (cs := #[.int .i64 2, .bool true, .int .u8 0, .int .i64 0, .int .u64 0, .string ⟨#[]⟩]) rfl (b := v1.heap.size + 2) zu2.symm
  have zu3 : (u2.alloc (.cells #[.int .i64 2, .bool true, .int .u8 0, .int .i64 0, .int .u64 0, .string ⟨#[]⟩] 77)).heap.size = v1.heap.size + 3 := by rw [World.size_alloc, zu2]
  generalize u2.alloc (.cells #[.int .i64 2, .bool true, .int .u8 0, .int .i64 0, .int .u64 0, .string ⟨#[]⟩] 77) = u3 at *
  have yu4 := ext_alloc u3 (.cells #[.slice (some ⟨v1.heap.size + 1, 0, none⟩) 1 1, .slice (some ⟨v1.heap.size + 2, 0, none⟩) 1 1] 48)
  have rx : Rd CX.enc 1 _ _ _ (cx24 (v1.heap.size + 1) (v1.heap.size + 2)) := Rd.new (enc := CX.enc) (size := 1) (fun _ => rfl) u3 48 (cx24 (v1.heap.size + 1) (v1.heap.size + 2)) (cs := #[.slice (some ⟨v1.heap.size + 1, 0, none⟩) 1 1, .slice (some ⟨v1.heap.size + 2, 0, none⟩) 1 1]) rfl (b := v1.heap.size + 3) zu3.symm
  have zu4 : (u3.alloc (.cells #[.slice (some ⟨v1.heap.size + 1, 0, none⟩) 1 1, .slice (some ⟨v1.heap.size + 2, 0, none⟩) 1 1] 48)).heap.size = v1.heap.size + 4 := by rw [World.size_alloc, zu3]
  generalize u3.alloc (.cells #[.slice (some ⟨v1.heap.size + 1, 0, none⟩) 1 1, .slice (some ⟨v1.heap.size + 2, 0, none⟩) 1 1] 48) = u4 at *
  have r3 := ri.ext (ext_trans yu2 (ext_trans yu3 yu4))
  have rd1 := rc1.ext (ext_trans yu3 yu4)
  have rd2 := rc2.ext yu4
  have Y3 := Lib.hid (ext_trans Y2.out (ext_trans yu1 (ext_trans yu2 (ext_trans yu3 yu4))))
  refine (lines_any (some ⟨v1.heap.size, 0, none⟩) (some ⟨v1.heap.size + 3, 0, none⟩) 2 2 2 2 [3, 7] (cx24 (v1.heap.size + 1) (v1.heap.size + 2)) _ rfl r3 (by omega) (fun p hp => by
    rcases List.mem_cons.1 hp with rfl | hp
    · omega
    · rw [List.mem_singleton] at hp; omega) rfl rx (by omega) (fun z hz => by
    rcases List.mem_cons.1 hz with rfl | hz
    · exact ⟨rd1, (by show 1 ≤ 64; omega), okch 1⟩
    · rw [List.mem_singleton] at hz; subst hz
      exact ⟨rd2, (by show 1 ≤ 64; omega), okch 2⟩)).mono ?_
  rintro e w5 ⟨A5, c5, x5, rfl, h5, o5, y5⟩
  have L5 : x5.length = 4 := by
    have h := congrArg List.length h5
    rw [l24_made] at h
    unfold osOf at h
    rwa [List.length_map] at h
  have Y5 := Lib.hid (ext_trans Y3.out y5)
  rw [L5]
  clear h5 o5 y5 r3 rd1 rd2 rx ri rc1 rc2 L5
  go_wp2_with (fail)
  go_ret
  exact ⟨rfl, Y5.out⟩

def GreatOut (n : Nat) (l : List ClS) (lim : Int) (w : World) (e : Ending) (w' : World) : Prop :=
  ∃ b : Bool, e = .returned (.bool b) ∧ (b = false → (n : Int) ≤ lim ∧ ∀ x ∈ l, x.c.s.length ≤ 64) ∧ ∃ d, w' = w.drewN d
set_option maxRecDepth 100000 in
set_option maxHeartbeats 1600000 in
theorem great18_any (A : Option Addr) (n c : Nat) (l : List ClS) (lim : Int) (w : World) (hn : n = l.length) (h : RdCl w w.heap.size A l) (hb : n ≤ 140737488355328) (hs : ∀ x ∈ l, x.c.s.length ≤ 140737488355328) :
    Calls Tryz.prog 11 #[.slice A n c, .int .i64 lim] w (GreatOut n l lim w) := by
  have N := Lib.hid hn
  have HR := Lib.hid h
  have HS := Lib.hid hs
  clear hn h hs
  by_cases hl : lim < (n : Int)
  · go_enter Tryz.func11, Tryz.ntmps11
    go_wp2_with (fail)
    go_ret
    exact ⟨true, rfl, (by intro h; cases h), 0, rfl⟩
  have hle : (n : Int) ≤ lim := by omega
  go_enter Tryz.func11, Tryz.ntmps11
  go_wp2_with (fail)
  go_loopg [5, 6] n (fun g av iv wr => ∃ (m : Nat) (a : Int), m ≤ n ∧ g = n - m ∧ av = .int .i64 a ∧ iv = .int .i64 (m : Int) ∧ (∃ d, wr = w.drewN d) ∧ Hid (∀ x ∈ l.take m, x.c.s.length ≤ 64))
  case atStart => exact ⟨0, 0, by omega, rfl, rfl, rfl, ⟨0, rfl⟩, Lib.hid (by simp)⟩
  case round =>
    obtain ⟨m, a, hm, hg, rfl, rfl, ⟨d, rfl⟩, HI⟩ := hrel
    have HG := Lib.hid hg
    clear hg
    by_cases hlt : m < n
    · have hl1 : m < l.length := by have := N.out; omega
      obtain ⟨ad, o, had0, had, hd1, hx1, hc0⟩ := HR.out.1.el hl1
      subst had0
      have hmem := List.mem_of_getElem? hx1
      have g2 := HR.out.2 o hmem
      have hso := HS.out o hmem
      have HT : Hid (l.take (m + 1) = l.take m ++ [o]) := Lib.hid (by rw [List.take_add_one, hx1]; rfl)
      obtain ⟨⟨r, s⟩, As, cs⟩ := o
      simp only at g2 hso
      obtain ⟨r0, r1⟩ := cl_cells hc0
      obtain ⟨ns, hns⟩ : ∃ X, s.length = X := ⟨_, rfl⟩
      have NS := Lib.hid hns
      rw [hns] at r1 hso
      have hw2 : IntKind.i64.wrap ((m:Int) + 1) = (m : Int) + 1 := IntWalk.i64_in _ (by omega)
      clear hc0 hd1 hx1 hmem hns hl1
      by_cases h64 : (64 : Int) < (ns : Int)
      · go_wp2_with (fail)
        go_ret
        exact ⟨true, rfl, (by intro h; cases h), _, rfl⟩
      · have h64' : Hid (s.length ≤ 64) := Lib.hid (by rw [NS.out]; omega)
        go_wp2_with (fail)
        go_loopg [5, 7] ns (fun g av iv wi => ∃ (j : Nat) (b : Int), j ≤ ns ∧ g = ns - j ∧ av = .int .i64 b ∧ iv = .int .i64 (j : Int) ∧ ∃ d, wi = w.drewN d)
        case atStart => exact ⟨0, _, by omega, rfl, rfl, rfl, _, rfl⟩
        case round =>
          obtain ⟨j, b, hj, hg2, rfl, rfl, d2, rfl⟩ := hrel
          have HG2 := Lib.hid hg2
          clear hg2
          by_cases hls : j < ns
          · obtain ⟨ad2, z, e2, _, _, _, hz⟩ := g2.el (i := j) (by have := NS.out; omega)
            subst e2
            obtain ⟨z1, z2, z3, z4, z5⟩ := z
            obtain ⟨s0, s1, s2, s3, s4⟩ := at_cells hz
            have hw3 : IntKind.i64.wrap ((j:Int) + 1) = (j : Int) + 1 := IntWalk.i64_in _ (by omega)
            clear hz
            go_wp2_with (fail)
            go_roundg (ns - (j + 1))
            case measure => have := HG2.out; omega
            case rel => exact ⟨j + 1, _, by omega, rfl, rfl, by go_num, _, rfl⟩
          · go_wp2_with (fail)
            go_roundg (n - (m + 1))
            case measure => have := HG.out; omega
            case rel =>
              refine ⟨m + 1, _, by omega, rfl, rfl, by go_num, ⟨_, rfl⟩, Lib.hid ?_⟩
              intro y hy
              rw [HT.out] at hy
              rcases List.mem_append.1 hy with hy | hy
              · exact HI.out y hy
              · simp at hy; subst hy; exact h64'.out
    · have hmn : l.take m = l := List.take_of_length_le (by have := N.out; omega)
      have HI2 := HI.out
      rw [hmn] at HI2
      have H2 := Lib.hid HI2
      clear HI2 hmn
      go_wp2_with (fail)
      go_ret
      exact ⟨_, rfl, fun _ => ⟨hle, H2.out⟩, _, rfl⟩

theorem fits_up {l : List Ky} {x : List OpS} {n a b : Int} (h : fitsO l x n a = 0) (hab : a ≤ b) : fitsO l x n b = 0 := by
  obtain ⟨h1, h2, h3, h4, h5, h6, h7⟩ := fits_zero h
  exact zero_fits h1 h2 (by omega) h4 h5 h6 (by omega)
theorem applyN_up {l : List Ky} {x : List OpS} {d : List Cl} {a b : Int} (h : applyN l x d a = 0) (hab : a ≤ b) : applyN l x d b = 0 := by
  obtain ⟨h1, h2⟩ := applyN_zero h
  exact zero_applyN h1 (fits_up h2 hab)

theorem made_in {l : List Ky} {z : List OpS} {us : List Un} {d : List Cl} {N : Nat} (hz : osOf z = mkU us) (hb : z.length ≤ 1048576) (hd : mayD l d = 0) (hf : FitU l us d.length N) (hN : N ≤ 536870912) {most : Int} (hm : (N : Int) ≤ most) :
    applyN l z d most = 0 ∧ applyN l z d (N : Int) = 0 ∧ app l (units (osOf z)) d = app l us d := by
  obtain ⟨h1, h2⟩ := made_applyU hz hb (by omega) hd hf
  exact ⟨applyN_up h1 hm, h1, h2⟩

section
variable {K : IntKind} {size : Nat} {e e' : TypeId} {w w' : World} {base : Nat} {A : Option Addr} {n g : Nat} {cur : Array Value}
theorem Ow.other {α : Type} {enc : α → List Value} {l : List α} {v : Value} (h : Ow enc size e w base v l) (hg : w.heap[g]? = some (.cells cur e' (0, 0))) (he : e' ≠ e) (j : Nat) (u : Value) : Ow enc size e (w.setCell ⟨g, j, none⟩ u) base v l :=
  h.setCell (p := ⟨g, j, none⟩) (fun hw => by
    rcases h with ⟨rfl, A, rfl⟩ | ⟨_, ⟨rfl, _⟩ | ⟨g', cap, cur', rfl, _, hg', _⟩⟩
    · cases A <;> cases hw
    · cases hw
    · cases cap with
      | zero => cases hw
      | succ c =>
        injection hw with hw
        subst hw
        rw [hg] at hg'
        injection hg' with hg'
        injection hg' with _ hg' _
        exact he hg') u
end
open Go.RowKit
set_option linter.unusedVariables false
set_option linter.unusedSimpArgs false

theorem riseC_lt {l : List Ch} (h : riseC l = true) : ∀ {x y : Nat} {a b : Ch}, x < y → l[x]? = some a → l[y]? = some b → a.key < b.key := by
  induction l with
  | nil => intro x y a b _ h1; simp at h1
  | cons c l ih =>
    intro x y a b hxy h1 h2
    have ht : riseC l = true := rise_tail (a := c.key) (l := l.map Ch.key) h
    cases y with
    | zero => omega
    | succ y =>
      cases x with
      | zero =>
        simp at h1 h2
        subst h1
        exact rise_head (a := c.key) (l := l.map Ch.key) h _ (List.mem_map.2 ⟨b, List.mem_of_getElem? h2, rfl⟩)
      | succ x => exact ih ht (Nat.lt_of_succ_lt_succ hxy) (by rw [List.getElem?_cons_succ] at h1; exact h1) (by rw [List.getElem?_cons_succ] at h2; exact h2)

def BsInvC (l : List Ch) (key : Int) (i j : Nat) : Prop :=
  i ≤ j ∧ j ≤ l.length ∧ (riseC l = true → (∀ x a, x < i → l[x]? = some a → a.key < key) ∧ ∀ x a, j ≤ x → l[x]? = some a → key ≤ a.key)
def FindOutC (l : List Ch) (key : Int) (i : Nat) (b : Bool) : Prop :=
  i ≤ l.length ∧ (b = true ↔ ∃ a, l[i]? = some a ∧ a.key = key) ∧ (riseC l = true → (∀ x a, x < i → l[x]? = some a → a.key < key) ∧ ∀ x a, i ≤ x → l[x]? = some a → key ≤ a.key)
theorem BsInvC.start (l : List Ch) (key : Int) : BsInvC l key 0 l.length :=
  ⟨Nat.zero_le _, Nat.le_refl _, fun _ => ⟨fun x a h => by omega, fun x a h h1 => by rw [List.getElem?_eq_none h] at h1; cases h1⟩⟩
theorem BsInvC.up {l : List Ch} {key : Int} {i j h : Nat} {a : Ch} (v : BsInvC l key i j) (h2 : h < j) (ha : l[h]? = some a) (hk : a.key < key) : BsInvC l key (h + 1) j :=
  ⟨h2, v.2.1, fun r => ⟨fun x b hx hb => by
    rcases Nat.lt_or_ge x h with hlt | hge
    · have := riseC_lt r hlt hb ha; omega
    · have : x = h := by omega
      subst this
      rw [ha] at hb; injection hb with hb; subst hb; exact hk, (v.2.2 r).2⟩⟩
theorem BsInvC.down {l : List Ch} {key : Int} {i j h : Nat} {a : Ch} (v : BsInvC l key i j) (h1 : i ≤ h) (h2 : h < j) (ha : l[h]? = some a) (hk : ¬ a.key < key) : BsInvC l key i h :=
  ⟨h1, by have := v.2.1; omega, fun r => ⟨(v.2.2 r).1, fun x b hx hb => by
    rcases Nat.lt_or_ge h x with hlt | hge
    · have := riseC_lt r hlt ha hb; omega
    · have : x = h := by omega
      subst this
      rw [ha] at hb; injection hb with hb; subst hb; omega⟩⟩
theorem BsInvC.done {l : List Ch} {key : Int} {i j : Nat} {b : Bool} (v : BsInvC l key i j) (hij : ¬ i < j) (hb : b = true ↔ ∃ a, l[i]? = some a ∧ a.key = key) : FindOutC l key i b := by
  obtain ⟨h1, h2, h3⟩ := v
  have : i = j := by omega
  subst this
  exact ⟨h2, hb, h3⟩

set_option maxHeartbeats 400000 in
theorem atCmp_any (k : Int) (gn : Bool) (a n f key : Int) (s : ByteArray) (w : World) :
    Calls Tryz.prog 221 #[.agg #[.int .i64 k, .bool gn, .int .u8 a, .int .i64 n, .int .u64 f, .string s], .int .i64 key] w fun e w' => e = .returned (.int .i64 (cmpI k key)) ∧ Below w.heap.size w w' := by
  go_enter Tryz.func221, Tryz.ntmps221
  go_wp2_with (go_at_call 71; refine (compare_any _ _ _).mono ?_; rintro e w' ⟨rfl, rfl⟩)
  go_ret
  exact ⟨rfl, (Below.refl _ _).alloc (Nat.le_refl _) _⟩

set_option maxRecDepth 100000 in
set_option maxHeartbeats 400000 in
theorem bsearchC_any (A : Option Addr) (n c : Nat) (l : List Ch) (key : Int) (w : World) (hn : n = l.length) (h : RdCh w w.heap.size A l) (hb : n ≤ 140737488355328) :
    Calls Tryz.prog 220 #[.slice A n c, .int .i64 key, .func (.func 221) #[] #[]] w fun e w' =>
      ∃ (i : Nat) (b : Bool), e = .returned (.tuple #[.int .i64 (i : Int), .bool b]) ∧ FindOutC l key i b ∧ Below w.heap.size w w' := by
  have N := Lib.hid hn
  clear hn
  go_enter Tryz.func220, Tryz.ntmps220
  go_wp2_with (fail)
  go_loopg [9, 10] n (fun g iv jv wr => ∃ i j : Nat, g = j - i ∧ iv = .int .i64 (i : Int) ∧ jv = .int .i64 (j : Int) ∧ BsInvC l key i j ∧ Below w.heap.size w wr)
  case atStart => exact ⟨0, n, rfl, rfl, rfl, by rw [N.out]; exact BsInvC.start l key, Below.refl _ _⟩
  case round =>
    obtain ⟨i, j, hg, rfl, rfl, hinv, hbw⟩ := hrel
    have HG := Lib.hid hg
    clear hg
    have hij : i ≤ j := hinv.1
    have hjn : j ≤ n := by have := hinv.2.1; rw [N.out]; exact this
    by_cases hlt : i < j
    · have hm1 : i ≤ (i + j) / 2 := by omega
      have hm2 : (i + j) / 2 < j := by omega
      obtain ⟨ad, x, rfl, _, _, hx, hc1⟩ := (h.below hbw (Nat.le_refl _)).el (i := (i + j) / 2) (by have := N.out; omega)
      obtain ⟨x1, x6, x2, x3, x4, x5⟩ := x
      obtain ⟨r0, r1, r2, r3, r4, r5⟩ := ch_cells hc1
      have HX := Lib.hid hx
      clear hx hc1
      by_cases hk : x1 < key
      · have hcmp : cmpI x1 key = -1 := by simp [cmpI, hk]
        go_wp2_with (go_at_call 221; refine (atCmp_any _ _ _ _ _ _ _ _).mono ?_; rintro e w' ⟨rfl, hb'⟩)
        have hbw' := hbw.trans (hb'.mono hbw.size)
        go_roundg (j - ((i + j) / 2 + 1))
        case measure => have := HG.out; omega
        case rel => exact ⟨(i + j) / 2 + 1, j, rfl, by go_num, rfl, hinv.up hm2 HX.out hk, hbw'⟩
      · have hcmp : cmpI x1 key = 0 ∨ cmpI x1 key = 1 := by unfold cmpI; by_cases h2 : key < x1 <;> simp [hk, h2]
        have hcmp' : (decide (cmpI x1 key < 0)) = false := by rcases hcmp with h | h <;> simp [h]
        go_wp2_with (go_at_call 221; refine (atCmp_any _ _ _ _ _ _ _ _).mono ?_; rintro e w' ⟨rfl, hb'⟩)
        have hbw' := hbw.trans (hb'.mono hbw.size)
        go_roundg ((i + j) / 2 - i)
        case measure => have := HG.out; omega
        case rel => exact ⟨i, (i + j) / 2, rfl, rfl, by go_num, hinv.down hm1 hm2 HX.out (by show ¬ x1 < key; omega), hbw'⟩
    · by_cases hin : i < n
      · obtain ⟨ad, x, rfl, _, _, hx, hc1⟩ := (h.below hbw (Nat.le_refl _)).el (i := i) (by have := N.out; omega)
        obtain ⟨x1, x6, x2, x3, x4, x5⟩ := x
        obtain ⟨r0, r1, r2, r3, r4, r5⟩ := ch_cells hc1
        have HX := Lib.hid hx
        clear hx hc1
        by_cases hk : x1 = key
        · have hcmp : (cmpI x1 key == 0) = true := by simp [cmpI, hk]
          have HK := Lib.hid hk
          clear hk
          go_wp2_with (go_at_call 221; refine (atCmp_any _ _ _ _ _ _ _ _).mono ?_; rintro e w' ⟨rfl, hb'⟩)
          go_ret2
          exact ⟨i, true, rfl, hinv.done hlt (by simpa using ⟨_, HX.out, HK.out⟩), hbw.trans (hb'.mono hbw.size)⟩
        · have hcmp : (cmpI x1 key == 0) = false := by
            unfold cmpI
            by_cases h1 : x1 < key <;> by_cases h2 : key < x1 <;> simp [h1, h2]
            omega
          go_wp2_with (go_at_call 221; refine (atCmp_any _ _ _ _ _ _ _ _).mono ?_; rintro e w' ⟨rfl, hb'⟩)
          go_ret2
          exact ⟨i, false, rfl, hinv.done hlt (by simp [HX.out, hk]), hbw.trans (hb'.mono hbw.size)⟩
      · go_wp2_with (fail)
        go_ret2
        have hl : l[i]? = none := List.getElem?_eq_none (by have := N.out; omega)
        exact ⟨i, false, rfl, hinv.done hlt (by simp [hl]), hbw⟩

set_option maxHeartbeats 400000 in
theorem atC_any (A : Option Addr) (n c : Nat) (l : List Ch) (key : Int) (w : World) (hn : n = l.length) (h : RdCh w w.heap.size A l) (hb : n ≤ 140737488355328) :
    Calls Tryz.prog 190 #[.slice A n c, .int .i64 key] w fun e w' =>
      ∃ (i : Nat) (b : Bool), e = .returned (.tuple #[.int .i64 (i : Int), .bool b]) ∧ FindOutC l key i b ∧ Below w.heap.size w w' := by
  have N := Lib.hid hn
  clear hn
  go_enter Tryz.func190, Tryz.ntmps190
  go_wp2_with (go_at_call 220; refine (bsearchC_any A n c l key _ N.out h hb).mono ?_; rintro e w' ⟨i, b, rfl, hf, hb'⟩)
  go_ret2
  exact ⟨i, b, rfl, hf, hb'⟩

theorem Tryz.undInt' : Tryz.prog.underlying 3 = some (.int .i64) := by kernel_rfl
theorem take_app2 {α : Type} (A B R : List α) (n : Nat) (h : n = A.length + B.length) : (A ++ B ++ R).take n = A ++ B := by
  subst h
  rw [← List.length_append, List.take_left]

def Kept (o : Option Nat) (w w' : World) : Prop := ∀ j, j < w.heap.size → o ≠ some j → w'.heap[j]? = w.heap[j]?
def Kept2 (o : Option Nat) (w : World) (o' : Option Nat) (w' : World) : Prop := Kept o w w' ∧ ∀ k, o' = some k → o = some k ∨ w.heap.size ≤ k
def insC (l : List Ch) (i : Nat) (a : Ch) : List Ch := l.take i ++ a :: l.drop i
theorem insC_len (l : List Ch) (i : Nat) (a : Ch) (h : i ≤ l.length) : (insC l i a).length = l.length + 1 := by
  simp [insC]; omega
theorem insC_flat (l : List Ch) (i : Nat) (a : Ch) : (insC l i a).flatMap Ch.enc = (l.take i).flatMap Ch.enc ++ (a.enc ++ (l.drop i).flatMap Ch.enc) := by
  simp [insC, List.flatMap_append, List.flatMap_cons]

theorem insertC_end (A : Option Addr) (n c base gv : Nat) (l : List Ch) (x1 : Int) (x6 : Bool) (x2 x3 x4 : Int) (x5 : ByteArray) (w : World) (hown : OwCh w base (.slice A n c) l) (hn : n = l.length) (hb : n ≤ 100000000) (hbase : base ≤ w.heap.size)
    (hv : w.heap[gv]? = some (.cells #[.int .i64 x1, .bool x6, .int .u8 x2, .int .i64 x3, .int .u64 x4, .string x5] 77 (0, 0))) :
    Calls Tryz.prog 191 #[.slice A n c, .int .i64 (n : Int), .slice (some ⟨gv, 0, none⟩) 1 1] w fun e w' =>
      ∃ A' c', e = .returned (.slice A' (n + 1) c') ∧ OwCh w' base (.slice A' (n + 1) c') (insC l n ⟨x1, x6, ⟨x2, x3, x4, x5⟩⟩) ∧ Below base w w' ∧ Kept2 (wb (.slice A n c)) w (wb (.slice A' (n + 1) c')) w' := by
  have N := Lib.hid hn
  have hcap := hown.cap
  have hlc : n ≤ c := by rw [hn]; exact hcap.1
  have hcm : c ≤ 2 ^ 63 - 1 := hcap.2
  clear hn hcap
  have hrd : RdCh w w.heap.size (some ⟨gv, 0, none⟩) [⟨x1, x6, ⟨x2, x3, x4, x5⟩⟩] := by
    intro _
    refine ⟨_, rfl, blk_lt hv, fun i hi j u hu => ?_⟩
    have hi0 : i = 0 := by simpa using hi
    subst hi0
    rw [Nat.zero_mul, add_zero', add_row]
    simp only [World.cell?, hv]
    simpa [Ch.enc] using hu
  have hz : ((1 : Int) == 0) = false := rfl
  rcases Nat.lt_or_ge n c with hnc | hnc
  · have hne : ¬ c = n := by omega
    go_enter Tryz.func191, Tryz.ntmps191
    go_wp2_with (at_builtin; refine app_ch (m := [⟨x1, x6, ⟨x2, x3, x4, x5⟩⟩]) rfl (.tmp 23) (.tmp 24) rfl rfl (by exact hown) _ _ 1 1 rfl rfl (by exact hrd) (by have := N.out; simp only [List.length_singleton]; omega) hbase ?_; intro v' w' hown' hgr hv')
    have FR : ∀ k, wb v' = some k → wb (.slice A n c) = some k ∨ w.heap.size ≤ k := fun k hk => by
      rcases hv' with ⟨rfl, _⟩ | h' | h'
      · exact .inl hk
      · exact .inl (h'.symm.trans hk)
      · rw [h'] at hk; injection hk with hk; exact .inr (by omega)
    obtain ⟨A', c', hvv, _, _⟩ := hown'.form
    subst hvv
    have e : l ++ [⟨x1, x6, ⟨x2, x3, x4, x5⟩⟩] = insC l n ⟨x1, x6, ⟨x2, x3, x4, x5⟩⟩ := by
      rw [N.out]; simp [insC]
    have el : (l ++ [(⟨x1, x6, ⟨x2, x3, x4, x5⟩⟩ : Ch)]).length = n + 1 := by rw [N.out]; simp
    rw [el] at hown' FR ⊢
    rw [e] at hown'
    go_ret
    exact ⟨A', c', rfl, hown', (Below.refl _ _).grown hgr hbase (fun k hk => (hown.wb_lt k hk).1), fun j hj hne => hgr.block j hj (by first | exact hne | exact fun e => hne e.symm), FR⟩
  · have hce : c = n := by omega
    subst hce
    go_enter Tryz.func191, Tryz.ntmps191
    go_wp2_with (at_builtin; refine app_ch (m := [⟨x1, x6, ⟨x2, x3, x4, x5⟩⟩]) rfl (.tmp 23) (.tmp 24) rfl rfl (by exact hown) _ _ 1 1 rfl rfl (by exact hrd) (by have := N.out; simp only [List.length_singleton]; omega) hbase ?_; intro v' w' hown' hgr hv')
    have FR : ∀ k, wb v' = some k → wb (.slice A c c) = some k ∨ w.heap.size ≤ k := fun k hk => by
      rcases hv' with ⟨rfl, _⟩ | h' | h'
      · exact .inl hk
      · exact .inl (h'.symm.trans hk)
      · rw [h'] at hk; injection hk with hk; exact .inr (by omega)
    obtain ⟨A', c', hvv, _, _⟩ := hown'.form
    subst hvv
    have e : l ++ [⟨x1, x6, ⟨x2, x3, x4, x5⟩⟩] = insC l c ⟨x1, x6, ⟨x2, x3, x4, x5⟩⟩ := by
      rw [N.out]; simp [insC]
    have el : (l ++ [(⟨x1, x6, ⟨x2, x3, x4, x5⟩⟩ : Ch)]).length = c + 1 := by rw [N.out]; simp
    rw [el] at hown' FR ⊢
    rw [e] at hown'
    go_ret
    exact ⟨A', c', rfl, hown', (Below.refl _ _).grown hgr hbase (fun k hk => (hown.wb_lt k hk).1), fun j hj hne => hgr.block j hj (by first | exact hne | exact fun e => hne e.symm), FR⟩

set_option maxRecDepth 100000 in
set_option maxHeartbeats 1000000 in
theorem insertC_grow (A : Option Addr) (n c base gv i : Nat) (l : List Ch) (x1 : Int) (x6 : Bool) (x2 x3 x4 : Int) (x5 : ByteArray) (w : World) (hown : OwCh w base (.slice A n c) l) (hn : n = l.length) (hb : n ≤ 100000000) (hbase : base ≤ w.heap.size)
    (hv : w.heap[gv]? = some (.cells #[.int .i64 x1, .bool x6, .int .u8 x2, .int .i64 x3, .int .u64 x4, .string x5] 77 (0, 0))) (hi : i < n) (hc : c < n + 1) :
    Calls Tryz.prog 191 #[.slice A n c, .int .i64 (i : Int), .slice (some ⟨gv, 0, none⟩) 1 1] w fun e w' =>
      ∃ A' c', e = .returned (.slice A' (n + 1) c') ∧ OwCh w' base (.slice A' (n + 1) c') (insC l i ⟨x1, x6, ⟨x2, x3, x4, x5⟩⟩) ∧ Below base w w' ∧ Kept2 (wb (.slice A n c)) w (wb (.slice A' (n + 1) c')) w' := by
  have N := Lib.hid hn
  obtain ⟨g, cur, rfl, -, hbg, hg, hlc, hcm, hcur, htake⟩ := hown.row (by omega)
  obtain rfl : c = n := by omega
  obtain ⟨i0, hi0, hz0, hz1, hz2⟩ := info_parts Tryz.infoCh
  have hgl := blk_lt hg
  have hvl := blk_lt hv
  have hflat := flat_len Ch.enc_len l
  have hsrc : ∀ j u, (l.flatMap Ch.enc)[j]? = some u → w.cell? ⟨g, j, none⟩ = some u := by
    intro j u hu
    rw [← htake, List.getElem?_take] at hu
    split at hu
    · simp only [World.cell?, hg]; simpa using hu
    · cases hu
  obtain ⟨m, hm⟩ : ∃ m, m = c + 1 - i := ⟨_, rfl⟩
  have hrun := run_append_zeros_grow (P := Tryz.prog) w 48 3 48 77 i0 _ .i64 .i64 Tryz.slCh Tryz.undInt' hi0 hz0 ⟨g, 0, none⟩ i c m ((l.take i).flatMap Ch.enc) (by rw [flat_len Ch.enc_len, List.length_take, hz1]; congr 1; omega)
    (fun j u hu => by rw [add_row]; exact hsrc j u (by rw [← flat_take Ch.enc_len] at hu; rw [List.getElem?_take] at hu; split at hu; exact hu; cases hu)) (by omega) (by omega) (by omega) (by omega) (by omega)
  have him : i + m = c + 1 := by omega
  rw [him] at hrun
  have hge := grownCap_ge w (c + 1) c 77
  have hcm1 : grownCap w (c + 1) c 77 ≤ maxLen := grownCap_le_maxLen w (c + 1) c _ (by simp only [maxLen]; omega)
  generalize grownCap w (c + 1) c 77 = k1 at *
  have hzc : (Builtin.zeroCells (Ch.val ⟨0, false, V.zero⟩).cells m).size = m * 6 := size_zeroCells _ _
  have hzc2 : (Builtin.zeroCells (Ch.val ⟨0, false, V.zero⟩).cells (k1 - (c + 1))).size = (k1 - (c + 1)) * 6 := size_zeroCells _ _
  generalize Builtin.zeroCells (Ch.val ⟨0, false, V.zero⟩).cells m = Z1 at *
  generalize Builtin.zeroCells (Ch.val ⟨0, false, V.zero⟩).cells (k1 - (c + 1)) = Z2 at *
  have hT : ((l.take i).flatMap Ch.enc).length = i * 6 := by rw [flat_len Ch.enc_len, List.length_take]; congr 1; omega
  have hD : ((l.drop i).flatMap Ch.enc).length = (c - i) * 6 := by rw [flat_len Ch.enc_len, List.length_drop]; congr 1; omega
  obtain ⟨C1, hC1⟩ : ∃ C1, C1 = ((l.take i).flatMap Ch.enc).toArray ++ Z1 ++ Z2 := ⟨_, rfl⟩
  rw [← hC1] at hrun
  have hC1l : C1.toList = (l.take i).flatMap Ch.enc ++ (Z1.toList ++ Z2.toList) := by rw [hC1]; simp
  have hC1s : C1.size = k1 * 6 := by rw [← Array.length_toList, hC1l]; simp only [List.length_append, hT, Array.length_toList, hzc, hzc2]; omega
  obtain ⟨w1, hw1⟩ : ∃ w1, w1 = w.drew.alloc (.cells C1 77) := ⟨_, rfl⟩
  rw [← hw1] at hrun
  have hb1 : Below w.heap.size w w1 := by rw [hw1]; exact (Below.refl _ _).drew.alloc (Nat.le_refl _) _
  have hg1 : w1.heap[w.heap.size]? = some (.cells C1 77 (0, 0)) := by rw [hw1]; exact heap_alloc_new w.drew _
  have hgo : w1.heap[g]? = some (.cells cur 77 (0, 0)) := (hb1.block g hgl).trans hg
  have hvo := (hb1.block gv hvl).trans hv
  clear hw1 hC1
  -- the first copy
  have hmin1 : Nat.min 1 (c + 1 - i) = 1 := by simp only [Nat.min_def]; split <;> omega
  have hcp1 := run_copy_onto (P := Tryz.prog) w1 48 48 3 77 i0 6 Tryz.slCh hi0 hz1 w.heap.size (i * 6) (c + 1 - i) (k1 - i) ⟨gv, 0, none⟩ 1 1 C1 _ (Ch.enc ⟨x1, x6, ⟨x2, x3, x4, x5⟩⟩) hg1 (by rw [hmin1]; rfl)
    (fun j u hu => by rw [add_row]; simp only [World.cell?, hvo]; simpa [Ch.enc] using hu) (by rw [hC1s, Ch.enc_len]; omega) (Ch.enc_one _)
  have hne1 : ¬ c = i := by omega
  have hne2 : ¬ k1 = i := by omega
  have hmi : (c : Int) + 1 - (i : Int) = (m : Int) := by omega
  have hcp1' : ∃ w2 C2, (Builtin.copy_ #[48, 48] 3 #[.slice (some ⟨w.heap.size, i * 6, none⟩) (c + 1 - i) (k1 - i), .slice (some ⟨gv, 0, none⟩) 1 1]).run Tryz.prog w1 = .ok (goInt 1) w2 ∧
      w2.heap[w.heap.size]? = some (.cells C2 77 (0, 0)) ∧ Below w.heap.size w1 w2 ∧ C2.size = k1 * 6 ∧ C2.toList.take ((i + 1) * 6) = (l.take i).flatMap Ch.enc ++ Ch.enc ⟨x1, x6, ⟨x2, x3, x4, x5⟩⟩ := by
    rw [hmin1] at hcp1
    refine ⟨_, _, hcp1, setRow_heap w1 _ C1 _ _ _ hg1, below_setRow (Below.refl _ _) (Nat.le_refl _) _, ?_, ?_⟩
    · simp only [List.size_toArray, List.length_append, List.length_take, List.length_drop, Array.length_toList, Ch.enc_len, hC1s]
      omega
    · have e1 : C1.toList.take (i * 6) = (l.take i).flatMap Ch.enc := by rw [hC1l, ← hT, List.take_left]
      rw [e1, take_app2 _ _ _ _ (by rw [hT, Ch.enc_len]; omega)]
  obtain ⟨w2, C2, hr2, hg2, hb2, hs2, ht2⟩ := hcp1'
  have hgo2 : w2.heap[g]? = some (.cells cur 77 (0, 0)) := (hb2.block g hgl).trans hgo
  have hmin2 : Nat.min (c - i) (c + 1 - (i + 1)) = c - i := by simp only [Nat.min_def]; split <;> omega
  have hcp2 := run_copy_onto (P := Tryz.prog) w2.drew 48 48 3 77 i0 6 Tryz.slCh hi0 hz1 w.heap.size ((i + 1) * 6) (c + 1 - (i + 1)) (k1 - (i + 1)) ⟨g, i * 6, none⟩ (c - i) (c - i) C2 _ ((l.drop i).flatMap Ch.enc) hg2 (by rw [hmin2]; exact hD)
    (fun j u hu => by
      rw [← flat_drop Ch.enc_len, List.getElem?_drop] at hu
      have hu' := hu
      rw [← htake, List.getElem?_take] at hu'
      split at hu'
      · simp only [Addr.add]
        split
        · rename_i h0; rw [h0, Nat.add_zero] at hu'
          simp only [World.cell?]
          rw [show w2.drew.heap[g]? = _ from hgo2]; simpa using hu'
        · simp only [World.cell?]
          rw [show w2.drew.heap[g]? = _ from hgo2]; simpa using hu'
      · cases hu') (by rw [hD, hs2]; omega) (fun u hu => by obtain ⟨y, _, hy⟩ := List.mem_flatMap.1 hu; exact Ch.enc_one y u hy)
  have hcp2' : ∃ w3 C3, (Builtin.copy_ #[48, 48] 3 #[.slice (some ⟨w.heap.size, (i + 1) * 6, none⟩) (c + 1 - (i + 1)) (k1 - (i + 1)), .slice (some ⟨g, i * 6, none⟩) (c - i) (c - i)]).run Tryz.prog w2.drew = .ok (goInt ((c - i : Nat) : Int)) w3 ∧
      w3.heap[w.heap.size]? = some (.cells C3 77 (0, 0)) ∧ Below w.heap.size w2 w3 ∧ C3.size = k1 * 6 ∧ C3.toList.take ((c + 1) * 6) = (insC l i ⟨x1, x6, ⟨x2, x3, x4, x5⟩⟩).flatMap Ch.enc := by
    rw [hmin2] at hcp2
    refine ⟨_, _, hcp2, setRow_heap w2.drew _ C2 _ _ _ hg2, below_setRow (Below.refl _ _).drew (Nat.le_refl _) _, ?_, ?_⟩
    · simp only [List.size_toArray, List.length_append, List.length_take, List.length_drop, Array.length_toList, hD, hs2]
      omega
    · rw [ht2, insC_flat]
      rw [take_app2 _ _ _ _ (by rw [List.length_append, hT, hD, Ch.enc_len]; omega), List.append_assoc]
  obtain ⟨w3, C3, hr3, hg3, hb3, hs3, ht3⟩ := hcp2'
  have H1 := Lib.hid hrun
  have H2 := Lib.hid hr2
  have H3 := Lib.hid hr3
  have HG3 := Lib.hid hg3
  have HT3 := Lib.hid ht3
  have HS3 := Lib.hid hs3
  have HGE := Lib.hid hge
  have hicf : ((i : Int) == (c : Int)) = false := beq_eq_false_iff_ne.2 (by omega)
  have hwi : IntKind.i64.wrap ((i : Int) + 1) = (i : Int) + 1 := IntWalk.i64_in _ (by simp only [maxLen] at hcm; omega)
  have hti : ((i : Int) + 1).toNat = i + 1 := by omega
  have hpi : (0 : Int) ≤ (i : Int) + 1 := by omega
  have hne3 : ¬ k1 = i + 1 := by omega
  have hic1 : i + 1 ≤ c + 1 := by omega
  have hic2 : i ≤ c := by omega
  have hic3 : i < c + 1 := by omega
  have hcm' : c ≤ 2 ^ 63 - 1 := hcm
  have hkm' : k1 ≤ 2 ^ 63 - 1 := hcm1
  clear hrun hcp1 hcp2 hr2 hr3 hm htake hflat hsrc hn hg3 ht3 hs3 hmin1 hmin2 hT hD hC1l hC1s hzc hzc2 hge hcm hcm1 him hlc hcur ht2 hs2 hg2 hgo2 hg1 hgo hvo hg hv
  go_enter Tryz.func191, Tryz.ntmps191
  go_wp2_with (first
    | (at_builtin; refine Lib.wpList_append_run _ rfl (.tmp 34) (.tmp 39) _ _ rfl _ _ rfl rfl _ _ H1.out ?_)
    | (refine wpList_copy_run rfl (.tmp 43) (.tmp 44) _ _ rfl _ _ rfl rfl _ _ H2.out ?_))
  go_region_law (refine step_copy_run rfl (.tmp 50) (.tmp 53) _ _ rfl _ _ (by simp [Act.eval, Act.put]) (by simp [Act.eval, Act.put]) _ _ H3.out ?_)
  all_goals go_wp2_with (fail)
  all_goals
    go_ret
    have e : c + 1 = (insC l i ⟨x1, x6, ⟨x2, x3, x4, x5⟩⟩).length := by rw [insC_len _ _ _ (by rw [← N.out]; omega), N.out]
    refine ⟨some ⟨w.heap.size, 0, none⟩, k1, rfl, ?_, ((hb1.trans hb2).trans hb3).mono hbase, fun j hj _ => ((hb1.trans hb2).trans hb3).block j hj, fun k hk => .inr (by cases k1 with
      | zero => simp [wb] at hk
      | succ k1 => simp [wb] at hk; omega)⟩
    refine .inr ⟨flat_len Ch.enc_len _, .inr ⟨w.heap.size, k1, C3, by rw [e], hbase, HG3.out, by rw [← e]; exact HGE.out, hkm', HS3.out, by rw [← e]; exact HT3.out⟩⟩

set_option maxRecDepth 100000 in
set_option maxHeartbeats 1000000 in
theorem insertC_room (A : Option Addr) (n c base gv i : Nat) (l : List Ch) (x1 : Int) (x6 : Bool) (x2 x3 x4 : Int) (x5 : ByteArray) (w : World) (hown : OwCh w base (.slice A n c) l) (hn : n = l.length) (hb : n ≤ 100000000) (hbase : base ≤ w.heap.size)
    (hv : w.heap[gv]? = some (.cells #[.int .i64 x1, .bool x6, .int .u8 x2, .int .i64 x3, .int .u64 x4, .string x5] 77 (0, 0))) (hi : i < n) (hc : n + 1 ≤ c) (hne : wb (.slice A n c) ≠ some gv) :
    Calls Tryz.prog 191 #[.slice A n c, .int .i64 (i : Int), .slice (some ⟨gv, 0, none⟩) 1 1] w fun e w' =>
      ∃ A' c', e = .returned (.slice A' (n + 1) c') ∧ OwCh w' base (.slice A' (n + 1) c') (insC l i ⟨x1, x6, ⟨x2, x3, x4, x5⟩⟩) ∧ Below base w w' ∧ Kept2 (wb (.slice A n c)) w (wb (.slice A' (n + 1) c')) w' := by
  have N := Lib.hid hn
  obtain ⟨g, cur, rfl, -, hbg, hg, hlc, hcm, hcur, htake⟩ := hown.row (by omega)
  obtain ⟨i0, hi0, hz0, hz1, hz2⟩ := info_parts Tryz.infoCh
  have hgl := blk_lt hg
  have hvl := blk_lt hv
  have hgv : gv ≠ g := by
    intro e
    subst e
    cases c with
    | zero => omega
    | succ c => exact hne rfl
  have hT : ((l.take i).flatMap Ch.enc).length = i * 6 := by rw [flat_len Ch.enc_len, List.length_take]; congr 1; omega
  have hD : ((l.drop i).flatMap Ch.enc).length = (n - i) * 6 := by rw [flat_len Ch.enc_len, List.length_drop]; congr 1; omega
  have hz : ∀ w, (sizeOf 77).run Tryz.prog w = .ok 6 w := fun w => by simp [sizeOf, typeInfo, hi0, hz1]
  have hov : ∀ W lb cb, W.heap[g]? = some (.cells cur 77 (0, 0)) → W.heap[gv]? = some (.cells #[.int .i64 x1, .bool x6, .int .u8 x2, .int .i64 x3, .int .u64 x4, .string x5] 77 (0, 0)) →
      (callFunc 222 #[.slice (some ⟨gv, 0, none⟩) 1 1, .slice (some ⟨g, (i + 1) * 6, none⟩) lb cb]).run Tryz.prog W = .ok (.value (.bool false)) W := fun W lb cb hWg hWv => by
    rw [run_callFunc_extern Tryz.func222 (by kernel_rfl) (by kernel_rfl) (by kernel_rfl) (e := Extern.SlicesOverlaps.overlaps #[48, 48] #[4]) (by kernel_rfl),
      Lib.run_overlaps_apart W 48 4 77 Tryz.slCh 6 hz ⟨gv, 0, none⟩ ⟨g, (i + 1) * 6, none⟩ 1 1 lb cb hgv 77 77 6 (c * 6) (by simp [World.shape?, hWv]) (by simp [World.shape?, hWg, hcur]) (by omega) (by simp [World.frozen?, hWv]) (by simp [World.frozen?, hWv])]
    rfl
  have hmin1 : Nat.min (n + 1 - i) (n + 1 - (i + 1)) = n - i := by simp only [Nat.min_def]; split <;> omega
  have hmin2 : Nat.min 1 (n + 1 - i) = 1 := by simp only [Nat.min_def]; split <;> omega
  have hcp1 := run_copy_onto (P := Tryz.prog) w.drew 48 48 3 77 i0 6 Tryz.slCh hi0 hz1 g ((i + 1) * 6) (n + 1 - (i + 1)) (c - (i + 1)) ⟨g, i * 6, none⟩ (n + 1 - i) (c - i) cur _ ((l.drop i).flatMap Ch.enc) hg (by rw [hmin1]; exact hD)
    (fun j u hu => by
      rw [← flat_drop Ch.enc_len, List.getElem?_drop] at hu
      have hu' := hu
      rw [← htake, List.getElem?_take] at hu'
      split at hu'
      · simp only [Addr.add]
        split
        · rename_i h0; rw [h0, Nat.add_zero] at hu'
          simp only [World.cell?]
          rw [show w.drew.heap[g]? = _ from hg]; simpa using hu'
        · simp only [World.cell?]
          rw [show w.drew.heap[g]? = _ from hg]; simpa using hu'
      · cases hu') (by rw [hD, hcur]; omega) (fun u hu => by obtain ⟨y, _, hy⟩ := List.mem_flatMap.1 hu; exact Ch.enc_one y u hy)
  have hTc : cur.toList.take (i * 6) = (l.take i).flatMap Ch.enc := by rw [← flat_take Ch.enc_len, ← htake, List.take_take, Nat.min_eq_left (by omega)]
  have hcp1' : ∃ w2 C2, (Builtin.copy_ #[48, 48] 3 #[.slice (some ⟨g, (i + 1) * 6, none⟩) (n + 1 - (i + 1)) (c - (i + 1)), .slice (some ⟨g, i * 6, none⟩) (n + 1 - i) (c - i)]).run Tryz.prog w.drew = .ok (goInt ((n - i : Nat) : Int)) w2 ∧
      w2.heap[g]? = some (.cells C2 77 (0, 0)) ∧ Below base w w2 ∧ (∀ j, j ≠ g → w2.heap[j]? = w.heap[j]?) ∧ C2.size = c * 6 ∧ C2.toList.take (i * 6) = (l.take i).flatMap Ch.enc ∧ (C2.toList.drop ((i + 1) * 6)).take ((n - i) * 6) = (l.drop i).flatMap Ch.enc := by
    rw [hmin1] at hcp1
    refine ⟨_, _, hcp1, setRow_heap w.drew _ cur _ _ _ hg, below_setRow (Below.refl _ _).drew hbg _, (fun j hj => setRow_other w.drew g j _ hj), ?_, ?_, ?_⟩
    · simp only [List.size_toArray, List.length_append, List.length_take, List.length_drop, Array.length_toList, hD, hcur]
      omega
    · have hlt : (cur.toList.take ((i + 1) * 6)).length = (i + 1) * 6 := by rw [List.length_take, Array.length_toList, hcur]; omega
      simp only [List.append_assoc]
      rw [List.take_append, hlt, List.take_take, Nat.min_eq_left (by omega), hTc, Nat.sub_eq_zero_of_le (by omega), List.take_zero, List.append_nil]
    · have hlt : (cur.toList.take ((i + 1) * 6)).length = (i + 1) * 6 := by rw [List.length_take, Array.length_toList, hcur]; omega
      simp only [List.append_assoc]
      rw [List.drop_append, hlt, Nat.sub_self, List.drop_zero, List.drop_of_length_le (by omega), List.nil_append, ← hD, List.take_left]
  obtain ⟨w2, C2, hr2, hg2, hb2, hvk, hs2, ht2, hd2⟩ := hcp1'
  have hv2 := (hvk gv hgv).trans hv
  have hcp2 := run_copy_onto (P := Tryz.prog) w2 48 48 3 77 i0 6 Tryz.slCh hi0 hz1 g (i * 6) (n + 1 - i) (c - i) ⟨gv, 0, none⟩ 1 1 C2 _ (Ch.enc ⟨x1, x6, ⟨x2, x3, x4, x5⟩⟩) hg2 (by rw [hmin2]; rfl)
    (fun j u hu => by rw [add_row]; simp only [World.cell?, hv2]; simpa [Ch.enc] using hu) (by rw [hs2, Ch.enc_len]; omega) (Ch.enc_one _)
  have hcp2' : ∃ w3 C3, (Builtin.copy_ #[48, 48] 3 #[.slice (some ⟨g, i * 6, none⟩) (n + 1 - i) (c - i), .slice (some ⟨gv, 0, none⟩) 1 1]).run Tryz.prog w2 = .ok (goInt 1) w3 ∧
      w3.heap[g]? = some (.cells C3 77 (0, 0)) ∧ Below base w2 w3 ∧ (∀ j, j ≠ g → w3.heap[j]? = w2.heap[j]?) ∧ C3.size = c * 6 ∧ C3.toList.take ((n + 1) * 6) = (insC l i ⟨x1, x6, ⟨x2, x3, x4, x5⟩⟩).flatMap Ch.enc := by
    rw [hmin2] at hcp2
    refine ⟨_, _, hcp2, setRow_heap w2 _ C2 _ _ _ hg2, below_setRow (Below.refl _ _) hbg _, (fun j hj => setRow_other w2 g j _ hj), ?_, ?_⟩
    · simp only [List.size_toArray, List.length_append, List.length_take, List.length_drop, Array.length_toList, Ch.enc_len, hs2]
      omega
    · rw [ht2, insC_flat, List.take_append, List.take_of_length_le (by rw [List.length_append, hT, Ch.enc_len]; omega), List.length_append, hT, Ch.enc_len]
      have e1 : (n + 1) * 6 - (i * 6 + 6) = (n - i) * 6 := by omega
      have e2 : i * 6 + 6 = (i + 1) * 6 := by omega
      rw [e1, e2, hd2, List.append_assoc]
  obtain ⟨w3, C3, hr3, hg3, hb3, hvk3, hs3, ht3⟩ := hcp2'
  have KP : Hid (Kept (wb (.slice (some ⟨g, 0, none⟩) n c)) w w3) := Lib.hid (fun j _ hj => by
    have hjg : j ≠ g := by
      intro e
      subst e
      cases c with
      | zero => omega
      | succ c => exact hj rfl
    rw [hvk3 j hjg, hvk j hjg])
  have HOV := Lib.hid (hov w)
  have hov' : ∀ lb cb, (callFunc 222 #[.slice (some ⟨gv, 0, none⟩) 1 1, .slice (some ⟨g, (i + 1) * 6, none⟩) lb cb]).run Tryz.prog w = .ok (.value (.bool false)) w := fun lb cb => hov w lb cb hg hv
  have H2 := Lib.hid hr2
  have H3 := Lib.hid hr3
  have HG3 := Lib.hid hg3
  have HT3 := Lib.hid ht3
  have HS3 := Lib.hid hs3
  have hicf : ((i : Int) == (n : Int)) = false := beq_eq_false_iff_ne.2 (by omega)
  have hcm' : c ≤ 2 ^ 63 - 1 := hcm
  have hwi : IntKind.i64.wrap ((i : Int) + 1) = (i : Int) + 1 := IntWalk.i64_in _ (by simp only [maxLen] at hcm; omega)
  have hti : ((i : Int) + 1).toNat = i + 1 := by omega
  have hpi : (0 : Int) ≤ (i : Int) + 1 := by omega
  have hne1 : ¬ c = i := by omega
  have hne3 : ¬ c = i + 1 := by omega
  have hic2 : i ≤ n := by omega
  have hic3 : i < n + 1 := by omega
  have hic1 : i + 1 ≤ n + 1 := by omega
  have hge : ¬ ((c : Int) < (n : Int) + 1) := by omega
  have hin1 : (i : Int) ≤ (n : Int) + 1 := by omega
  clear hcp1 hcp2 hr2 hr3 htake hn hg3 ht3 hs3 hmin1 hmin2 hT hD hcm hlc hcur ht2 hs2 hg2 hd2 hvk hvk3 hv2 hg hv hov hz hne hTc
  go_enter Tryz.func191, Tryz.ntmps191
  go_wp2_with (simp only [hov'])
  go_region_law (refine step_copy_run rfl (.tmp 73) (.tmp 76) _ _ rfl _ _ (by simp [Act.eval, Act.put]) (by simp [Act.eval, Act.put]) _ _ H2.out ?_)
  all_goals go_wp2_with (refine wpList_copy_run rfl (.tmp 80) (.tmp 81) _ _ rfl _ _ rfl rfl _ _ H3.out ?_)
  all_goals
    go_ret
    have e : n + 1 = (insC l i ⟨x1, x6, ⟨x2, x3, x4, x5⟩⟩).length := by rw [insC_len _ _ _ (by rw [← N.out]; omega), N.out]
    refine ⟨some ⟨g, 0, none⟩, c, rfl, ?_, hb2.trans hb3, KP.out, fun k hk => .inl (by cases c with
      | zero => simp [wb] at hk
      | succ c => simpa [wb] using hk)⟩
    refine .inr ⟨flat_len Ch.enc_len _, .inr ⟨g, c, C3, by rw [e], hbg, HG3.out, by rw [← e]; exact hc, hcm', HS3.out, by rw [← e]; exact HT3.out⟩⟩
theorem insertC_any (A : Option Addr) (n c base gv i : Nat) (l : List Ch) (x1 : Int) (x6 : Bool) (x2 x3 x4 : Int) (x5 : ByteArray) (w : World) (hown : OwCh w base (.slice A n c) l) (hn : n = l.length) (hb : n ≤ 100000000) (hbase : base ≤ w.heap.size)
    (hv : w.heap[gv]? = some (.cells #[.int .i64 x1, .bool x6, .int .u8 x2, .int .i64 x3, .int .u64 x4, .string x5] 77 (0, 0))) (hi : i ≤ n) (hne : wb (.slice A n c) ≠ some gv) :
    Calls Tryz.prog 191 #[.slice A n c, .int .i64 (i : Int), .slice (some ⟨gv, 0, none⟩) 1 1] w fun e w' =>
      ∃ A' c', e = .returned (.slice A' (n + 1) c') ∧ OwCh w' base (.slice A' (n + 1) c') (insC l i ⟨x1, x6, ⟨x2, x3, x4, x5⟩⟩) ∧ Below base w w' ∧ Kept2 (wb (.slice A n c)) w (wb (.slice A' (n + 1) c')) w' := by
  rcases Nat.eq_or_lt_of_le hi with rfl | hlt
  · exact insertC_end A i c base gv l x1 x6 x2 x3 x4 x5 w hown hn hb hbase hv
  · rcases Nat.lt_or_ge c (n + 1) with h | h
    · exact insertC_grow A n c base gv i l x1 x6 x2 x3 x4 x5 w hown hn hb hbase hv hlt h
    · exact insertC_room A n c base gv i l x1 x6 x2 x3 x4 x5 w hown hn hb hbase hv hlt h hne

end Go.Proofs.YtfnkjcodcoehcaaGreatDoor
