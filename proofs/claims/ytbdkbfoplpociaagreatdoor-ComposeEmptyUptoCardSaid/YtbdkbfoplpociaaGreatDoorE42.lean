/- Merged texts: ComposeEmpty, Shut, VaShut. -/
import Derived.Test.YtbdkbfoplpociaaGreatDoorE26
import Derived.Test.YtbdkbfoplpociaaGreatDoorE35
import Derived.Test.YtbdkbfoplpociaaGreatDoorE27
import Derived.Test.YtbdkbfoplpociaaGreatDoorE34
import Derived.Test.YtbdkbfoplpociaaGreatDoorE37
import Derived.Test.YtbdkbfoplpociaaGreatDoorE41
import Derived.Test.YtbdkbfoplpociaaGreatDoorE36
import Derived.Test.YtbdkbfoplpociaaGreatDoorCards
import Derived.Test.YtbdkbfoplpociaaGreatDoorTie
import Derived.ProofKit
import Derived.Deep.Slices
import Derived.JoinedCond
import Derived.OpenShut
import Derived.Deep.DeepHandedRow
import Derived.Lib.LaidTab
import Derived.Test.YtbdkbfoplpociaaGreatDoorE7
import Derived.Test.YtbdkbfoplpociaaGreatDoorE9
namespace Go.Proofs.YtbdkbfoplpociaaGreatDoor
open Go.RowKit
set_option linter.unusedVariables false
set_option linter.unusedSimpArgs false

set_option maxRecDepth 100000 in
set_option maxHeartbeats 12800000 in
theorem composeEmpty_any (A0 A1 : Option Addr) (n0 n1 c0 c1 : Nat) (l0 : List Ky) (l1 : List OpS) (w : World)
    (e0 : n0 = l0.length) (r0 : RdKy w w.heap.size A0 l0) (b0 : n0 ≤ 1048576)
    (e1 : n1 = l1.length) (r1 : RdOp w w.heap.size A1 l1) (b1 : n1 ≤ 1048576) (k1 : n1 ≤ c1) (m1 : c1 ≤ maxLen) (q1 : ∀ o ∈ l1, okOp o.o) (z1 : szX l1 ≤ 2305850000000000000) (f1 : ∀ o ∈ l1, capO o)
    (hT : Lib.Utf8Tabs 1 2 w) :
    Calls Tryz.prog 3 #[.slice A0 n0 c0, .slice A1 n1 c1] w fun e w' => e = .returned (.bool true) ∧ Below w.heap.size w w' := by
  have N0 := Lib.hid e0
  have R0 := Lib.hid r0
  have HT := Lib.hid hT
  have hx := Below.refl w.heap.size w
  have N1 := Lib.hid e1
  have R1 := Lib.hid r1
  have Q1 := Lib.hid q1
  have Z1 := Lib.hid z1
  have F1 := Lib.hid f1
  clear e0 r0 hT e1 r1 q1 z1 f1
  go_enter Tryz.func3, Tryz.ntmps3
  have ra : Rd SX.enc 1 _ _ _ [⟨A1, c1, l1⟩] := Rd.new (enc := SX.enc) (size := 1) (fun _ => rfl) w 23 [⟨A1, c1, l1⟩] (cs := #[.slice A1 n1 c1]) (by simp [SX.enc, ← N1.out]) rfl
  have y := ext_alloc w (.cells #[.slice A1 n1 c1] 23)
  have R0 := Lib.hid (R0.out.ext y)
  have HT := Lib.hid (Utf8Tabs_below HT.out y)
  have R1 := Lib.hid (R1.out.ext y)
  replace hx := ext_trans hx y
  clear y
  go_wp2_with (go_at_call 21; refine Hid.out ?_)
  refine Lib.hid ?_
  refine (great20_any A0 (some ⟨w.heap.size, 0, none⟩) n0 c0 1 1 [⟨A1, c1, l1⟩] _ rfl ra (by omega) (by omega) (fun x hx => by
    simp only [List.mem_cons, List.not_mem_nil, or_false] at hx
    subst hx
    exact ⟨R1.out, by have := N1.out; simp only; omega⟩) (by simp only [sumX, List.map_cons, List.map_nil, List.sum_cons, List.sum_nil]; have := Z1.out; omega) (fun x hx => by
    simp only [List.mem_cons, List.not_mem_nil, or_false] at hx
    subst hx
    have := Z1.out; simp only; omega)).mono ?_
  rintro e wn ⟨gb, rfl, h1, dr, hd⟩
  have y := drew_ext hd
  clear hd ra
  have R0 := Lib.hid (R0.out.ext y)
  have HT := Lib.hid (Utf8Tabs_below HT.out y)
  have R1 := Lib.hid (R1.out.ext y)
  replace hx := ext_trans hx y
  clear y
  cases gb
  case true =>
    clear h1
    go_wp2_with (go_at_call 23; refine Hid.out ?_)
    refine Lib.hid ?_
    refine (known20_any _ HT.out).mono ?_
    rintro e w2 ⟨rfl, y⟩
    replace hx := ext_trans hx y
    go_wp2_with (fail)
    go_ret
    exact ⟨rfl, hx⟩
  have h2 := h1 rfl
  have G0 := Lib.hid h2.1
  have SZ : Hid (szX l1 ≤ 5000) := Lib.hid (by have h3 := h2.2; simp only [sumX, List.map_cons, List.map_nil, List.sum_cons, List.sum_nil] at h3; omega)
  clear h1 h2
  have LX1 : Hid (l1.length ≤ 5000) := Lib.hid (by have := szX_len l1; have := SZ.out; omega)
  have O1 : Hid (OpsC _ A1 n1 c1 l1) := Lib.hid ⟨⟨R1.out, N1.out, Q1.out, by have := LX1.out; have := N1.out; omega⟩, k1, m1, F1.out⟩
  obtain ⟨m, hm⟩ : ∃ X, mayO l0 l1 = X := ⟨_, rfl⟩
  have HM := Lib.hid hm
  clear hm
  go_wp2_with (go_at_call 22; refine Hid.out ?_)
  refine Lib.hid ?_
  refine (mayKeysD N0.out R0.out (by omega) O1.out.at_ (by have := SZ.out; omega) HT.out HM.out).mono ?_
  rintro e wn ⟨rfl, y⟩
  have R0 := Lib.hid (R0.out.ext y)
  have HT := Lib.hid (Utf8Tabs_below HT.out y)
  have O1 := Lib.hid (O1.out.ext y)
  replace hx := ext_trans hx y
  clear y
  by_cases h0 : m = 0
  rotate_left
  · skip
    have h0' : (m == 0) = false := beq_eq_false_iff_ne.2 h0
    have h0'' : (m != 0) = true := by rw [bne, h0']; rfl
    clear h0 HM
    go_wp2_with (go_at_call 23; refine Hid.out ?_)
    refine Lib.hid ?_
    refine (known20_any _ HT.out).mono ?_
    rintro e w2 ⟨rfl, y⟩
    replace hx := ext_trans hx y
    go_wp2_with (fail)
    go_ret
    exact ⟨rfl, hx⟩
  subst h0
  go_wp2_with (go_at_call 24; refine Hid.out ?_)
  refine Lib.hid ?_
  refine (new_any A0 n0 c0 l0 _ N0.out R0.out (by omega)).mono ?_
  rintro e wn ⟨y, ⟨hm, s, rfl, hS⟩ | ⟨hm, rfl⟩⟩
  all_goals
    have R0 := Lib.hid (R0.out.ext y)
    have HT := Lib.hid (Utf8Tabs_below HT.out y)
    have O1 := Lib.hid (O1.out.ext y)
    replace hx := ext_trans hx y
    clear y hm
  rotate_left
  · skip
    go_wp2_with (go_at_call 23; refine Hid.out ?_)
    refine Lib.hid ?_
    refine (known20_any _ HT.out).mono ?_
    rintro e w2 ⟨rfl, y⟩
    replace hx := ext_trans hx y
    go_wp2_with (fail)
    go_ret
    exact ⟨rfl, hx⟩
  have HS := Lib.hid hS
  clear hS
  have H64 : Hid (l0.length ≤ 64) := Lib.hid (by have := N0.out; have := G0.out; omega)
  have M0 : Hid (mayO l0 [] = 0) := Lib.hid rfl
  have MU : Hid (∀ u ∈ units (osOf l1), mU l0 u) := Lib.hid (good_mU (mayO_zero HM.out).1)
  have TM : Hid (takesU (units (osOf l1)) ≤ 536870912 ∧ makesU (units (osOf l1)) ≤ 536870912) := Lib.hid (by
    obtain ⟨g, t, m⟩ := mayO_zero HM.out
    obtain ⟨s1, s2⟩ := sums_units l1 (good_isOp g)
    rw [takes_sum g (by have := LX1.out; omega)] at t
    rw [makes_sum g (by have := LX1.out; omega)] at m
    omega)
  have CE1 : Hid (compU l0 (units (osOf [])) (units (osOf l1)) = units (osOf l1)) := Lib.hid (comp_none _ MU.out)
  have CE2 : Hid (compU l0 (units (osOf l1)) (units (osOf [])) = units (osOf l1)) := Lib.hid (compU_nil l0 _)
  have ZN : Hid (szN l1 ≤ 200000) := Lib.hid (by have := szN_le l1; have := SZ.out; omega)
  have Z0 : Hid (szN [] ≤ 200000) := Lib.hid (by decide)
  go_wp2_with (go_at_call 25; refine Hid.out ?_)
  refine Lib.hid ?_
  refine (composeOk_any s l0 _ _ _ _ _ _ [] l1 _ (OpsC.nil _) O1.out HS.out H64.out HT.out M0.out HM.out Z0.out ZN.out (by rw [CE1.out]; exact TM.out.1) (by rw [CE1.out]; exact TM.out.2)).mono ?_
  rintro e wn ⟨A5, c5, za, rfl, h_1, o_1, y⟩
  have HT := Lib.hid (Utf8Tabs_below HT.out y)
  have O1 := Lib.hid (O1.out.ext y)
  have HS := Lib.hid (HS.out.ext y)
  replace hx := ext_trans hx y
  have E_za : Hid (osOf za = mkU (units (osOf l1))) := Lib.hid (by rw [h_1]; exact by rw [CE1.out])
  have O_za := Lib.hid o_1
  clear h_1 o_1
  clear y
  go_wp2_with (go_at_call 25; refine Hid.out ?_)
  refine Lib.hid ?_
  refine (composeOk_any s l0 _ _ _ _ _ _ l1 [] _ O1.out (OpsC.nil _) HS.out H64.out HT.out HM.out M0.out ZN.out Z0.out (by rw [CE2.out]; exact TM.out.1) (by rw [CE2.out]; exact TM.out.2)).mono ?_
  rintro e wn ⟨A6, c6, zb, rfl, h_1, o_1, y⟩
  have HT := Lib.hid (Utf8Tabs_below HT.out y)
  have O1 := Lib.hid (O1.out.ext y)
  have HS := Lib.hid (HS.out.ext y)
  have O_za := Lib.hid (O_za.out.ext y)
  replace hx := ext_trans hx y
  have E_zb : Hid (osOf zb = mkU (units (osOf l1))) := Lib.hid (by rw [h_1]; exact by rw [CE2.out])
  have O_zb := Lib.hid o_1
  clear h_1 o_1
  clear y
  go_wp2_with (go_at_call 27; refine Hid.out ?_)
  refine Lib.hid ?_
  refine (of16D O1.out HM.out ZN.out).mono ?_
  rintro e wn ⟨A7, c7, zf, rfl, h_1, o_1, y⟩
  have HT := Lib.hid (Utf8Tabs_below HT.out y)
  have O1 := Lib.hid (O1.out.ext y)
  have HS := Lib.hid (HS.out.ext y)
  have O_za := Lib.hid (O_za.out.ext y)
  have O_zb := Lib.hid (O_zb.out.ext y)
  replace hx := ext_trans hx y
  have E_zf := Lib.hid h_1
  have O_zf := Lib.hid o_1
  clear h_1 o_1
  clear y
  go_wp2_with (go_at_call 26; refine Hid.out ?_)
  refine Lib.hid ?_
  refine (same15D O_za.out.at_ O_zf.out.at_ (decide_eq_true (E_za.out.trans E_zf.out.symm))).mono ?_
  rintro e wn ⟨rfl, y⟩
  have HT := Lib.hid (Utf8Tabs_below HT.out y)
  have O1 := Lib.hid (O1.out.ext y)
  have HS := Lib.hid (HS.out.ext y)
  have O_za := Lib.hid (O_za.out.ext y)
  have O_zb := Lib.hid (O_zb.out.ext y)
  have O_zf := Lib.hid (O_zf.out.ext y)
  replace hx := ext_trans hx y
  clear y
  go_wp2_with (go_at_call 26; refine Hid.out ?_)
  refine Lib.hid ?_
  refine (same15D O_zb.out.at_ O_za.out.at_ (decide_eq_true (E_zb.out.trans E_za.out.symm))).mono ?_
  rintro e wn ⟨rfl, y⟩
  have HT := Lib.hid (Utf8Tabs_below HT.out y)
  have O1 := Lib.hid (O1.out.ext y)
  have HS := Lib.hid (HS.out.ext y)
  have O_za := Lib.hid (O_za.out.ext y)
  have O_zb := Lib.hid (O_zb.out.ext y)
  have O_zf := Lib.hid (O_zf.out.ext y)
  replace hx := ext_trans hx y
  clear y
  go_wp2_with (go_at_call 23; refine Hid.out ?_)
  refine Lib.hid ?_
  refine (known20_any _ HT.out).mono ?_
  rintro e w2 ⟨rfl, y⟩
  replace hx := ext_trans hx y
  go_wp2_with (fail)
  go_ret
  exact ⟨rfl, hx⟩
end Go.Proofs.YtbdkbfoplpociaaGreatDoor
namespace Go.Proofs.YtbdkbfoplpociaaGreatDoor
open Go.ChangeShapes Go.WideShapes Go.ChangeAt Go.RowKit Go.Deep
set_option linter.unusedVariables false
set_option linter.constructorNameAsVariable false
set_option maxRecDepth 20000

theorem Tryz.own : ownKnob Tryz.prog.godebug = none := by kernel_rfl
theorem Tryz.laidOut : laidOutB Tryz.prog = true := by kernel_rfl
theorem Tryz.undBool : Tryz.prog.underlying 4 = some .bool := by kernel_rfl
theorem Tryz.uI32 : Tryz.prog.underlying 21 = some (.int .i32) := by kernel_rfl
theorem Tryz.clU8 : Tryz.prog.cellsOf 5 = 1 := by kernel_rfl
theorem Tryz.clI32 : Tryz.prog.cellsOf 21 = 1 := by kernel_rfl
theorem Tryz.uTab : Tryz.prog.underlying 284 = some (.array 256 5) := by kernel_rfl
theorem Tryz.clTab : Tryz.prog.cellsOf 284 = 256 := by kernel_rfl
theorem Tryz.uAcc : Tryz.prog.underlying 287 = some (.array 16 286) := by kernel_rfl
theorem Tryz.uAccR : Tryz.prog.underlying 286 = some (.struct (Tryz.prog.fieldsOf 286)) := by kernel_rfl
theorem Tryz.clAccR : Tryz.prog.cellsOf 286 = 2 := by kernel_rfl
theorem Tryz.fdAccR : (Tryz.prog.fieldsOf 286).toList.map (fun f => (f.type, f.offset)) = [(5, 0), (5, 1)] := by kernel_rfl
theorem Tryz.gFirst : Tryz.prog.globalNamed "unicode/utf8.first" = some 1 := by kernel_rfl
theorem Tryz.gAcc : Tryz.prog.globalNamed "unicode/utf8.acceptRanges" = some 2 := by kernel_rfl
theorem Tryz.gtFirst : (Tryz.prog.globals[1]?).map (·.type) = some 284 := by kernel_rfl
theorem Tryz.gtAcc : (Tryz.prog.globals[2]?).map (·.type) = some 287 := by kernel_rfl

/-- the list that the rows bear -/
def laidRows : List (String × DataW Unit) := [("unicode/utf8.acceptRanges", Rows.laid_unicode_utf8_acceptRanges), ("unicode/utf8.first", Rows.laid_unicode_utf8_first)]
set_option maxRecDepth 100000 in
theorem firstEq : Rows.laid_unicode_utf8_first = Lib.firstData := by kernel_rfl
theorem accEq : (Rows.laid_unicode_utf8_acceptRanges : DataW Unit) = Lib.acceptData := by kernel_rfl
theorem field2 {fs : Array Field} {l : List (TypeId × Nat)} (h : fs.toList.map (fun f => (f.type, f.offset)) = l) {i : Nat} {f : Field} (hf : fs[i]? = some f) : l[i]? = some (f.type, f.offset) := by
  rw [← h, List.getElem?_map, Array.getElem?_toList, hf]
  rfl
theorem tabs {W : World} (h : laidMetH Tryz.prog laidRows W) : Lib.Utf8Tabs 1 2 W := by
  have h' : laidMet Tryz.prog laidRows W := by
    unfold laidMetH at h
    rw [show (laidRows.filter fun x => x.2.handleName?.isSome) = [] from by kernel_rfl] at h
    exact h
  have r1 := Lib.laidMet.reads h' (n := "unicode/utf8.first") (d := Rows.laid_unicode_utf8_first) (by simp [laidRows])
  have r2 := Lib.laidMet.reads h' (n := "unicode/utf8.acceptRanges") (d := Rows.laid_unicode_utf8_acceptRanges) (by simp [laidRows])
  rw [firstEq] at r1
  rw [accEq] at r2
  refine ⟨fun c hc => ?_, fun i hi => ?_⟩
  · obtain ⟨g, t, cs, fuel, p, hg, hty, hvar, hd⟩ := r1
    obtain rfl := Option.some.inj (Tryz.gFirst.symm.trans hg)
    obtain rfl := Option.some.inj (Tryz.gtFirst.symm.trans hty)
    have hcs := Lib.cells_of_tab Tryz.uTab Tryz.uU8 Tryz.clU8 Tryz.clTab hd
    rw [World.var?_cell hg hvar c, ← Array.getElem?_toList, hcs]
    simp [Lib.firstTab, hc]
  · obtain ⟨g, t, cs, fuel, p, hg, hty, hvar, hd⟩ := r2
    obtain rfl := Option.some.inj (Tryz.gAcc.symm.trans hg)
    obtain rfl := Option.some.inj (Tryz.gtAcc.symm.trans hty)
    obtain ⟨fuel', d, q, hdi, he⟩ := Lib.array_elem Tryz.uAcc hd i hi
    simp only [List.getElem?_map, List.getElem?_range hi, Option.map_some, Option.some.injEq] at hdi
    subst hdi
    rw [Tryz.clAccR] at he
    have hcs := Lib.ints_of_struct Tryz.uAccR (fun j f hj => by
      have h2 := field2 Tryz.fdAccR hj
      match j, h2 with
      | 0, h2 => injection h2 with h2; injection h2 with h2 h3; rw [← h2, ← h3]; exact ⟨Tryz.uU8, rfl, Tryz.clU8⟩
      | 1, h2 => injection h2 with h2; injection h2 with h2 h3; rw [← h2, ← h3]; exact ⟨Tryz.uU8, rfl, Tryz.clU8⟩
      | j + 2, h2 => simp at h2) (by rw [Tryz.clAccR]; kernel_rfl) he
    have e0 := congrArg (·[0]?) hcs
    have e1 := congrArg (·[1]?) hcs
    simp only [List.getElem?_take, List.getElem?_drop] at e0 e1
    constructor
    · rw [World.var?_cell hg hvar (2 * i), ← Array.getElem?_toList]
      simpa [Nat.mul_comm] using e0
    · rw [World.var?_cell hg hvar (2 * i + 1), ← Array.getElem?_toList]
      simpa [Nat.mul_comm] using e1

def relay (cs : Array Value) : Obj → Obj
  | .cells _ t frozen => .cells cs t frozen
  | o => o
/-- A world for the witness: the settled one, both tables as their initialisers lay them. -/
noncomputable def laidWorld (os : Os) : World :=
  { World.holding Tryz.prog os ⟨#[], #[], []⟩ with heap := ((World.holding Tryz.prog os ⟨#[], #[], []⟩).heap.modify 1 (relay (Lib.firstTab.map (Value.int .u8)).toArray)).modify 2 (relay ((List.range 16).flatMap fun i => [Value.int .u8 (Lib.accLo i), Value.int .u8 (Lib.accHi i)]).toArray) }

section
variable {H : Type} {enc : TypeId × Value → H} {P : Program} {W W' : World}
theorem trodAll_later (hl : laidOutB P = true) (hb : Below W.heap.size W W') : ∀ (ts : List TypeId) (vs : List Value) (ds : List (DataW H)) (ps : List MemPlace), (∀ t ∈ ts, P.readableRec t = true ∧ t < P.types.size) →
    DataW.TrodAll enc P W 0 (fun _ => true) true ts vs ds ps → (∀ x ∈ ps, x.block < W.heap.size) → DataW.TrodAll enc P W' 0 (fun b => decide (b < W.heap.size)) true ts vs ds ps
  | [], vs, ds, ps, _, h, _ => by
    obtain ⟨rfl, rfl, rfl⟩ := trodAll_nil h
    exact trodAll_mk0
  | t :: ts, vs, ds, ps, ht, h, hp => by
    obtain ⟨v, vs', d, ds', p, q, rfl, rfl, rfl, h0, r⟩ := trodAll_cons h
    have h1 := ht t (by simp)
    exact trodAll_cons_mk (Below.trod hl h1.1 h1.2 h0 hb (fun x hx => hp x (List.mem_append_left _ hx)))
      (trodAll_later hl hb ts vs' ds' q (fun u hu => ht u (List.mem_cons_of_mem _ hu)) r (fun x hx => hp x (List.mem_append_right _ hx)))

theorem post_law {f : Func} {s : ChangeSpec} {args : Array Value} {ds gs : List (DataW H)} {before : List MemPlace} {tb : TypeId}
    (hW : DataW.Whole enc P f.params.toList s.vars false W args.toList ds gs before) (hv : s.vars = []) (hr : f.resultTypes = #[tb]) (hu : P.underlying tb = some .bool)
    (hspec : s.fn H ds = { results := [.lit (.bool true)], args := ds }) (hl : laidOutB P = true) (hrr : f.params.toList.all (fun t => P.readableRec t && decide (t < P.types.size)) = true) (hb : Below W.heap.size W W') :
    s.post enc P f false true false false W args (.bool true) W' := by
  have hW0 := hW
  obtain ⟨p, q, hA, hV, rfl, _, _⟩ := hW
  rw [hv] at hV
  obtain ⟨rfl, rfl⟩ := trodVars_none hV
  have hlt : ∀ x ∈ p ++ [], x.block < W.heap.size := fun x hx => hW0.lt x hx
  rw [List.append_nil] at hlt
  refine ⟨ds, [], p ++ [], [], p, [], hW0, ?_, ?_, ?_, World.keptBut_mono (fun x hx => ⟨by simpa using hx, by simpa using hx⟩) (hb.frame (· ∈ p)), fun h => by cases h⟩
  · rw [hr, List.append_nil, hspec]
    exact trodAll_mk1 (shut_bool hu true)
  · rw [List.append_nil, hspec]
    exact trodAll_later hl hb _ _ _ _ (fun t ht => by have := List.all_eq_true.1 hrr t ht; simpa using this) hA hlt
  · rw [hv, List.append_nil, hspec]
    rfl
end

section
variable {H : Type} {enc : TypeId × Value → H} {w : World} {base : Nat} {spare : Nat → Bool} {held : Bool} {fuel : Nat} {cs : List Value} {x : DataW H × List MemPlace}
end
end Go.Proofs.YtbdkbfoplpociaaGreatDoor
namespace Go.Proofs.YtbdkbfoplpociaaGreatDoor
open Go.ChangeShapes Go.WideShapes Go.ChangeAt Go.RowKit Go.Deep
set_option linter.unusedVariables false
set_option linter.constructorNameAsVariable false
set_option maxRecDepth 20000

theorem Tryz.qV : Tryz.prog.underlying 43 = some (.struct (Tryz.prog.fieldsOf 43)) := by kernel_rfl
theorem Tryz.qFd : (Tryz.prog.fieldsOf 43).toList.map (fun f => (f.type, f.offset)) = [(5, 0), (2, 1), (41, 2), (9, 3)] := by kernel_rfl
theorem Tryz.qI64 : Tryz.prog.underlying 2 = some (.int .i64) := by kernel_rfl
theorem Tryz.qU8 : Tryz.prog.underlying 5 = some (.int .u8) := by kernel_rfl
theorem Tryz.qU64 : Tryz.prog.underlying 41 = some (.int .u64) := by kernel_rfl
theorem Tryz.qBool : Tryz.prog.underlying 4 = some .bool := by kernel_rfl
theorem Tryz.qStr : Tryz.prog.underlying 9 = some .string := by kernel_rfl
theorem Tryz.qcV : Tryz.prog.cellsOf 43 = 4 := by kernel_rfl
theorem Tryz.qcI64 : Tryz.prog.cellsOf 2 = 1 := by kernel_rfl
theorem Tryz.qcU8 : Tryz.prog.cellsOf 5 = 1 := by kernel_rfl
theorem Tryz.qcU64 : Tryz.prog.cellsOf 41 = 1 := by kernel_rfl
theorem Tryz.qcStr : Tryz.prog.cellsOf 9 = 1 := by kernel_rfl

theorem wf_u8 {n : Int} (h : (Lit.int .u8 n).wf = true) : 0 ≤ n ∧ n ≤ 255 := by
  simp [Lit.wf] at h
  have h1 : IntKind.u8.min = 0 := by decide
  have h2 : IntKind.u8.max = 255 := by decide
  rw [h1, h2] at h
  exact h
theorem wf_u64 {n : Int} (h : (Lit.int .u64 n).wf = true) : 0 ≤ n ∧ n ≤ 18446744073709551615 := by
  simp [Lit.wf] at h
  have h1 : IntKind.u64.min = 0 := by decide
  have h2 : IntKind.u64.max = 18446744073709551615 := by decide
  rw [h1, h2] at h
  exact h
theorem wf_i64 {n : Int} (h : (Lit.int .i64 n).wf = true) : -9223372036854775808 ≤ n ∧ n ≤ 9223372036854775807 := by
  simp [Lit.wf] at h
  have h1 : IntKind.i64.min = -9223372036854775808 := by decide
  rw [h1] at h
  exact h
theorem field_at {fs : Array Field} {l : List (TypeId × Nat)} (h : fs.toList.map (fun f => (f.type, f.offset)) = l) {i : Nat} {t o : Nat} (hi : l[i]? = some (t, o)) : ∃ f, fs[i]? = some f ∧ f.type = t ∧ f.offset = o := by
  rw [← h, List.getElem?_map] at hi
  rw [Array.getElem?_toList] at hi
  cases hf : fs[i]? with
  | none => rw [hf] at hi; simp at hi
  | some f => rw [hf] at hi; simp at hi; exact ⟨f, rfl, hi.1, hi.2⟩

section
variable {H : Type} {enc : TypeId × Value → H} {w : World} {base : Nat} {spare : Nat → Bool} {held : Bool} {fuel : Nat} {cs : List Value} {x : DataW H × List MemPlace}
end
end Go.Proofs.YtbdkbfoplpociaaGreatDoor
