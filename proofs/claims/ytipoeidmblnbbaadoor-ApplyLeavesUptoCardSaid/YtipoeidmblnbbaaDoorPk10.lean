/- Merged texts: Schema2, SortKy, KeyClone, SchemaNew, MayDef, Class, ClassAt, AttrsMayFn. -/
import Derived.Test.YtipoeidmblnbbaaDoorPk6
import Derived.Test.YtipoeidmblnbbaaDoorPk2
import Derived.Test.YtipoeidmblnbbaaDoorPk8
import Derived.Shelf.SlSortCmp.NoneTotal
import Derived.Test.YtipoeidmblnbbaaDoorPk7
import Derived.RegionTactic
import Derived.BigRegion
import Derived.ChangeAlike
import Derived.Test.YtipoeidmblnbbaaDoorPk1
import Derived.Test.YtipoeidmblnbbaaDoorPk5
/- The walks of the document's Find, Fits and May of a schema (rubricref04). -/
namespace Go.Proofs.YtipoeidmblnbbaaDoor
open Go.RowKit
set_option linter.unusedVariables false
set_option linter.unusedSimpArgs false

theorem findK_drop {l : List Ky} {m : Nat} {x : Ky} {id : Int} {R : Option Ky} (hd : l.drop m = x :: l.drop (m + 1)) (h : findK (l.drop m) id = R) (hx : x.id ≠ id) : findK (l.drop (m + 1)) id = R := by
  rw [hd] at h
  rw [← h]
  simp [findK, hx]
theorem findK_hit {l : List Ky} {m : Nat} {x : Ky} {id : Int} {R : Option Ky} (hd : l.drop m = x :: l.drop (m + 1)) (h : findK (l.drop m) id = R) (hx : x.id = id) : R = some x := by
  rw [hd] at h
  rw [← h]
  simp [findK, hx]
theorem findK_end {l : List Ky} {m : Nat} {id : Int} {R : Option Ky} (hm : l.length ≤ m) (h : findK (l.drop m) id = R) : R = none := by
  rw [List.drop_eq_nil_of_le hm] at h
  rw [← h]
  rfl

/-- keys that may be a schema's: behind those seen -/
def okPre (seen : List Ky) : List Ky → Bool
  | [] => true
  | k :: r => mayK k && (findK seen k.id).isNone && okPre (seen ++ [k]) r
def mayKs (l : List Ky) : Bool := decide (l.length ≤ 64) && okPre [] l
/-- is an ID among the keys from j on, of the first m? -/
theorem findK_take_none {l : List Ky} {m j : Nat} {x : Ky} {id : Int} (hd : l.drop j = x :: l.drop (j + 1)) (hj : j < m) : findK ((l.take m).drop j) id = if x.id = id then some x else findK ((l.take m).drop (j + 1)) id := by
  have hl : j < l.length := by rcases Nat.lt_or_ge j l.length with h | h; · exact h
                               · rw [List.drop_eq_nil_of_le h] at hd; simp at hd
  have hx : l[j] = x := by rw [List.drop_eq_getElem_cons hl] at hd; exact (List.cons.inj hd).1
  have hl2 : j < (l.take m).length := by rw [List.length_take]; omega
  rw [List.drop_eq_getElem_cons hl2, List.getElem_take, hx]
  simp only [findK, List.find?_cons]
  by_cases h : x.id = id <;> simp [h]

end Go.Proofs.YtipoeidmblnbbaaDoor
/- slices.SortFunc at a schema's keys: how the program bears it, its closure, and what it answers. -/
namespace Go.Proofs.YtipoeidmblnbbaaDoor
open Go.RowKit Go.Shelf Go.Lib Go.Sort
set_option linter.unusedVariables false
set_option linter.unusedSimpArgs false

def Tryd.sortKy_ren : Go.Shelf.Ren := ⟨fun | 6 => 26 | 15 => 59 | 14 => 58 | 28 => 97 | 29 => 98 | 20 => 89 | 21 => 90 | 22 => 91 | 23 => 92 | 24 => 93 | 25 => 94 | 26 => 95 | 27 => 96 | 46 => 115 | 47 => 116 | 48 => 117 | 49 => 118 | 50 => 119 | 57 => 127 | n => n, fun | 22 => 22 | 24 => 60 | 25 => 70 | 3 => 3 | 39 => 101 | 0 => 0 | 53 => 134 | 55 => 54 | 4 => 4 | 46 => 127 | 45 => 126 | 50 => 131 | 5 => 5 | 9 => 9 | 66 => 151 | 70 => 155 | 76 => 165 | 77 => 166 | n => n, fun | n => n⟩
theorem Tryd.sortKy : Go.Proofs.SlLaysF0.n6 Tryd.prog Tryd.sortKy_ren := {
  mixed := by kernel_rfl
  f6 := ⟨Tryd.f26.name, by decide, Tryd.func26.trans (congrArg some (by kernel_rfl))⟩
  f14 := ⟨Tryd.f58.name, by decide, Tryd.func58.trans (congrArg some (by kernel_rfl))⟩
  f15 := Tryd.func59.trans (congrArg some (by kernel_rfl))
  f20 := ⟨Tryd.f89.name, by decide, Tryd.func89.trans (congrArg some (by kernel_rfl))⟩
  f21 := ⟨Tryd.f90.name, by decide, Tryd.func90.trans (congrArg some (by kernel_rfl))⟩
  f22 := ⟨Tryd.f91.name, by decide, Tryd.func91.trans (congrArg some (by kernel_rfl))⟩
  f23 := ⟨Tryd.f92.name, by decide, Tryd.func92.trans (congrArg some (by kernel_rfl))⟩
  f24 := ⟨Tryd.f93.name, by decide, Tryd.func93.trans (congrArg some (by kernel_rfl))⟩
  f25 := ⟨Tryd.f94.name, by decide, Tryd.func94.trans (congrArg some (by kernel_rfl))⟩
  f26 := ⟨Tryd.f95.name, by decide, Tryd.func95.trans (congrArg some (by kernel_rfl))⟩
  f27 := ⟨Tryd.f96.name, by decide, Tryd.func96.trans (congrArg some (by kernel_rfl))⟩
  f28 := Tryd.func97.trans (congrArg some (by kernel_rfl))
  f29 := Tryd.func98.trans (congrArg some (by kernel_rfl))
  f46 := ⟨Tryd.f115.name, by decide, Tryd.func115.trans (congrArg some (by kernel_rfl))⟩
  f47 := Tryd.func116.trans (congrArg some (by kernel_rfl))
  f48 := Tryd.func117.trans (congrArg some (by kernel_rfl))
  f49 := ⟨Tryd.f118.name, by decide, Tryd.func118.trans (congrArg some (by kernel_rfl))⟩
  f50 := ⟨Tryd.f119.name, by decide, Tryd.func119.trans (congrArg some (by kernel_rfl))⟩
  f57 := ⟨Tryd.f127.name, by decide, Tryd.func127.trans (congrArg some (by kernel_rfl))⟩
  t0 := Tryd.underlying0
  a0 := Tryd.isAgg0
  z0 := Tryd.sizeOf0
  v0 := Tryd.zeroValue0
  t3 := Tryd.underlying3
  a3 := Tryd.isAgg3
  z3 := Tryd.sizeOf3
  v3 := Tryd.zeroValue3
  t4 := Tryd.underlying4
  a4 := Tryd.isAgg4
  z4 := Tryd.sizeOf4
  v4 := Tryd.zeroValue4
  t5 := Tryd.underlying5
  a5 := Tryd.isAgg5
  z5 := Tryd.sizeOf5
  v5 := Tryd.zeroValue5
  t9 := Tryd.underlying9
  a9 := Tryd.isAgg9
  z9 := Tryd.sizeOf9
  v9 := Tryd.zeroValue9
  t22 := Tryd.underlying22
  a22 := Tryd.isAgg22
  z22 := Tryd.sizeOf22
  v22 := Tryd.zeroValue22
  t25 := Tryd.underlying70
  a25 := Tryd.isAgg70
  z25 := Tryd.sizeOf70
  v25 := Tryd.zeroValue70
  t39 := Tryd.underlying101
  a39 := Tryd.isAgg101
  z39 := Tryd.sizeOf101
  v39 := Tryd.zeroValue101
  t45 := Tryd.underlying126
  a45 := Tryd.isAgg126
  z45 := Tryd.sizeOf126
  v45 := Tryd.zeroValue126
  t46 := Tryd.underlying127
  a46 := Tryd.isAgg127
  z46 := Tryd.sizeOf127
  v46 := Tryd.zeroValue127
  t50 := Tryd.underlying131
  a50 := Tryd.isAgg131
  z50 := Tryd.sizeOf131
  v50 := Tryd.zeroValue131
  t53 := Tryd.underlying134
  a53 := Tryd.isAgg134
  z53 := Tryd.sizeOf134
  v53 := Tryd.zeroValue134
  t55 := Tryd.underlying54
  a55 := Tryd.isAgg54
  z55 := Tryd.sizeOf54
  v55 := Tryd.zeroValue54
  t66 := Tryd.underlying151
  a66 := Tryd.isAgg151
  z66 := Tryd.sizeOf151
  v66 := Tryd.zeroValue151
  t70 := Tryd.underlying155
  a70 := Tryd.isAgg155
  z70 := Tryd.sizeOf155
  v70 := Tryd.zeroValue155
  t76 := Tryd.underlying165
  a76 := Tryd.isAgg165
  z76 := Tryd.sizeOf165
  v76 := Tryd.zeroValue165
  t77 := Tryd.underlying166
  a77 := Tryd.isAgg166
  z77 := Tryd.sizeOf166
  v77 := Tryd.zeroValue166 }


def cmpKy (x y : Ky) : Int := cmpI x.id y.id
theorem ltKy (x y : Ky) : ltOf cmpKy x y = decide (x.id < y.id) := by
  unfold ltOf cmpKy cmpI
  by_cases h1 : x.id < y.id
  · simp [h1]
  · by_cases h2 : y.id < x.id <;> simp [h1, h2]
theorem swoKy : SWO (ltOf cmpKy) where
  irrefl x := by rw [ltKy]; simp
  trans x y z h1 h2 := by rw [ltKy] at *; simp at *; omega
  ntrans x y z h1 h2 := by rw [ltKy] at *; simp at *; omega
instance : Inhabited Ky := ⟨Ky.zero⟩

set_option maxHeartbeats 1000000 in
theorem cmpNew_any (x y : Ky) (W : World) : Calls Tryd.prog 27 #[.agg #[.int .i64 x.id, .bool x.block, .int .u8 x.kind, .bool x.after, .bool x.before, .int .i64 x.group], .agg #[.int .i64 y.id, .bool y.block, .int .u8 y.kind, .bool y.after, .bool y.before, .int .i64 y.group]] W
    fun e w' => e = .returned (.int .i64 (cmpKy x y)) ∧ ∃ q os', w' = grow (W.drewN q) os' := by
  unfold cmpKy
  have hcon := fun W' => compare_any x.id y.id W'
  generalize cmpI x.id y.id = r at hcon ⊢
  go_enter Tryd.func27, Tryd.ntmps27
  go_wp2_with (go_at_call 28; refine (hcon _).mono ?_; rintro e w' ⟨rfl, rfl⟩)
  go_ret
  exact ⟨rfl, 0, _, by rw [alloc_eq_grow, alloc_eq_grow, grow_grow]; rfl⟩
theorem cmpLaysKy (blk off size : Nat) (w : World) : CmpLays Tryd.prog 27 #[] Ky.enc 6 cmpKy blk off size w :=
  fun _ _ _ _ x y => cmpNew_any x y _

/-- what a sort of the call's own keys leaves -/
def SortOut (A : Option Addr) (n c : Nat) (l : List Ky) (w : World) (base : Nat) (e : Ending) (w' : World) : Prop :=
  e = .returned (.tuple #[]) ∧ ∃ l' : List Ky, l'.Perm l ∧ l'.Pairwise (fun a b => a.id ≤ b.id) ∧ RdKy w' w'.heap.size A l' ∧ Below base w w' ∧ ∀ j, j < w.heap.size → (∀ k, wb (.slice A n c) = some k → k ≠ j) → w'.heap[j]? = w.heap[j]?

theorem heap_putRowK (w : World) (blk off : Nat) (d : Array Ky) (j : Nat) (h : j ≠ blk) : (putRowK Ky.enc 6 w blk off d).heap[j]? = w.heap[j]? := by
  simp only [putRowK, putRow, mapBlock]
  rw [Array.getElem?_modify, if_neg (fun e => h e.symm)]
theorem size_putRowK (w : World) (blk off : Nat) (d : Array Ky) : (putRowK Ky.enc 6 w blk off d).heap.size = w.heap.size := by
  simp only [putRowK, putRow, mapBlock, Array.size_modify]

theorem perm_of {d d' : Array Ky} (h : PermIn 0 d.size d d') : d'.toList.Perm d.toList := by
  have h1 := h.1
  have h2 := h.2.2
  have e1 : d'.extract 0 d.size = d' := by rw [← h1]; simp
  have e2 : d.extract 0 d.size = d := by simp
  rw [e1, e2] at h2
  exact h2
theorem sorted_of {d : Array Ky} {n : Nat} (hn : d.size = n) (h : SortedIn (ltOf cmpKy) 0 n d) : d.toList.Pairwise (fun a b => a.id ≤ b.id) := by
  rw [List.pairwise_iff_getElem]
  intro i j hi hj hij
  have h2 := h i j (Nat.zero_le _) hij (by rw [← hn]; simpa using hj)
  rw [ltKy] at h2
  have hi' : i < d.size := by simpa using hi
  have hj' : j < d.size := by simpa using hj
  rw [getElem!_pos d i hi', getElem!_pos d j hj'] at h2
  simp at h2
  simpa using h2

set_option maxHeartbeats 1000000 in
theorem sortKy_any (A : Option Addr) (n c base : Nat) (l : List Ky) (w : World) (hown : OwKy w base (.slice A n c) l) (hb : n ≤ 100000000) :
    Calls Tryd.prog 26 #[.slice A n c, .func (.func 27) #[] #[]] w (SortOut A n c l w base) := by
  have eg : ∀ args w, (callFunc 27 args).run Tryd.prog w = .ok (.enter 27 args) w := enters_of Tryd.func27 (by kernel_rfl) rfl
  have none_case : l = [] → n = 0 → Calls Tryd.prog 26 #[.slice A n c, .func (.func 27) #[] #[]] w (SortOut A n c l w base) := by
    intro h1 h2
    subst h1 h2
    have hcon := AnyF.slices_SortFunc_none Tryd.sortKy A c (.func (.func 27) #[] #[]) w
    change Calls Tryd.prog 26 _ _ _ at hcon
    refine hcon.mono ?_
    rintro e w' ⟨rfl, rfl⟩
    exact ⟨rfl, [], List.Perm.refl _, List.Pairwise.nil, Rd.nil, Below.refl _ _, fun _ _ _ => rfl⟩
  rcases hown with ⟨h1, A', h2⟩ | ⟨hx, ⟨h1, h2⟩ | ⟨g, cap, cur, h1, hg, hblk, hn1, hn2, hsz, htk⟩⟩
  · injection h2 with _ h2 _
    exact none_case h1 h2
  · injection h1 with _ h1 _
    exact none_case (List.eq_nil_of_length_eq_zero h2) h1
  · injection h1 with hA hnl hc
    subst hA hnl hc
    by_cases hl0 : l.length = 0
    · exact none_case (List.eq_nil_of_length_eq_zero hl0) hl0
    have hwb : ∀ j, (∀ k, wb (.slice (some ⟨g, 0, none⟩) l.length c) = some k → k ≠ j) → j ≠ g := by
      intro j hk e
      cases c with
      | zero => omega
      | succ c => exact hk g rfl e.symm
    have hlt : g < w.heap.size := (Array.getElem?_eq_some_iff.1 hblk).1
    have hcell : ∀ j u, (l.flatMap Ky.enc)[j]? = some u → w.cell? ⟨g, j, none⟩ = some u := by
      intro j u hu
      rw [← htk] at hu
      have hj := (List.getElem?_eq_some_iff.1 hu).1
      rw [List.getElem?_take_of_lt (by rw [List.length_take] at hj; omega)] at hu
      simp only [World.cell?, hblk]
      simpa using hu
    have hH : HoldsK Ky.enc 6 w g 0 l.toArray := by
      intro j hj
      rw [size_flatK] at hj
      have hj' : j < l.length * 6 := by simpa using hj
      have hq : j / 6 < l.length := by omega
      refine ⟨?_, by simp [World.frozen?, hblk]⟩
      rw [get_flatK _ _ _ _ hj]
      simp only [id]
      have e1 : l.toArray[j / 6]! = l[j / 6] := by rw [getElem!_pos _ _ (by simpa using hq)]; simp
      rw [e1, Nat.zero_add]
      have hm : j % 6 < (Ky.enc l[j / 6]).length := by rw [Ky.enc_len]; omega
      rw [getElem!_pos (Ky.enc l[j / 6]) (j % 6) hm]
      have hf := flat_get (size := 6) Ky.enc_len l (j / 6) (j % 6) _ hq (List.getElem?_eq_getElem hm)
      rw [Nat.div_add_mod'] at hf
      exact hcell j _ hf
    have hcon := AnyQ.slices_SortFunc Tryd.sortKy 6 Tryd.isAgg60 Tryd.sizeOf60 Ky.enc Ky.enc_len Ky.enc_one cmpKy swoKy 27 #[] g 0 c l.toArray w eg (cmpLaysKy g 0 _ w) hH hlt (by simp; omega)
    change Calls Tryd.prog 26 _ _ _ at hcon
    rw [List.size_toArray] at hcon
    refine hcon.mono ?_
    rintro e w' ⟨rfl, d', q, os, hp, hs, rfl⟩
    have hsize : d'.size = l.length := by simpa using hp.1
    have hH' : HoldsK Ky.enc 6 (sortWorldK Ky.enc 6 w g 0 q d' os) g 0 d' :=
      holdsK_grow Ky.enc 6 _ os g 0 d' (by rw [size_putRowK]; exact hlt) (holdsK_putRowK Ky.enc 6 (Sort.ahead w q) g 0 l.toArray d' hH (by simpa using hsize))
    have hheap : ∀ j, j < w.heap.size → j ≠ g → (sortWorldK Ky.enc 6 w g 0 q d' os).heap[j]? = w.heap[j]? := by
      intro j hj hne
      unfold sortWorldK
      rw [heap_grow_old _ _ (by rw [size_putRowK]; exact hj), heap_putRowK _ _ _ _ _ hne]
      rfl
    have hsz2 : w.heap.size ≤ (sortWorldK Ky.enc 6 w g 0 q d' os).heap.size := by
      have : (sortWorldK Ky.enc 6 w g 0 q d' os).heap.size = (putRowK Ky.enc 6 (Sort.ahead w q) g 0 d').heap.size + os.size := by simp [sortWorldK, grow]
      rw [this, size_putRowK]
      exact Nat.le_add_right _ _
    refine ⟨rfl, d'.toList, by simpa using perm_of (d := l.toArray) (by simpa using hp), sorted_of hsize hs, ?_, ⟨rfl, rfl, rfl, hsz2, fun j hj => hheap j (by omega) (by omega)⟩, fun j hj hne => hheap j hj (hwb j hne)⟩
    intro hl
    refine ⟨_, rfl, Nat.lt_of_lt_of_le hlt hsz2, fun i hi => ?_⟩
    intro j u hu
    have hi' : i < d'.size := by simpa using hi
    have hj6 : j < 6 := by have := (List.getElem?_eq_some_iff.1 hu).1; rw [Ky.enc_len] at this; exact this
    have h3 := (HoldsK.cell hH' hi' hj6).1
    have e3 : (Ky.enc d'[i]!)[j]! = u := by
      rw [getElem!_pos d' i hi', getElem!_pos (Ky.enc d'[i]) j (by rw [Ky.enc_len]; exact hj6)]
      have h4 := List.getElem?_eq_some_iff.1 hu
      obtain ⟨_, h4⟩ := h4
      simpa using h4
    rw [e3, Nat.zero_add] at h3
    rw [add_add']
    have ea : (⟨g, 0, none⟩ : Addr).add (i * 6 + j) = ⟨g, i * 6 + j, none⟩ := by
      unfold Addr.add
      split
      · rename_i h0; rw [h0]
      · simp
    rw [ea]
    exact h3
end Go.Proofs.YtipoeidmblnbbaaDoor
/- slices.Clone of keys. -/
namespace Go.Proofs.YtipoeidmblnbbaaDoor
open Go.RowKit
set_option linter.unusedVariables false
set_option linter.unusedSimpArgs false

set_option maxRecDepth 100000 in
set_option maxHeartbeats 400000 in
theorem cloneKy_any (A : Option Addr) (n c : Nat) (l : List Ky) (w : World) (hn : n = l.length) (h : RdKy w w.heap.size A l) (hb : n ≤ 100000000) :
    Calls Tryd.prog 24 #[.slice A n c] w (NewKy l w) := by
  cases A with
  | none =>
    have hl : l = [] := by
      cases l with
      | nil => rfl
      | cons a l => obtain ⟨ad, e, _⟩ := h (by simp); cases e
    subst hl
    have hn0 : n = 0 := by simpa using hn
    subst hn0
    clear hn
    have hq := fun (w : World) => Lib.run_eql_slice_nil (P := Tryd.prog) w 22 60 none 0 c 0 0 Tryd.slKy
    go_enter Tryd.func24, Tryd.ntmps24
    go_wp2_with (fail)
    go_ret
    exact ⟨none, 0, rfl, Ow.nil _ _, Below.refl _ _⟩
  | some ad =>
    have N := Lib.hid hn
    clear hn
    have hq := fun (w : World) => Lib.run_eql_slice_nil (P := Tryd.prog) w 22 60 (some ad) n c 0 0 Tryd.slKy
    go_enter Tryd.func24, Tryd.ntmps24
    go_wp2_with (first
      | (at_builtin; refine app_ky (m := l) rfl (.tmp 5) (.tmp 6) rfl rfl (by exact Ow.empty _ w.heap.size _) _ _ _ _ rfl N.out (by exact h.ext (ext_alloc w _)) (by have := N.out; simp only [List.length_nil]; omega) (by simp) ?_; intro v' w' hown' hgr hv'))
    rw [List.nil_append] at hown'
    obtain ⟨A', c', rfl, _, _⟩ := hown'.form
    go_ret
    exact ⟨A', c', rfl, hown', (ext_alloc w _).grown hgr (by simp) (fun k hk => by cases hk)⟩
end Go.Proofs.YtipoeidmblnbbaaDoor
/- The walk of schema.New. -/
namespace Go.Proofs.YtipoeidmblnbbaaDoor
open Go.RowKit
set_option linter.unusedVariables false
set_option linter.unusedSimpArgs false

theorem MapK.drew {w : World} {b : Nat} {l : List Ky} (h : MapK w b l) : MapK w.drew b l := h

/-- what schema.New answers -/
def NewOut (l : List Ky) (w : World) (e : Ending) (w' : World) : Prop :=
  Below w.heap.size w w' ∧ ((mayKs l = true ∧ ∃ s, e = .returned (.tuple #[.pointer (some ⟨s, 0, none⟩), .int .i64 0]) ∧ Sch w' s l) ∨ (mayKs l = false ∧ e = .returned (.tuple #[.pointer none, .int .i64 3])))

set_option maxRecDepth 100000 in
set_option maxHeartbeats 3200000 in
theorem new_any (A : Option Addr) (n c : Nat) (l : List Ky) (w : World) (hn : n = l.length) (h : RdKy w w.heap.size A l) (hb : n ≤ 140737488355328) :
    Calls Tryd.prog 9 #[.slice A n c] w (NewOut l w) := by
  have N := Lib.hid hn
  generalize hR : mayKs l = R
  have HR := Lib.hid hR
  clear hn hR
  unfold NewOut
  rw [HR.out]
  by_cases h64 : (64 : Int) < (n : Int)
  · go_enter Tryd.func9, Tryd.ntmps9
    go_wp2_with (fail)
    have hf : R = false := by
      rw [← HR.out]
      have := N.out
      simp [mayKs]; omega
    refine bodyPost_ret (v := .tuple #[.pointer none, .int .i64 3]) (by simp [results, Tryd.results9, go_sem]) rfl ?_
    exact ⟨Below.refl _ _, .inr ⟨hf, rfl⟩⟩
  have HP : Hid (okPre [] l = R) := Lib.hid (by rw [← HR.out]; have := N.out; simp [mayKs]; intro h; omega)
  have hmm := @run_makeMap Tryd.prog
  go_enter Tryd.func9, Tryd.ntmps9
  go_wp2_with (go_at_call 24; refine Hid.out ?_)
  refine Lib.hid ?_
  refine (cloneKy_any A n c l w N.out h (by omega)).mono ?_
  rintro e w1 ⟨A', c', rfl, hown, y1⟩
  have HOW := Lib.hid hown
  clear hown
  go_wp2_with (fail)
  go_loopg [19] n (fun g iv wr => ∃ m : Nat, m ≤ n ∧ g = n - m ∧ iv = .int .i64 (m : Int) ∧ Below w.heap.size w wr ∧ w1.heap.size + 2 ≤ wr.heap.size ∧ wr.heap[w1.heap.size + 1]? = some (.cells #[.slice A' l.length c', .map (some w1.heap.size)] 65 (0, 0)) ∧ MapK wr w1.heap.size (l.take m) ∧ OwKy wr w.heap.size (.slice A' l.length c') l ∧ Hid (okPre (l.take m) (l.drop m) = R))
  case atStart =>
    have ya := ext_alloc w1 (.map #[] 0)
    have yb := ext_alloc (w1.alloc (.map #[] 0)) (.cells #[.slice A' l.length c', .map (some w1.heap.size)] 65)
    have hm0 := heap_alloc_new w1 (.map #[] 0)
    have hb0 := heap_alloc_new (w1.alloc (.map #[] 0)) (.cells #[.slice A' l.length c', .map (some w1.heap.size)] 65)
    rw [World.size_alloc] at hb0
    refine ⟨0, by omega, rfl, rfl, ext_trans y1 (ext_trans ya yb), by simp, hb0, ⟨#[], 0, (yb.block _ (by simp)).trans hm0, by simp⟩, (HOW.out.alloc _).alloc _, Lib.hid (by rw [List.drop_zero, List.take_zero]; exact HP.out)⟩
  case round =>
    obtain ⟨m, hm, hg, rfl, y, hs2, hbx, hmk, how, HI⟩ := hrel
    have HG := Lib.hid hg
    clear hg HR HP
    by_cases hlt : m < n
    · have hl1 : m < l.length := by have := N.out; omega
      obtain ⟨ad, x, rfl, had, hd1, hx1, hc0⟩ := (h.below y (Nat.le_refl _)).el hl1
      obtain ⟨x1, x2, x3, x4, x5, x6⟩ := x
      obtain ⟨r0, r1, r2, r3, r4, r5⟩ := ky_cells hc0
      have HI2 : Hid ((mayK ⟨x1, x2, x3, x4, x5, x6⟩ && (findK (l.take m) x1).isNone && okPre (l.take (m + 1)) (l.drop (m + 1))) = R) := Lib.hid (by
        rw [← HI.out, hd1]
        simp only [okPre]
        rw [List.take_add_one, hx1]; rfl)
      have HX := Lib.hid hx1
      have y2 := ext_alloc wr (.cells #[.int .i64 x1, .bool x2, .int .u8 x3, .bool x4, .bool x5, .int .i64 x6] 60)
      have hk2 := heap_alloc_new wr (.cells #[.int .i64 x1, .bool x2, .int .u8 x3, .bool x4, .bool x5, .int .i64 x6] 60)
      have hb2 := (y2.block _ (lt_of_some hbx)).trans hbx
      have hmk2 := hmk.ext y2
      have how2 := how.alloc (.cells #[.int .i64 x1, .bool x2, .int .u8 x3, .bool x4, .bool x5, .int .i64 x6] 60)
      obtain ⟨b0, b1⟩ := box_2 hb2
      obtain ⟨k0, k1, k2, k3, k4, k5⟩ := box_ky hk2
      have HMK := Lib.hid hmk2
      have HB2 := Lib.hid hb2
      have HK2 := Lib.hid hk2
      have HOW2 := Lib.hid how2
      have y3 := ext_alloc (wr.alloc (.cells #[.int .i64 x1, .bool x2, .int .u8 x3, .bool x4, .bool x5, .int .i64 x6] 60)) (.cells #[.int .i64 0, .bool false, .int .u8 0, .bool false, .bool false, .int .i64 0] 60)
      have hb3 := (y3.block _ (lt_of_some hb2)).trans hb2
      have hk3 := (y3.block _ (lt_of_some hk2)).trans hk2
      have hmk3 := hmk2.ext y3
      obtain ⟨b0', b1'⟩ := box_2 hb3
      obtain ⟨k0', -⟩ := box_ky hk3
      have hl := hmk2.drew.look x1
      have hl' := hmk3.drew.look x1
      have hz3 := heap_alloc_new (wr.alloc (.cells #[.int .i64 x1, .bool x2, .int .u8 x3, .bool x4, .bool x5, .int .i64 x6] 60)) (.cells #[.int .i64 0, .bool false, .int .u8 0, .bool false, .bool false, .int .i64 0] 60)
      clear hb3 hk3 hmk3
      generalize (findK (l.take m) x1).getD Ky.zero = F at hl hl'
      generalize hF2 : (findK (l.take m) x1).isSome = G at hl hl'
      obtain ⟨z1, z2, z3, z4, z5, z6⟩ := F
      simp only [Ky.val] at hl hl'
      have HF2 := Lib.hid hF2
      clear hF2
      clear hc0 hd1 hx1 HI hmk hmk2 hbx hb2 hk2 how how2
      go_wp2_with (fail)
      go_big_region
      all_goals
        have y5 := ext_trans y2 (ext_alloc (wr.alloc (.cells #[.int .i64 x1, .bool x2, .int .u8 x3, .bool x4, .bool x5, .int .i64 x6] 60)) (.cells #[.int .i64 z1, .bool z2, .int .u8 z3, .bool z4, .bool z5, .int .i64 z6] 60))
        have y5 : Below wr.heap.size wr ((wr.alloc (.cells #[.int .i64 x1, .bool x2, .int .u8 x3, .bool x4, .bool x5, .int .i64 x6] 60)).alloc (.cells #[.int .i64 z1, .bool z2, .int .u8 z3, .bool z4, .bool z5, .int .i64 z6] 60)).drew := y5.drew
        have y6 : Below (wr.alloc (.cells #[.int .i64 x1, .bool x2, .int .u8 x3, .bool x4, .bool x5, .int .i64 x6] 60)).heap.size (wr.alloc (.cells #[.int .i64 x1, .bool x2, .int .u8 x3, .bool x4, .bool x5, .int .i64 x6] 60)) ((wr.alloc (.cells #[.int .i64 x1, .bool x2, .int .u8 x3, .bool x4, .bool x5, .int .i64 x6] 60)).alloc (.cells #[.int .i64 z1, .bool z2, .int .u8 z3, .bool z4, .bool z5, .int .i64 z6] 60)).drew := (ext_alloc (wr.alloc (.cells #[.int .i64 x1, .bool x2, .int .u8 x3, .bool x4, .bool x5, .int .i64 x6] 60)) (.cells #[.int .i64 z1, .bool z2, .int .u8 z3, .bool z4, .bool z5, .int .i64 z6] 60)).drew
        generalize ((wr.alloc (.cells #[.int .i64 x1, .bool x2, .int .u8 x3, .bool x4, .bool x5, .int .i64 x6] 60)).alloc (.cells #[.int .i64 z1, .bool z2, .int .u8 z3, .bool z4, .bool z5, .int .i64 z6] 60)).drew = w5 at *
        have hb5 := (y6.block _ (lt_of_some HB2.out)).trans HB2.out
        have hk5 := (y6.block _ (lt_of_some HK2.out)).trans HK2.out
        have hmk5 := HMK.out.ext y6
        have how5 := HOW2.out.below y6 (Nat.le_refl _)
        obtain ⟨b0, b1⟩ := box_2 hb5
        obtain ⟨k0, k1, k2, k3, k4, k5⟩ := box_ky hk5
        cases G with
        | true =>
          go_wp2_with (fail)
          refine bodyPost_ret (v := .tuple #[.pointer none, .int .i64 3]) (by simp [results, Tryd.results9, go_sem]) rfl ?_
          refine ⟨ext_trans y y5, .inr ⟨?_, rfl⟩⟩
          have h2 := HF2.out
          rw [← HI2.out]
          cases hq : findK (l.take m) x1 with
          | none => rw [hq] at h2; cases h2
          | some q => simp
        | false =>
          have hnone : findK (l.take m) x1 = none := by
            have h2 := HF2.out
            cases hq : findK (l.take m) x1 with
            | none => rfl
            | some q => rw [hq] at h2; cases h2
          have HNO := Lib.hid hnone
          have HB5 := Lib.hid hb5
          have HK5 := Lib.hid hk5
          have HM5 := Lib.hid hmk5
          have HO5 := Lib.hid how5
          clear hnone hb5 hk5 hmk5 how5
          go_wp2_with (go_at_call 25; refine Hid.out ?_)
          refine Lib.hid ?_
          refine (mayK_any x1 x6 x3 x2 x4 x5 w5).mono ?_
          rintro e w6 ⟨rfl, y7⟩
          generalize hmay : mayK ⟨x1, x2, x3, x4, x5, x6⟩ = M
          have HMA := Lib.hid hmay
          clear hmay b0 b1 k0 k1 k2 k3 k4 k5
          have hb6 := (y7.block _ (lt_of_some HB5.out)).trans HB5.out
          have hk6 := (y7.block _ (lt_of_some HK5.out)).trans HK5.out
          have hmk6 := HM5.out.ext y7
          have how6 := HO5.out.below y7 (Nat.le_refl _)
          have HO6 := Lib.hid how6
          have HB6 := Lib.hid hb6
          obtain ⟨b0, b1⟩ := box_2 hb6
          obtain ⟨k0, k1, k2, k3, k4, k5⟩ := box_ky hk6
          cases M with
          | false =>
            go_wp2_with (fail)
            refine bodyPost_ret (v := .tuple #[.pointer none, .int .i64 3]) (by simp [results, Tryd.results9, go_sem]) rfl ?_
            refine ⟨ext_trans y (ext_trans y5 y7), .inr ⟨?_, rfl⟩⟩
            rw [← HI2.out, HMA.out]; simp
          | true =>
            obtain ⟨w7, hrun, hm7, hh7, hs7, ho7, ht7, hu7⟩ := hmk6.drew.store ⟨x1, x2, x3, x4, x5, x6⟩ HNO.out
            simp only [Ky.val] at hrun
            clear hb6 hk6 hmk6 how6
            go_wp2_with (fail)
            go_region
            have hw2 : IntKind.i64.wrap ((m:Int) + 1) = (m : Int) + 1 := IntWalk.i64_in _ (by omega)
            go_wp2_with (fail)
            go_roundg (n - (m + 1))
            case measure => have := HG.out; omega
            case rel =>
              have hws := y1.size
              have hB : w.heap.size ≤ w6.drew.heap.size := (ext_trans y (ext_trans y5 y7)).size
              have e67 : Below w.heap.size w6.drew w7 := ⟨ho7, ht7, hu7, by rw [hs7]; exact Nat.le_refl _, fun k hk => hh7 k (by omega)⟩
              have hsz6 : w5.heap.size ≤ w6.heap.size := y7.size
              have hsz5 : wr.heap.size ≤ w5.heap.size := y5.size
              refine ⟨m + 1, by omega, rfl, by go_num, (ext_trans y (ext_trans y5 y7)).drew.trans e67, ?_, (hh7 _ (by omega)).trans HB6.out, ?_, ?_, Lib.hid (by rw [← HI2.out, HMA.out, HNO.out]; simp)⟩
              · rw [hs7]
                show w1.heap.size + 2 ≤ w6.heap.size
                omega
              · rw [List.take_add_one, HX.out]
                exact hm7
              · refine HO6.out.drew.keep fun k hk => hh7 k ?_
                have := (HOW.out.wb_lt k hk).2
                omega
    · have hmn : m = n := by omega
      have hfull : l.take m = l := List.take_of_length_le (by have := N.out; omega)
      have hR : R = true := by rw [← HI.out, List.drop_eq_nil_of_le (by have := N.out; omega)]; rfl
      have hRT := Lib.hid hR
      have HF := Lib.hid hfull
      obtain ⟨b0, b1⟩ := box_2 hbx
      have HB := Lib.hid hbx
      have HM := Lib.hid hmk
      have HO := Lib.hid how
      clear hR hfull hbx hmk how
      go_wp2_with (go_at_call 26; refine Hid.out ?_)
      refine Lib.hid ?_
      refine (sortKy_any A' l.length c' w.heap.size l wr HO.out (by have := N.out; omega)).mono ?_
      rintro e w2 ⟨rfl, ls, hp, hs, hr, y2, hk⟩
      have hwb : ∀ j, w1.heap.size ≤ j → j < wr.heap.size → w2.heap[j]? = wr.heap[j]? := fun j hj hj2 => hk j hj2 (fun k hk2 => by have := (HOW.out.wb_lt k hk2).2; omega)
      have hb2 := (hwb (w1.heap.size + 1) (by omega) (by omega)).trans HB.out
      have hm2 := HM.out
      rw [HF.out] at hm2
      have hm2 := hm2.keep (hwb w1.heap.size (by omega) (by omega))
      have HH : Hid (Sch w2 (w1.heap.size + 1) l) := Lib.hid ⟨w1.heap.size, A', l.length, c', ls, hb2, hm2, hp.length_eq.symm, hp, hs, hr⟩
      have yy := y.trans y2
      clear hp hs hr hk hwb hb2 hm2 b0 b1
      go_wp2_with (fail)
      refine bodyPost_ret (v := .tuple #[.pointer (some ⟨w1.heap.size + 1, 0, none⟩), .int .i64 0]) (by simp [results, Tryd.results9, go_sem]) rfl ?_
      exact ⟨yy, .inl ⟨hRT.out, _, rfl, HH.out⟩⟩
end Go.Proofs.YtipoeidmblnbbaaDoor
/- When a set may be one of a schema: the plain answer. -/
namespace Go.Proofs.YtipoeidmblnbbaaDoor
set_option linter.unusedVariables false
set_option linter.unusedSimpArgs false

def okA (a : At) : Bool := mayV a.v
def thereA (l : List Ky) (a : At) : Bool := fitsK l a.key a.v
def mayS (l : List Ky) (p : List At) : Int := if 64 < p.length then 3 else if riseA p = true ∧ p.all okA = true then (if p.all (thereA l) = true then 0 else 4) else 3
/-- the fields' ranges of the attributes' values -/
def okVa (p : List At) : Prop := ∀ c ∈ p, okV c.v ∧ c.v.s.size ≤ 100000000
theorem mayS_zero {l : List Ky} {p : List At} (h : mayS l p = 0) : p.length ≤ 64 ∧ riseA p = true ∧ (∀ a ∈ p, okA a = true) ∧ ∀ a ∈ p, thereA l a = true := by
  unfold mayS at h
  by_cases h1 : 64 < p.length
  · rw [if_pos h1] at h; cases h
  · rw [if_neg h1] at h
    by_cases h2 : riseA p = true ∧ p.all okA = true
    · rw [if_pos h2] at h
      by_cases h3 : p.all (thereA l) = true
      · exact ⟨by omega, h2.1, List.all_eq_true.1 h2.2, List.all_eq_true.1 h3⟩
      · rw [if_neg h3] at h; cases h
    · rw [if_neg h2] at h; cases h
end Go.Proofs.YtipoeidmblnbbaaDoor
/- A region that draws its order, walked once over a class of worlds: what is kept in them is read, callees may make memory, and what they answer hangs on no world. Nothing of the program stands here. -/
namespace Go.Proofs.YtipoeidmblnbbaaDoor
open Go.RowKit
set_option linter.unusedVariables false

/-- Later than w, and these blocks stand. -/
def GoodB (w : World) (O : List (Nat × Obj)) (x : World) : Prop := Below w.heap.size w x ∧ ∀ p ∈ O, x.heap[p.1]? = some p.2
/-- A world of the class. -/
structure GW (w : World) (O : List (Nat × Obj)) where
  val : World
  ok : GoodB w O val

section
variable {P : Program} {w v : World} {O : List (Nat × Obj)}
theorem GoodB.later {x y : World} (h : GoodB w O x) (hy : Below x.heap.size x y) : GoodB w O y :=
  ⟨ext_trans h.1 hy, fun p hp => by
    have h1 := h.2 p hp
    rw [hy.block p.1 (Array.getElem?_eq_some_iff.1 h1).1]
    exact h1⟩
theorem good_call {f : FuncId} {args : Array Value} {r : Value} (x : GW w O) (h : Calls P f args x.val fun e w' => e = .returned r ∧ Below x.val.heap.size x.val w') :
    Calls P f args x.val fun e w' => e = .returned r ∧ ∃ y : GW w O, w' = y.val :=
  h.mono fun e w' ⟨he, hb⟩ => ⟨he, ⟨w', x.ok.later hb⟩, rfl⟩
theorem good_drawn (h : GoodB w O v) : ∃ x : GW w O, ({ v with drawn := v.drawn + 1 } : World) = x.val :=
  ⟨⟨{ v with drawn := v.drawn + 1 }, ⟨h.1.os, h.1.tape, h.1.output, h.1.size, h.1.block⟩, h.2⟩, rfl⟩
theorem wp_region_class {id : Nat} {Q : Exit → Act → World → Prop} {a : Act} {l : List Oper} (hm : P.follows .mixedOrders = true) (hB : Region.lexB .any l.toArray = true) (hC : GoodB w O v)
    (h : wpQuiet P l.toArray (fun w' => ∃ x : GW w O, w' = x.val) (fun a' => ∀ w', (∃ x : GW w O, w' = x.val) → Q .normal a' w') l a) : (Code.region id l.toArray true).wp P Q a v :=
  wp_region_quiet (C := fun w' => ∃ x : GW w O, w' = x.val) hm hB (good_drawn hC) (by simpa using h)
theorem good_block {b : Nat} {o : Obj} (h : (b, o) ∈ O) (x : GW w O) : x.val.heap[b]? = some o := x.ok.2 _ h
theorem good_cells {b : Nat} {cs : Array Value} {t : TypeId} (h : (b, Obj.cells cs t (0, 0)) ∈ O) (x : GW w O) (j : Nat) (u : Value) (hj : cs[j]? = some u) : x.val.cell? ⟨b, j, none⟩ = some u := by
  have := x.ok.2 _ h
  simp only [World.cell?, this]
  exact hj
end
end Go.Proofs.YtipoeidmblnbbaaDoor
/- The tables of utf8 in a class of worlds. -/
namespace Go.Proofs.YtipoeidmblnbbaaDoor
open Go.RowKit

theorem tabs_good {w : World} {O : List (Nat × Obj)} {a b : Nat} (hT : Lib.Utf8Tabs a b w) (x : GW w O) : Lib.Utf8Tabs a b x.val := Utf8Tabs_below hT x.ok.1
end Go.Proofs.YtipoeidmblnbbaaDoor
/- The walk of attrs.May. -/
namespace Go.Proofs.YtipoeidmblnbbaaDoor
open Go.RowKit
set_option linter.unusedVariables false
set_option linter.unusedSimpArgs false

/-- the fields' ranges of the attributes' values -/
def okVr (p : List At) : Prop := ∀ c ∈ p, okV c.v
def loopS (l : List Ky) : Option Int → Int → List At → Int
  | _, e, [] => e
  | prev, e, c :: r => if (prev.all (fun k => decide (k < c.key)) && okA c) = true then loopS l (some c.key) (if thereA l c = true then e else 4) r else 3
theorem loopS_some (l : List Ky) : ∀ (p : List At) (k : Int) (e : Int), loopS l (some k) e p = if rise (k :: p.map (·.key)) = true ∧ p.all okA = true then (if p.all (thereA l) = true then e else 4) else 3
  | [], k, e => by simp [loopS, rise]
  | c :: r, k, e => by
    unfold loopS
    rw [loopS_some l r c.key]
    by_cases h1 : k < c.key
    · by_cases h2 : okA c = true
      · by_cases h3 : thereA l c = true
        · simp [h1, h2, h3, rise]
        · have h3 : thereA l c = false := by simpa using h3
          simp [h1, h2, h3, rise]
      · have h2 : okA c = false := by simpa using h2
        simp [h1, h2]
    · simp [h1, rise]
theorem loopS_none (l : List Ky) (p : List At) (h : p.length ≤ 64) : loopS l none 0 p = mayS l p := by
  unfold mayS
  rw [if_neg (by omega)]
  cases p with
  | nil => simp [loopS, riseA, rise]
  | cons c r =>
    unfold loopS
    rw [loopS_some]
    by_cases h2 : okA c = true
    · by_cases h3 : thereA l c = true
      · simp [h2, h3, riseA]
      · have h3 : thereA l c = false := by simpa using h3
        simp [h2, h3, riseA]
    · have h2 : okA c = false := by simpa using h2
      simp [h2]
theorem mayV_class {k n f : Int} {s : ByteArray} {b : Bool} {w : World} {O : List (Nat × Obj)} (hT : Lib.Utf8Tabs 1 2 w) (h0 : 0 ≤ f) (h1 : f < 18446744073709551616) (h : mayV ⟨k, n, f, s⟩ = b) (x : GW w O) :
    Calls Tryd.prog 63 #[.agg #[.int .u8 k, .int .i64 n, .int .u64 f, .string s]] x.val fun e w' => e = .returned (.bool b) ∧ ∃ y : GW w O, w' = y.val :=
  good_call x ((mayV_any k n f s x.val h0 h1 (tabs_good hT x)).mono fun e w' h' => ⟨by rw [h'.1, h], h'.2⟩)

set_option maxRecDepth 100000 in
set_option maxHeartbeats 3200000 in
theorem mayS_any (s : Nat) (l : List Ky) (A : Option Addr) (n c : Nat) (p : List At) (w : World) (hn : n = p.length) (h : RdAt w w.heap.size A p) (hb : n ≤ 140737488355328) (hS : Sch w s l) (hv : okVr p) (hT : Lib.Utf8Tabs 1 2 w) :
    Calls Tryd.prog 33 #[.pointer (some ⟨s, 0, none⟩), .slice A n c] w fun e w' => e = .returned (.int .i64 (mayS l p)) ∧ Below w.heap.size w w' := by
  have N := Lib.hid hn
  generalize hR : mayS l p = R
  have HR := Lib.hid hR
  clear hn hR
  by_cases h64 : (64 : Int) < (n : Int)
  · go_enter Tryd.func33, Tryd.ntmps33
    go_wp2_with (fail)
    go_ret
    refine ⟨ret_int ?_, Below.refl _ _⟩
    rw [← HR.out]
    have := N.out
    unfold mayS
    rw [if_pos (by omega)]
  have HP : Hid (loopS l none 0 p = R) := Lib.hid (by rw [← HR.out]; exact loopS_none l p (by have := N.out; omega))
  go_enter Tryd.func33, Tryd.ntmps33
  go_wp2_with (fail)
  go_loopg [5, 13] n (fun g ev iv wr => ∃ (m : Nat) (ei : Int), m ≤ n ∧ g = n - m ∧ ev = .int .i64 ei ∧ iv = .int .i64 (m : Int) ∧ Below w.heap.size w wr ∧ Hid (loopS l (if m = 0 then none else (p[m - 1]?).map (·.key)) ei (p.drop m) = R))
  case atStart => exact ⟨0, 0, by omega, rfl, rfl, rfl, Below.refl _ _, Lib.hid (by rw [List.drop_zero]; exact HP.out)⟩
  case round =>
    obtain ⟨m, ei, hm, hg, rfl, rfl, y, HI⟩ := hrel
    have HG := Lib.hid hg
    clear hg HR HP
    by_cases hlt : m < n
    · have hl1 : m < p.length := by have := N.out; omega
      obtain ⟨ad, x, rfl, had, hd1, hx1, hc0⟩ := (h.below y (Nat.le_refl _)).el hl1
      have hxv := hv x (List.mem_of_getElem? hx1)
      obtain ⟨x1, x2, x3, x4, x5⟩ := x
      obtain ⟨r0, r1, r2, r3, r4⟩ := at_cells hc0
      obtain ⟨f0, f1⟩ : 0 ≤ x4 ∧ x4 < 18446744073709551616 := ⟨hxv.f0, hxv.f1⟩
      have HI2 : Hid ((if ((if m = 0 then none else (p[m - 1]?).map (·.key)).all (fun k => decide (k < x1)) && okA ⟨x1, x2, x3, x4, x5⟩) = true then loopS l (some x1) (if thereA l ⟨x1, x2, x3, x4, x5⟩ = true then ei else 4) (p.drop (m + 1)) else 3) = R) := Lib.hid (by
        rw [← HI.out, hd1]; rfl)
      have HX := Lib.hid hx1
      have hk2 := heap_alloc_new wr (.cells #[.int .i64 x1, .int .u8 x2, .int .i64 x3, .int .u64 x4, .string x5] 58)
      have y2 := ext_trans y (ext_alloc wr (.cells #[.int .i64 x1, .int .u8 x2, .int .i64 x3, .int .u64 x4, .string x5] 58))
      have HK2 := Lib.hid hk2
      clear hc0 hd1 hx1 HI hxv
      have hw2 : IntKind.i64.wrap ((m:Int) + 1) = (m : Int) + 1 := IntWalk.i64_in _ (by omega)
      obtain ⟨M, hM⟩ : ∃ X, mayV ⟨x2, x3, x4, x5⟩ = X := ⟨_, rfl⟩
      have HM := Lib.hid hM
      have HOK : Hid (okA ⟨x1, x2, x3, x4, x5⟩ = M) := Lib.hid hM
      clear hM hk2
      go_wp2_with (fail)
      have hB : wr.heap.size = wr.heap.size := rfl
      obtain ⟨O, hO⟩ : ∃ O : List (Nat × Obj), O = [(wr.heap.size, .cells #[.int .i64 x1, .int .u8 x2, .int .i64 x3, .int .u64 x4, .string x5] 58 (0, 0))] := ⟨_, rfl⟩
      have gg : GoodB w O _ := ⟨y2, by rw [hO]; intro p hp; simp only [List.mem_cons, List.not_mem_nil, or_false] at hp; rcases hp with rfl; exact HK2.out⟩
      have b0 : ∀ x : GW w O, x.val.cell? ⟨wr.heap.size, 0, none⟩ = some (.int .i64 x1) := fun x => good_cells (cs := #[.int .i64 x1, .int .u8 x2, .int .i64 x3, .int .u64 x4, .string x5]) (t := 58) (by rw [hO]; simp) x 0 _ rfl
      have b1 : ∀ x : GW w O, x.val.cell? ⟨wr.heap.size, 1, none⟩ = some (.int .u8 x2) := fun x => good_cells (cs := #[.int .i64 x1, .int .u8 x2, .int .i64 x3, .int .u64 x4, .string x5]) (t := 58) (by rw [hO]; simp) x 1 _ rfl
      have b2 : ∀ x : GW w O, x.val.cell? ⟨wr.heap.size, 2, none⟩ = some (.int .i64 x3) := fun x => good_cells (cs := #[.int .i64 x1, .int .u8 x2, .int .i64 x3, .int .u64 x4, .string x5]) (t := 58) (by rw [hO]; simp) x 2 _ rfl
      have b3 : ∀ x : GW w O, x.val.cell? ⟨wr.heap.size, 3, none⟩ = some (.int .u64 x4) := fun x => good_cells (cs := #[.int .i64 x1, .int .u8 x2, .int .i64 x3, .int .u64 x4, .string x5]) (t := 58) (by rw [hO]; simp) x 3 _ rfl
      have b4 : ∀ x : GW w O, x.val.cell? ⟨wr.heap.size, 4, none⟩ = some (.string x5) := fun x => good_cells (cs := #[.int .i64 x1, .int .u8 x2, .int .i64 x3, .int .u64 x4, .string x5]) (t := 58) (by rw [hO]; simp) x 4 _ rfl
      have HBX : Hid (∀ x : GW w O, x.val.heap[wr.heap.size]? = some (.cells #[.int .i64 x1, .int .u8 x2, .int .i64 x3, .int .u64 x4, .string x5] 58 (0, 0))) := Lib.hid (fun x => good_block (by rw [hO]; simp) x)
      clear hO r0 r1 r2 r3 r4 hB
      haveI : Nonempty (GW w O) := ⟨⟨_, gg⟩⟩
      cases m with
      | zero =>
        have HI3 : Hid ((if okA ⟨x1, x2, x3, x4, x5⟩ = true then loopS l (some x1) (if thereA l ⟨x1, x2, x3, x4, x5⟩ = true then ei else 4) (p.drop (0 + 1)) else 3) = R) := Lib.hid (by rw [← HI2.out]; simp)
        clear HI2
        cases M with
        | false =>
          refine wp_region_class (by kernel_rfl) (by kernel_rfl) gg ?_
          repeat (go_big_quiet_step (first | (go_at_call 63; with_reducible exact mayV_class hT f0 f1 HM.out _)))
          refine wpQuiet_nil ?_
          intro _ hw'
          obtain ⟨xx, rfl⟩ := hw'
          have yx := xx.ok.1
          have hbx := HBX.out xx
          generalize xx.val = w8 at *
          clear b0 b1 b2 b3 b4
          go_wp2_with (fail)
          go_ret
          exact ⟨ret_int (by rw [← HI3.out, HOK.out]; rfl), yx⟩
        | true =>
          refine wp_region_class (by kernel_rfl) (by kernel_rfl) gg ?_
          repeat (go_big_quiet_step (first | (go_at_call 63; with_reducible exact mayV_class hT f0 f1 HM.out _)))
          refine wpQuiet_nil ?_
          intro _ hw'
          obtain ⟨xx, rfl⟩ := hw'
          have yx := xx.ok.1
          have hbx := HBX.out xx
          generalize xx.val = w8 at *
          clear b0 b1 b2 b3 b4
          obtain ⟨b0, b1, b2, b3, b4⟩ := box_at hbx
          have HTH : Hid (thereA l ⟨x1, x2, x3, x4, x5⟩ = fitsK l x1 ⟨x2, x3, x4, x5⟩) := Lib.hid rfl
          clear hbx
          go_wp2_with (go_at_call 64; refine Hid.out ?_)
          refine Lib.hid ?_
          refine (fitsS_any s l x1 x2 x3 x4 x5 _ (hS.ext yx) f0 f1 (Utf8Tabs_below hT yx)).mono ?_
          rintro e w7 ⟨rfl, y7⟩
          have yy7 := ext_trans yx y7
          generalize fitsK l x1 ⟨x2, x3, x4, x5⟩ = F at HTH ⊢
          cases F with
          | false =>
            go_wp2_with (fail)
            go_roundg (n - (0 + 1))
            case measure => have := HG.out; omega
            case rel => exact ⟨0 + 1, 4, by omega, rfl, rfl, by go_num, yy7, Lib.hid (by rw [← HI3.out, if_neg (show ¬ (0 + 1 = 0) by omega), Nat.add_sub_cancel, HX.out]; rw [HOK.out, HTH.out]; rfl)⟩
          | true =>
            go_wp2_with (fail)
            go_roundg (n - (0 + 1))
            case measure => have := HG.out; omega
            case rel => exact ⟨0 + 1, ei, by omega, rfl, rfl, by go_num, yy7, Lib.hid (by rw [← HI3.out, if_neg (show ¬ (0 + 1 = 0) by omega), Nat.add_sub_cancel, HX.out]; rw [HOK.out, HTH.out]; rfl)⟩
      | succ k =>
        obtain ⟨ad', z, e, _, _, hz1, hz0⟩ := h.el (show k < p.length by omega)
        injection e with e; subst e
        obtain ⟨z1, z2, z3, z4, z5⟩ := z
        have HZ := Lib.hid hz0
        have s0 : ∀ x : GW w O, x.val.cell? _ = some (Value.int IntKind.i64 z1) := fun x => (at_cells (HZ.out.keep (w' := x.val) fun q hq => x.ok.1.cell (by rw [hq, add_block]; exact had))).1
        have HI4 : Hid ((if (decide (z1 < x1) && okA ⟨x1, x2, x3, x4, x5⟩) = true then loopS l (some x1) (if thereA l ⟨x1, x2, x3, x4, x5⟩ = true then ei else 4) (p.drop (k + 1 + 1)) else 3) = R) := Lib.hid (by
          rw [← HI2.out, if_neg (show ¬ (k + 1 = 0) by omega), Nat.add_sub_cancel, hz1]; simp)
        clear HI2 hz1 hz0
        have hkn : k < n := by omega
        have hw1 : IntKind.i64.wrap (k:Int) = (k : Int) := IntWalk.i64_in _ (by omega)
        by_cases hle : x1 ≤ z1
        · have HI3 : Hid ((3 : Int) = R) := Lib.hid (by rw [← HI4.out, show decide (z1 < x1) = false from decide_eq_false (by omega)]; simp)
          clear HI4
          refine wp_region_class (by kernel_rfl) (by kernel_rfl) gg ?_
          repeat (go_big_quiet_step (first | (go_at_call 63; with_reducible exact mayV_class hT f0 f1 HM.out _)))
          refine wpQuiet_nil ?_
          intro _ hw'
          obtain ⟨xx, rfl⟩ := hw'
          have yx := xx.ok.1
          have hbx := HBX.out xx
          generalize xx.val = w8 at *
          clear b0 b1 b2 b3 b4 s0
          go_wp2_with (fail)
          go_ret
          exact ⟨ret_int HI3.out, yx⟩
        · have HI3 : Hid ((if okA ⟨x1, x2, x3, x4, x5⟩ = true then loopS l (some x1) (if thereA l ⟨x1, x2, x3, x4, x5⟩ = true then ei else 4) (p.drop (k + 1 + 1)) else 3) = R) := Lib.hid (by rw [← HI4.out, show decide (z1 < x1) = true from decide_eq_true (by omega)]; simp)
          clear HI4
          cases M with
          | false =>
            refine wp_region_class (by kernel_rfl) (by kernel_rfl) gg ?_
            repeat (go_big_quiet_step (first | (go_at_call 63; with_reducible exact mayV_class hT f0 f1 HM.out _)))
            refine wpQuiet_nil ?_
            intro _ hw'
            obtain ⟨xx, rfl⟩ := hw'
            have yx := xx.ok.1
            have hbx := HBX.out xx
            generalize xx.val = w8 at *
            clear b0 b1 b2 b3 b4 s0
            go_wp2_with (fail)
            go_ret
            exact ⟨ret_int (by rw [← HI3.out, HOK.out]; rfl), yx⟩
          | true =>
            refine wp_region_class (by kernel_rfl) (by kernel_rfl) gg ?_
            repeat (go_big_quiet_step (first | (go_at_call 63; with_reducible exact mayV_class hT f0 f1 HM.out _)))
            refine wpQuiet_nil ?_
            intro _ hw'
            obtain ⟨xx, rfl⟩ := hw'
            have yx := xx.ok.1
            have hbx := HBX.out xx
            generalize xx.val = w8 at *
            clear b0 b1 b2 b3 b4 s0
            obtain ⟨b0, b1, b2, b3, b4⟩ := box_at hbx
            have HTH : Hid (thereA l ⟨x1, x2, x3, x4, x5⟩ = fitsK l x1 ⟨x2, x3, x4, x5⟩) := Lib.hid rfl
            clear hbx
            go_wp2_with (go_at_call 64; refine Hid.out ?_)
            refine Lib.hid ?_
            refine (fitsS_any s l x1 x2 x3 x4 x5 _ (hS.ext yx) f0 f1 (Utf8Tabs_below hT yx)).mono ?_
            rintro e w7 ⟨rfl, y7⟩
            have yy7 := ext_trans yx y7
            generalize fitsK l x1 ⟨x2, x3, x4, x5⟩ = F at HTH ⊢
            cases F with
            | false =>
              go_wp2_with (fail)
              go_roundg (n - ((k + 1) + 1))
              case measure => have := HG.out; omega
              case rel => exact ⟨(k + 1) + 1, 4, by omega, rfl, rfl, by go_num, yy7, Lib.hid (by rw [← HI3.out, if_neg (show ¬ ((k + 1) + 1 = 0) by omega), Nat.add_sub_cancel, HX.out]; rw [HOK.out, HTH.out]; rfl)⟩
            | true =>
              go_wp2_with (fail)
              go_roundg (n - ((k + 1) + 1))
              case measure => have := HG.out; omega
              case rel => exact ⟨(k + 1) + 1, ei, by omega, rfl, rfl, by go_num, yy7, Lib.hid (by rw [← HI3.out, if_neg (show ¬ ((k + 1) + 1 = 0) by omega), Nat.add_sub_cancel, HX.out]; rw [HOK.out, HTH.out]; rfl)⟩
    · have hmn : m = n := by omega
      go_wp2_with (fail)
      go_ret
      refine ⟨ret_int ?_, y⟩
      rw [← HI.out, List.drop_eq_nil_of_le (by have := N.out; omega)]
      rfl
end Go.Proofs.YtipoeidmblnbbaaDoor
