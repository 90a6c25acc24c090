/- Merged texts: ComposeW, OpKnown, Known19, Same15D. -/
import Derived.Test.YtfnkjcodcoehcaaGreatDoorS35
import Derived.Test.YtfnkjcodcoehcaaGreatDoorS36
import Derived.Test.YtfnkjcodcoehcaaGreatDoorS37
import Derived.Test.YtfnkjcodcoehcaaGreatDoorS26
import Derived.Test.YtfnkjcodcoehcaaGreatDoorS15
import Derived.Test.YtfnkjcodcoehcaaGreatDoorS24
import Derived.Test.YtfnkjcodcoehcaaGreatDoorS25
import Derived.Test.YtfnkjcodcoehcaaGreatDoorS19
import Derived.Test.YtfnkjcodcoehcaaGreatDoorS12
namespace Go.Proofs.YtfnkjcodcoehcaaGreatDoor
open Go.RowKit
set_option linter.unusedVariables false
set_option linter.unusedSimpArgs false

/-- both readers and the maker -/
structure CSt (w wr : World) (b bu bv : Nat) (X : List OpS) (a : Nat) (Y : List OpS) (c : Nat) (m : Mk) : Prop where
  x : Rdr w wr bu X a
  y : Rdr w wr bv Y c
  m : ∃ F, Mkr wr F b m ∧ (∀ k, F k → w.heap.size ≤ k) ∧ ¬ F bu ∧ ¬ F bv
  ne : bu ≠ bv
  lu : w.heap.size ≤ bu
  lv : w.heap.size ≤ bv
  below : Below w.heap.size w wr
theorem CSt.more {w wr w2 : World} {b bu bv a c : Nat} {X Y : List OpS} {m : Mk} (h : CSt w wr b bu bv X a Y c m) (y : Below wr.heap.size wr w2) : CSt w w2 b bu bv X a Y c m := by
  obtain ⟨h1, h2, ⟨F, h3, h4, h5, h6⟩, h7, h8, h9, h10⟩ := h
  exact ⟨h1.ext y, h2.ext y, ⟨F, h3.below y, h4, h5, h6⟩, h7, h8, h9, h10.trans (y.mono h10.size)⟩
theorem Rdr.box {w0 w : World} {b a : Nat} {X : List OpS} (h : Rdr w0 w b X a) : ∃ A n c, w.heap[b]? = some (.cells #[.slice A n c, .int .i64 (a : Int)] 141 (0, 0)) := by
  obtain ⟨A, n, c, hb, _⟩ := h; exact ⟨A, n, c, hb⟩
theorem CSt.tookX {w wr w2 : World} {b bu bv a c a' : Nat} {X Y X' : List OpS} {m : Mk} (h : CSt w wr b bu bv X a Y c m) (hr : Rdr w w2 bu X' a') (g : Grow wr (fun k => k = bu) w2 (fun k => k = bu)) : CSt w w2 b bu bv X' a' Y c m := by
  obtain ⟨h1, h2, ⟨F, h3, h4, h5, h6⟩, h7, h8, h9, h10⟩ := h
  obtain ⟨A, n, cc, hb⟩ := h1.box
  exact ⟨hr, h2.keep (g.block bv h2.lt (fun e => h7 e.symm)), ⟨F, h3.beside hb (NoPart.rdr _ _ _ _) h5 g, h4, h5, h6⟩, h7, h8, h9, h10.trans (g.below (fun k hk => by omega) h10.size)⟩
theorem CSt.tookY {w wr w2 : World} {b bu bv a c c' : Nat} {X Y Y' : List OpS} {m : Mk} (h : CSt w wr b bu bv X a Y c m) (hr : Rdr w w2 bv Y' c') (g : Grow wr (fun k => k = bv) w2 (fun k => k = bv)) : CSt w w2 b bu bv X a Y' c' m := by
  obtain ⟨h1, h2, ⟨F, h3, h4, h5, h6⟩, h7, h8, h9, h10⟩ := h
  obtain ⟨A, n, cc, hb⟩ := h2.box
  exact ⟨h1.keep (g.block bu h1.lt (fun e => h7 e)), hr, ⟨F, h3.beside hb (NoPart.rdr _ _ _ _) h6 g, h4, h5, h6⟩, h7, h8, h9, h10.trans (g.below (fun k hk => by omega) h10.size)⟩
/-- behind a call on the maker -/
theorem CSt.told {w wr w2 : World} {b bu bv a c : Nat} {X Y : List OpS} {m m2 : Mk} {F F2 : Nat → Prop} (h : CSt w wr b bu bv X a Y c m) (low : ∀ k, F k → w.heap.size ≤ k) (nu : ¬ F bu) (nv : ¬ F bv) (hm : Mkr w2 F2 b m2) (g : Grow wr F w2 F2) : CSt w w2 b bu bv X a Y c m2 := by
  obtain ⟨h1, h2, _, h7, h8, h9, h10⟩ := h
  exact ⟨h1.keep (g.block bu h1.lt nu), h2.keep (g.block bv h2.lt nv), ⟨F2, hm, g.low low h10.size, g.out h1.lt nu, g.out h2.lt nv⟩, h7, h8, h9, h10.trans (g.below low h10.size)⟩
set_option maxHeartbeats 1600000 in
theorem cmay_any (s : Nat) (l : List Ky) (Ax Ay : Option Addr) (nx cx ny cy : Nat) (x y : List OpS) (w : World) (hX : OpsAt w Ax nx x) (hY : OpsAt w Ay ny y) (hS : Sch w s l) (hT : Lib.Utf8Tabs 1 2 w) {r : Int} (hr : mayC l x y = r) :
    Calls Tryz.prog 97 #[.pointer (some ⟨s, 0, none⟩), .slice Ax nx cx, .slice Ay ny cy] w fun e w' => e = .returned (.int .i64 r) ∧ Below w.heap.size w w' := by
  have XX := Lib.hid hX
  have YY := Lib.hid hY
  have HS := Lib.hid hS
  have HR := Lib.hid hr
  clear hX hY hS hr
  go_enter Tryz.func97, Tryz.ntmps97
  go_wp2_with (go_at_call 88; refine Hid.out ?_)
  refine Lib.hid ?_
  refine (mayO_any s l Ax nx cx x w XX.out.len XX.out.rd (by have := XX.out.b; omega) HS.out XX.out.ok hT).mono ?_
  obtain ⟨a, ha⟩ : ∃ a, mayO l x = a := ⟨_, rfl⟩
  have HA := Lib.hid ha
  rw [ha]
  clear ha
  rintro e w1 ⟨rfl, y1⟩
  have Y1 := Lib.hid y1
  clear y1
  go_wp2_with (go_at_call 88; refine Hid.out ?_)
  refine Lib.hid ?_
  refine (mayO_any s l Ay ny cy y w1 YY.out.len (YY.out.rd.ext Y1.out) (by have := YY.out.b; omega) (HS.out.ext Y1.out) YY.out.ok (Utf8Tabs_below hT Y1.out)).mono ?_
  obtain ⟨b, hb⟩ : ∃ b, mayO l y = b := ⟨_, rfl⟩
  have HB := Lib.hid hb
  rw [hb]
  clear hb
  rintro e w2 ⟨rfl, y2⟩
  have Y2 := Lib.hid (ext_trans Y1.out y2)
  clear y2
  have hm : Hid (r = if a = 0 ∨ b = 3 then b else a) := Lib.hid (by rw [← HR.out, ← HA.out, ← HB.out]; rfl)
  by_cases ha : a = 0
  · have hr : Hid (r = b) := Lib.hid (by rw [hm.out, if_pos (.inl ha)])
    clear hm HA HB HR
    subst ha
    go_wp2_with (fail)
    go_ret
    exact ⟨by rw [hr.out]; rfl, Y2.out⟩
  · have ha' : (a == 0) = false := beq_eq_false_iff_ne.2 ha
    by_cases hb : b = 3
    · have hr : Hid (r = b) := Lib.hid (by rw [hm.out, if_pos (.inr hb)])
      clear hm HA HB HR
      subst hb
      go_wp2_with (fail)
      go_ret
      exact ⟨by rw [hr.out]; rfl, Y2.out⟩
    · have hb' : (b == 3) = false := beq_eq_false_iff_ne.2 hb
      have hr : Hid (r = a) := Lib.hid (by rw [hm.out, if_neg (by rintro (h | h); exact ha h; exact hb h)])
      clear hm HA HB HR
      go_wp2_with (fail)
      go_ret
      exact ⟨by rw [hr.out]; rfl, Y2.out⟩
/-- two deltas that may not both be are refused -/
theorem composeBad_any (s : Nat) (l : List Ky) (Ax Ay : Option Addr) (nx cx ny cy : Nat) (x y : List OpS) (w : World) (hX : OpsAt w Ax nx x) (hY : OpsAt w Ay ny y) (hS : Sch w s l) (hT : Lib.Utf8Tabs 1 2 w) {r : Int} (hr : mayC l x y = r) (h0 : r ≠ 0) :
    Calls Tryz.prog 42 #[.pointer (some ⟨s, 0, none⟩), .slice Ax nx cx, .slice Ay ny cy] w fun e w' => e = .returned (.tuple #[.slice none 0 0, .int .i64 r]) ∧ Below w.heap.size w w' := by
  have HC := Lib.hid (cmay_any s l Ax Ay nx cx ny cy x y w hX hY hS hT hr)
  have h0' : (r != 0) = true := by rw [bne, beq_eq_false_iff_ne.2 h0]; rfl
  clear hX hY hS hr
  go_enter Tryz.func42, Tryz.ntmps42
  go_wp2_with (fail)
  go_step3
  go_wp2_with (go_at_call 97; refine Hid.out ?_)
  refine Lib.hid ?_
  refine HC.out.mono ?_
  rintro e w1 ⟨rfl, y⟩
  have Y := Lib.hid y
  clear y
  go_wp2_with (fail)
  rw [Exit.noGoto_ret]
  refine bodyPost_ret (v := .tuple #[.slice none 0 0, .int .i64 r]) (by simp [results, Tryz.results42, go_sem]) rfl ?_
  exact ⟨rfl, Y.out⟩
theorem NewOps.opCW {m : Mk} {us : List Un} {K S : Nat} {w0 w w' : World} {e : Ending} (h : NewOps (mkOps m) w e w') (ht : Told m us) (hu : ∀ u ∈ us, okUn u) (hB : MkB m K S) (hK : K ≤ 900000) (hS : S ≤ 100000000) (hw : w0.heap.size ≤ w.heap.size) :
    ∃ A c x, e = .returned (.slice A x.length c) ∧ osOf x = mkU us ∧ OpsC w' A x.length c x ∧ WrO w' w0.heap.size A x.length c x ∧ Below w.heap.size w w' := by
  obtain ⟨A, c, x, he, hx, ho, hp, y⟩ := h
  obtain ⟨h1, h2⟩ := ok_made hx ht hu hB (by omega) hS
  obtain ⟨c1, c2⟩ := cap_own ho
  exact ⟨A, c, x, he, hx.trans (told_mkU ht), ⟨⟨rd_made ho hp, rfl, h1, by omega⟩, c1, c2, fun z hz => by obtain ⟨g, hg⟩ := hp z hz; exact cap_part hg⟩, WrO.of (ho.base_le hw) (fun z hz => (hp z hz).imp fun g p => p.base_le hw), y⟩
/-- what Compose answers of two deltas that may be: ops, or that they are too long -/
def ComOut (l : List Ky) (x y : List OpS) (w : World) (e : Ending) (w' : World) : Prop :=
  ∃ z : List OpS, osOf z = mkU (compU l (units (osOf x)) (units (osOf y))) ∧ Below w.heap.size w w' ∧ z.length ≤ 1000000 ∧
    ((¬ (takesP z > 536870912 ∨ makesP z > 536870912) ∧ ∃ A c, e = .returned (.tuple #[.slice A z.length c, .int .i64 0]) ∧ OpsC w' A z.length c z ∧ WrO w' w.heap.size A z.length c z) ∨ ((takesP z > 536870912 ∨ makesP z > 536870912) ∧ e = .returned (.tuple #[.slice none 0 0, .int .i64 3])))
set_option maxRecDepth 100000 in
set_option maxHeartbeats 12800000 in
theorem composeAll_any (s : Nat) (l : List Ky) (Ax Ay : Option Addr) (nx cx ny cy : Nat) (x y : List OpS) (w : World) (hX : OpsC w Ax nx cx x) (hY : OpsC w Ay ny cy y) (hS : Sch w s l) (hl : l.length ≤ 64) (hT : Lib.Utf8Tabs 1 2 w)
    (mx : mayO l x = 0) (my : mayO l y = 0) (zx : szN x ≤ 200000) (zy : szN y ≤ 200000) :
    Calls Tryz.prog 42 #[.pointer (some ⟨s, 0, none⟩), .slice Ax nx cx, .slice Ay ny cy] w (ComOut l x y w) := by
  obtain ⟨gx, tx1, tx2⟩ := mayO_zero mx
  obtain ⟨gy, ty1, ty2⟩ := mayO_zero my
  have GX := Lib.hid gx
  have GY := Lib.hid gy
  have IX := Lib.hid (good_isOp gx)
  have IY := Lib.hid (good_isOp gy)
  obtain ⟨T, hT0⟩ : ∃ T, compU l (units (osOf x)) (units (osOf y)) = T := ⟨_, rfl⟩
  have TT := Lib.hid hT0
  have OKT : Hid (∀ u ∈ T, mU l u ∧ okUn u) := Lib.hid (by
    rw [← hT0]
    refine comp_okUn (fun u hu => ⟨good_mU gx u hu, ?_⟩) (fun u hu => ⟨good_mU gy u hu, ?_⟩) hl
    · obtain ⟨o, ho, hu⟩ := units_mem.1 hu; exact okUn_of (hX.at_.ok o ho) u hu
    · obtain ⟨o, ho, hu⟩ := units_mem.1 hu; exact okUn_of (hY.at_.ok o ho) u hu)
  have TLEN : Hid (T.length ≤ 4000000000) := Lib.hid (by
    obtain ⟨s1, s2⟩ := sums_units x (good_isOp gx)
    obtain ⟨s3, s4⟩ := sums_units y (good_isOp gy)
    have h1 := takes_sum gx (by have := hX.at_.b; have := hX.at_.len; omega)
    have h2 := makes_sum gx (by have := hX.at_.b; have := hX.at_.len; omega)
    have h3 := takes_sum gy (by have := hY.at_.b; have := hY.at_.len; omega)
    have h4 := makes_sum gy (by have := hY.at_.b; have := hY.at_.len; omega)
    have h5 := units_length (us := units (osOf x))
    have h6 := units_length (us := units (osOf y))
    have h7 := comp_len l (units (osOf y)) (units (osOf x))
    rw [hT0] at h7
    omega)
  have hmc : mayC l x y = 0 := by unfold mayC; rw [if_pos (.inl mx)]; exact my
  have HMC := Lib.hid (cmay_any s l Ax Ay nx cx ny cy x y w hX.at_ hY.at_ hS hT hmc)
  have XX := Lib.hid hX
  have YY := Lib.hid hY
  have HS := Lib.hid hS
  have H64 := Lib.hid hl
  have BX : Hid (nx ≤ 1000000 ∧ ny ≤ 1000000) := Lib.hid ⟨hX.at_.b, hY.at_.b⟩
  have HP : Hid (0 + 2 * (x.length + y.length) + insN (restU x 0) + insN (restU y 0) ≤ 800000) := Lib.hid (by
    have h1 := insN_x x (good_isOp gx)
    have h2 := insN_x y (good_isOp gy)
    show 0 + 2 * (x.length + y.length) + insN (units (osOf x)) + insN (units (osOf y)) ≤ _
    omega)
  have L1 : Hid (∀ o ∈ x, isOp o.o ∧ lenO o.o ≤ 536870912) := Lib.hid (fun o ho => ⟨IX.out o ho, by have := (lenO_of (IX.out o ho)).2; have := (one_facts (GX.out o ho)).2.2.1; omega⟩)
  have L2 : Hid (∀ o ∈ y, isOp o.o ∧ lenO o.o ≤ 536870912) := Lib.hid (fun o ho => ⟨IY.out o ho, by have := (lenO_of (IY.out o ho)).2; have := (one_facts (GY.out o ho)).2.2.1; omega⟩)
  have F1 : Hid (∀ o t, x = o :: t → 0 < lenO o.o) := Lib.hid (fun o t e => by have := (lenO_of (IX.out o (by rw [e]; simp))).1; omega)
  have F2 : Hid (∀ o t, y = o :: t → 0 < lenO o.o) := Lib.hid (fun o t e => by have := (lenO_of (IY.out o (by rw [e]; simp))).1; omega)
  clear hX hY hS hl mx my zx zy gx gy tx1 tx2 ty1 ty2 hT0 hmc
  unfold ComOut
  rw [TT.out]
  go_enter Tryz.func42, Tryz.ntmps42
  go_wp2_with (fail)
  go_step3
  go_wp2_with (go_at_call 97; refine Hid.out ?_)
  refine Lib.hid ?_
  refine HMC.out.mono ?_
  rintro e w1 ⟨rfl, y1⟩
  have Y1 := Lib.hid y1
  clear y1 HMC
  go_wp2_with (go_at_call 74; refine Hid.out ?_)
  refine Lib.hid ?_
  refine (mkNew_any w1).mono ?_
  rintro e w2 ⟨rfl, hm, y2⟩
  have HM := Lib.hid hm
  have Y2 := Lib.hid (ext_trans Y1.out y2)
  have SZ2 : Hid (w1.heap.size < w2.heap.size) := Lib.hid (HM.out.lt _ rfl)
  obtain ⟨b, hb⟩ : ∃ b, w1.heap.size = b := ⟨_, rfl⟩
  rw [hb] at HM SZ2 ⊢
  have HB : Hid (w.heap.size ≤ b) := Lib.hid (by rw [← hb]; exact Y1.out.size)
  clear hm y2 hb
  have ya := ext_alloc w2 (.cells #[.slice Ax nx cx, .int .i64 0] 141)
  have hba := heap_alloc_new w2 (.cells #[.slice Ax nx cx, .int .i64 0] 141)
  have yb := ext_alloc (w2.alloc (.cells #[.slice Ax nx cx, .int .i64 0] 141)) (.cells #[.slice Ay ny cy, .int .i64 0] 141)
  have hbb := heap_alloc_new (w2.alloc (.cells #[.slice Ax nx cx, .int .i64 0] 141)) (.cells #[.slice Ay ny cy, .int .i64 0] 141)
  have hba2 := (yb.block w2.heap.size (by simp)).trans hba
  rw [World.size_alloc] at hbb
  have YAB := Lib.hid (ext_trans ya yb)
  have C0 : Hid (CSt w ((w2.alloc (.cells #[.slice Ax nx cx, .int .i64 0] 141)).alloc (.cells #[.slice Ay ny cy, .int .i64 0] 141)) b w2.heap.size (w2.heap.size + 1) x 0 y 0 Mk.new) := Lib.hid
    ⟨⟨Ax, nx, cx, hba2, XX.out, L1.out, fun _ => rfl, F1.out⟩, ⟨Ay, ny, cy, hbb, YY.out, L2.out, fun _ => rfl, F2.out⟩,
      ⟨_, HM.out.below YAB.out, fun k hk => by have := HB.out; omega, fun h => by have := SZ2.out; omega, fun h => by have := SZ2.out; omega⟩, by omega, Y2.out.size, by have := Y2.out.size; omega, ext_trans Y2.out YAB.out⟩
  have Q0 : Hid (CQ l T 800000 x 0 y 0 Mk.new [] 0) := Lib.hid ⟨Told.new, MkB.new 64, HP.out, TT.out, GX.out, GY.out⟩
  clear ya yb hba hbb hba2
  go_wp2_with (fail)
  go_step3
  go_wp2_with (fail)
  obtain ⟨bu, hbu⟩ : ∃ X, w2.heap.size = X := ⟨_, rfl⟩
  rw [hbu] at C0 ⊢
  clear HM SZ2 YAB Y2 Y1 hbu XX YY BX HP L1 L2 F1 F2 HB
  go_loopg [12] (x.length + y.length) (fun g nv wr => ∃ (X Y : List OpS) (a c : Nat) (m : Mk) (us : List Un) (K : Nat), g = X.length + Y.length ∧ CSt w wr b bu (bu + 1) X a Y c m ∧ Hid (CQ l T 800000 X a Y c m us K))
  case atStart => exact ⟨x, y, 0, 0, Mk.new, [], 0, rfl, C0.out, Q0⟩
  case round =>
    obtain ⟨X, Y, a, c, m, us, K, hg, cs, CQ0⟩ := hrel
    have HG := Lib.hid hg
    have CS := Lib.hid cs
    clear hg cs C0 Q0
    go_wp2_with (go_at_call 98; refine Hid.out ?_)
    refine Lib.hid ?_
    refine (rdrOver_any (bu + 1) Y c w wr CS.out.y CS.out.below).mono ?_
    rintro e w3 ⟨rfl, d, rfl⟩
    have CS := Lib.hid (CS.out.more (ext_drew _ d))
    generalize wr.drewN d = w3 at *
    cases Y with
    | nil =>
      have hc0 : c = 0 := by obtain ⟨A, n, cc, _, _, _, h1, _⟩ := CS.out.y; exact h1 rfl
      subst hc0
      go_wp2_with (fail)
      go_loopg [] X.length (fun g wi => ∃ (X' : List OpS) (a' : Nat) (m' : Mk) (us' : List Un) (K' : Nat), g = X'.length ∧ CSt w wi b bu (bu + 1) X' a' [] 0 m' ∧ Hid (CQ l T 800000 X' a' [] 0 m' us' K'))
      case atStart => exact ⟨X, a, m, us, K, rfl, CS.out, CQ0⟩
      case round =>
        obtain ⟨X', a', m', us', K', hg2, cs2, CQ2⟩ := hrel
        have HG2 := Lib.hid hg2
        have CS2 := Lib.hid cs2
        clear hg2 cs2 CS CQ0
        go_wp2_with (go_at_call 98; refine Hid.out ?_)
        refine Lib.hid ?_
        refine (rdrOver_any bu X' a' w _ CS2.out.x CS2.out.below).mono ?_
        rintro e w4 ⟨rfl, d2, rfl⟩
        have CS2 := Lib.hid (CS2.out.more (ext_drew _ d2))
        generalize World.drewN _ d2 = w4 at *
        cases X' with
        | nil =>
          have ha0 : a' = 0 := by obtain ⟨A, n, cc, _, _, _, h1, _⟩ := CS2.out.x; exact h1 rfl
          subst ha0
          have EQ : Hid (us' = T) := Lib.hid (by have h := CQ2.out.eq; rw [restU_nil, compU_nil, List.append_nil] at h; exact h)
          obtain ⟨F, hm, low, nu, nv⟩ := CS2.out.m
          have TD : Hid (Told m' T) := Lib.hid (EQ.out ▸ CQ2.out.told)
          have KB : Hid (K' ≤ 800000) := Lib.hid (by have := CQ2.out.k; omega)
          go_wp2_with (go_at_call 77; refine Hid.out ?_)
          refine Lib.hid ?_
          refine (mkOps_any b w4 F m' hm (by have := CQ2.out.b.len; have := KB.out; omega) (fun o ho => by have := CQ2.out.b.gap.2 o ho; have := KB.out; omega)).mono ?_
          intro e w5 hN
          obtain ⟨Az, cz, z, rfl, hz, oz, wz, yz⟩ := NewOps.opCW hN TD.out (fun u hu => (OKT.out u hu).2) CQ2.out.b (by have := KB.out; omega) (by omega) CS2.out.below.size
          have WZ := Lib.hid wz
          have HZ := Lib.hid hz
          have OZ := Lib.hid oz
          have YZ := Lib.hid (CS2.out.below.trans (yz.mono CS2.out.below.size))
          clear hm low nu nv hN hz oz yz wz
          go_wp2_with (go_at_call 104; refine Hid.out ?_)
          refine Lib.hid ?_
          refine (takes_any Az z.length cz z w5 rfl OZ.out.at_.rd.1 (by have := OZ.out.at_.b; omega)).mono ?_
          obtain ⟨tk, htk⟩ : ∃ k, takesP z = k := ⟨_, rfl⟩
          have HTK := Lib.hid htk
          rw [htk]
          rintro e w6 ⟨rfl, y6⟩
          have Y6 := Lib.hid (YZ.out.trans (y6.mono YZ.out.size))
          have OZ6 := Lib.hid (OZ.out.ext y6)
          have WZ6 := Lib.hid (WZ.out.below y6)
          clear htk y6
          by_cases h1 : (536870912 : Int) < tk
          · have h1' : decide ((536870912 : Int) < tk) = true := decide_eq_true h1
            have H1 := Lib.hid h1
            go_wp2_with (fail)
            try rw [Exit.noGoto_ret]
            refine bodyPost_ret (v := .tuple #[.slice none 0 0, .int .i64 3]) (by simp [results, Tryz.results42, go_sem]) rfl ?_
            exact ⟨z, HZ.out, Y6.out, OZ6.out.at_.b, .inr ⟨.inl (by rw [HTK.out]; exact H1.out), rfl⟩⟩
          · have h1' : decide ((536870912 : Int) < tk) = false := decide_eq_false h1
            have H1 := Lib.hid h1
            go_wp2_with (go_at_call 105; refine Hid.out ?_)
            refine Lib.hid ?_
            refine (makes_any Az z.length cz z w6 rfl OZ6.out.at_.rd.1 (by have := OZ6.out.at_.b; omega)).mono ?_
            obtain ⟨mk, hmk⟩ : ∃ k, makesP z = k := ⟨_, rfl⟩
            have HMK := Lib.hid hmk
            rw [hmk]
            rintro e w7 ⟨rfl, y7⟩
            have Y7 := Lib.hid (Y6.out.trans (y7.mono Y6.out.size))
            have OZ7 := Lib.hid (OZ6.out.ext y7)
            have WZ7 := Lib.hid (WZ6.out.below y7)
            clear hmk y7
            by_cases h2 : (536870912 : Int) < mk
            · have h2' : decide ((536870912 : Int) < mk) = true := decide_eq_true h2
              have H2 := Lib.hid h2
              go_wp2_with (fail)
              try rw [Exit.noGoto_ret]
              refine bodyPost_ret (v := .tuple #[.slice none 0 0, .int .i64 3]) (by simp [results, Tryz.results42, go_sem]) rfl ?_
              exact ⟨z, HZ.out, Y7.out, OZ7.out.at_.b, .inr ⟨.inr (by rw [HMK.out]; exact H2.out), rfl⟩⟩
            · have h2' : decide ((536870912 : Int) < mk) = false := decide_eq_false h2
              have H2 := Lib.hid h2
              go_wp2_with (fail)
              try rw [Exit.noGoto_ret]
              refine bodyPost_ret (v := .tuple #[.slice Az z.length cz, .int .i64 0]) (by simp [results, Tryz.results42, go_sem]) rfl ?_
              exact ⟨z, HZ.out, Y7.out, OZ7.out.at_.b, .inl ⟨by rw [HTK.out, HMK.out]; rintro (h | h); (have := H1.out; omega); (have := H2.out; omega), Az, cz, rfl, OZ7.out, WZ7.out⟩⟩
        | cons x0 t =>
          have X0 : Hid (isOp x0.o ∧ a' < lenO x0.o ∧ lenO x0.o ≤ 536870912) := Lib.hid (by
            obtain ⟨A, n, cc, _, _, h1, _, h2⟩ := CS2.out.x
            exact ⟨(h1 x0 (by simp)).1, h2 x0 t rfl, (h1 x0 (by simp)).2⟩)
          have hdec : decide ((x0 :: t : List OpS) = []) = false := rfl
          rw [hdec]
          go_wp2_with (go_at_call 101; refine Hid.out ?_)
          refine Lib.hid ?_
          refine (rdrTake_any bu 536870912 (x0 :: t) a' w w4 CS2.out.x CS2.out.below (Nat.le_refl _) (by omega) CS2.out.lu).mono ?_
          rintro e w5 ⟨o, X9, a9, rfl, ht, hoi, hoc, hok, hr, hgr⟩
          obtain ⟨hq, hlen, s1, s2, s3⟩ := CQ.rest CQ2.out X0.out.1 X0.out.2.1 X0.out.2.2 ht TLEN.out
          have CS2 := Lib.hid (CS2.out.tookX hr hgr)
          have CQ3 := Lib.hid hq
          have HLEN := Lib.hid hlen
          have OI := Lib.hid hoi
          obtain ⟨F, hm, low, nu, nv⟩ := CS2.out.m
          clear ht hoi hoc hok hr hgr hq hlen
          go_wp2_with (go_at_call 100; refine Hid.out ?_)
          refine Lib.hid ?_
          refine (ctell_any b o w w5 F m' K' hm low CS2.out.below OI.out CQ2.out.b (by have := CQ2.out.k; omega) (by omega) s2 s3).mono ?_
          rintro e w6 ⟨rfl, F', hm', g'⟩
          have CS2 := Lib.hid (CS2.out.told low nu nv hm' g')
          clear hm low nu nv hm' g'
          go_wp2_with (fail)
          go_roundg X9.length
          case measure => have h1 := HG2.out; have h2 := HLEN.out; omega
          case rel => exact ⟨X9, a9, _, _, _, rfl, CS2.out, CQ3⟩
    | cons y0 t =>
      have Y0 : Hid (isOp y0.o ∧ c < lenO y0.o ∧ lenO y0.o ≤ 536870912) := Lib.hid (by
        obtain ⟨A, n, cc, _, _, h1, _, h2⟩ := CS.out.y
        exact ⟨(h1 y0 (by simp)).1, h2 y0 t rfl, (h1 y0 (by simp)).2⟩)
      have hdec : decide ((y0 :: t : List OpS) = []) = false := rfl
      rw [hdec]
      go_wp2_with (go_at_call 99; refine Hid.out ?_)
      refine Lib.hid ?_
      refine (rdrKind_any (bu + 1) (y0 :: t) c w w3 CS.out.y CS.out.below).mono ?_
      obtain ⟨ky, hky⟩ : ∃ k, kindR (y0 :: t) = k := ⟨_, rfl⟩
      have HKY : Hid (y0.o.k = ky) := Lib.hid hky
      rw [hky]
      rintro e w4 ⟨rfl, d2, rfl⟩
      have CS := Lib.hid (CS.out.more (ext_drew _ d2))
      generalize w3.drewN d2 = w4 at *
      clear hky hdec
      by_cases hk : ky = 2
      · subst hk
        go_wp2_with (go_at_call 101; refine Hid.out ?_)
        refine Lib.hid ?_
        refine (rdrTake_any (bu + 1) 536870912 (y0 :: t) c w w4 CS.out.y CS.out.below (Nat.le_refl _) (by omega) CS.out.lv).mono ?_
        rintro e w5 ⟨o, Y', c', rfl, ht, hoi, hoc, hok, hr, hgr⟩
        obtain ⟨hq, hlen, s1, s2, s3⟩ := CQ.ins CQ0.out Y0.out.1 Y0.out.2.1 Y0.out.2.2 HKY.out ht TLEN.out
        have CS := Lib.hid (CS.out.tookY hr hgr)
        have CQ1 := Lib.hid hq
        have HLEN := Lib.hid hlen
        have OI := Lib.hid hoi
        obtain ⟨F, hm, low, nu, nv⟩ := CS.out.m
        clear ht hoi hoc hok hr hgr hq hlen
        go_wp2_with (go_at_call 100; refine Hid.out ?_)
        refine Lib.hid ?_
        refine (ctell_any b o w w5 F m K hm low CS.out.below OI.out CQ0.out.b (by have := CQ0.out.k; omega) (by omega) s2 s3).mono ?_
        rintro e w6 ⟨rfl, F', hm', g'⟩
        have CS := Lib.hid (CS.out.told low nu nv hm' g')
        clear hm low nu nv hm' g'
        go_wp2_with (fail)
        go_roundg (X.length + Y'.length)
        case measure => have h1 := HG.out; have h2 := HLEN.out; omega
        case rel => exact ⟨X, Y', a, c', _, _, _, rfl, CS.out, CQ1⟩
      · have hk' : (ky == 2) = false := beq_eq_false_iff_ne.2 hk
        have HK := Lib.hid hk
        go_wp2_with (go_at_call 99; refine Hid.out ?_)
        refine Lib.hid ?_
        refine (rdrKind_any bu X a w w4 CS.out.x CS.out.below).mono ?_
        obtain ⟨kx, hkx⟩ : ∃ k, kindR X = k := ⟨_, rfl⟩
        have HKX := Lib.hid hkx
        rw [hkx]
        rintro e w5 ⟨rfl, d3, rfl⟩
        have CS := Lib.hid (CS.out.more (ext_drew _ d3))
        generalize w4.drewN d3 = w5 at *
        clear hkx
        by_cases hk3 : kx = 3
        · subst hk3
          cases X with
          | nil => exact absurd HKX.out (by show ¬ (1 : Int) = 3; decide)
          | cons x0 s0 =>
            have X0 : Hid (isOp x0.o ∧ a < lenO x0.o ∧ lenO x0.o ≤ 536870912) := Lib.hid (by
              obtain ⟨A, n, cc, _, _, h1, _, h2⟩ := CS.out.x
              exact ⟨(h1 x0 (by simp)).1, h2 x0 s0 rfl, (h1 x0 (by simp)).2⟩)
            go_wp2_with (go_at_call 101; refine Hid.out ?_)
            refine Lib.hid ?_
            refine (rdrTake_any bu 536870912 (x0 :: s0) a w w5 CS.out.x CS.out.below (Nat.le_refl _) (by omega) CS.out.lu).mono ?_
            rintro e w6 ⟨o, X9, a9, rfl, ht, hoi, hoc, hok, hr, hgr⟩
            obtain ⟨hq, hlen, s1, s2, s3⟩ := CQ.del CQ0.out X0.out.1 Y0.out.1 X0.out.2.1 Y0.out.2.1 X0.out.2.2 HKX.out (by rw [HKY.out]; exact HK.out) ht TLEN.out
            have CS := Lib.hid (CS.out.tookX hr hgr)
            have CQ1 := Lib.hid hq
            have HLEN := Lib.hid hlen
            have OI := Lib.hid hoi
            obtain ⟨F, hm, low, nu, nv⟩ := CS.out.m
            clear ht hoi hoc hok hr hgr hq hlen
            go_wp2_with (go_at_call 100; refine Hid.out ?_)
            refine Lib.hid ?_
            refine (ctell_any b o w w6 F m K hm low CS.out.below OI.out CQ0.out.b (by have := CQ0.out.k; omega) (by omega) s2 s3).mono ?_
            rintro e w7 ⟨rfl, F', hm', g'⟩
            have CS := Lib.hid (CS.out.told low nu nv hm' g')
            clear hm low nu nv hm' g'
            go_wp2_with (fail)
            go_roundg (X9.length + (y0 :: t).length)
            case measure => have h1 := HG.out; have h2 := HLEN.out; omega
            case rel => exact ⟨X9, y0 :: t, a9, c, _, _, _, rfl, CS.out, CQ1⟩
        · have hk3' : (kx == 3) = false := beq_eq_false_iff_ne.2 hk3
          have HK3 := Lib.hid hk3
          have XF : Hid (∀ x0 s0, X = x0 :: s0 → isOp x0.o ∧ a < lenO x0.o ∧ lenO x0.o ≤ 536870912 ∧ x0.o.k ≠ 3) := Lib.hid (fun x0 s0 e => by
            obtain ⟨A, n, cc, _, _, h1, _, h2⟩ := CS.out.x
            subst e
            exact ⟨(h1 x0 (by simp)).1, h2 x0 s0 rfl, (h1 x0 (by simp)).2, fun h => HK3.out (HKX.out.symm.trans h)⟩)
          have XN : Hid (X = [] → a = 0) := Lib.hid (by obtain ⟨A, n, cc, _, _, _, h1, _⟩ := CS.out.x; exact h1)
          have LXB : Hid (1 ≤ longR X a ∧ longR X a ≤ 536870912) := Lib.hid (by
            cases X with
            | nil => exact ⟨by show 1 ≤ 536870912; omega, Nat.le_refl _⟩
            | cons x0 s0 => obtain ⟨_, h2, h3, _⟩ := XF.out x0 s0 rfl; exact ⟨by show 1 ≤ lenO x0.o - a; omega, by show lenO x0.o - a ≤ _; omega⟩)
          have LYB : Hid (1 ≤ longR (y0 :: t) c ∧ longR (y0 :: t) c = lenO y0.o - c) := Lib.hid ⟨by show 1 ≤ lenO y0.o - c; have := Y0.out; omega, rfl⟩
          go_wp2_with (go_at_call 102; refine Hid.out ?_)
          refine Lib.hid ?_
          refine (rdrLong_any bu X a w w5 CS.out.x CS.out.below).mono ?_
          obtain ⟨lx, hlx⟩ : ∃ k, longR X a = k := ⟨_, rfl⟩
          have HLX := Lib.hid hlx
          rw [hlx] at LXB ⊢
          rintro e w6 ⟨rfl, d4, rfl⟩
          have CS := Lib.hid (CS.out.more (ext_drew _ d4))
          generalize w5.drewN d4 = w6 at *
          clear hlx
          go_wp2_with (go_at_call 102; refine Hid.out ?_)
          refine Lib.hid ?_
          refine (rdrLong_any (bu + 1) (y0 :: t) c w w6 CS.out.y CS.out.below).mono ?_
          obtain ⟨ly, hly⟩ : ∃ k, longR (y0 :: t) c = k := ⟨_, rfl⟩
          rw [hly] at LYB ⊢
          rintro e w7 ⟨rfl, d5, rfl⟩
          have CS := Lib.hid (CS.out.more (ext_drew _ d5))
          generalize w6.drewN d5 = w7 at *
          clear hly
          obtain ⟨n, hn⟩ : ∃ n, min lx ly = n := ⟨_, rfl⟩
          have hmin : min (lx : Int) (ly : Int) = (n : Int) := by omega
          have HN : Hid (1 ≤ n ∧ n ≤ 536870912 ∧ n = min (longR X a) (lenO y0.o - c)) := Lib.hid (by rw [HLX.out, ← LYB.out.2]; have h1 := LXB.out; have h2 := LYB.out.1; omega)
          clear hn
          go_wp2_with (go_at_call 101; refine Hid.out ?_)
          refine Lib.hid ?_
          refine (rdrTake_any bu n X a w w7 CS.out.x CS.out.below HN.out.2.1 HN.out.1 CS.out.lu).mono ?_
          rintro e w8 ⟨o, X9, a9, rfl, ht, hoi, hoc, hok, hr, hgr⟩
          have CS := Lib.hid (CS.out.tookX hr hgr)
          have OI := Lib.hid hoi
          have OC := Lib.hid hoc
          have HTX := Lib.hid ht
          clear ht hoi hoc hok hr hgr
          go_wp2_with (go_at_call 101; refine Hid.out ?_)
          refine Lib.hid ?_
          refine (rdrTake_any (bu + 1) n (y0 :: t) c w w8 CS.out.y CS.out.below HN.out.2.1 HN.out.1 CS.out.lv).mono ?_
          rintro e w9 ⟨q, Y9, c9, rfl, ht, hoi, hoc, hok, hr, hgr⟩
          have CS := Lib.hid (CS.out.tookY hr hgr)
          have QI := Lib.hid hoi
          have QC := Lib.hid hoc
          obtain ⟨⟨us9, K9, hq, hlen⟩, b1, b2, b3, b4, b5, b6, b7⟩ := CQ.both H64.out CQ0.out XN.out XF.out Y0.out.1 Y0.out.2.1 Y0.out.2.2 (by rw [HKY.out]; exact HK.out) HN.out.2.2 HTX.out ht TLEN.out
          have CQ1 := Lib.hid hq
          have HLEN := Lib.hid hlen
          obtain ⟨F, hm, low, nu, nv⟩ := CS.out.m
          clear ht hoi hoc hok hr hgr hq hlen
          go_wp2_with (go_at_call 103; refine Hid.out ?_)
          refine Lib.hid ?_
          refine (both_any s l b o q w w9 F m K hm low CS.out.below OI.out QI.out HS.out OC.out QC.out CQ0.out.b (by omega) b3 b4 b5 b6 b1 b7).mono ?_
          rintro e w10 ⟨rfl, F', hm', g'⟩
          have CS := Lib.hid (CS.out.told low nu nv hm' g')
          clear hm low nu nv hm' g' b1 b2 b3 b4 b5 b6 b7
          go_wp2_with (fail)
          go_roundg (X9.length + Y9.length)
          case measure => have h1 := HG.out; have h2 := HLEN.out; omega
          case rel => exact ⟨X9, Y9, a9, c9, _, us9, K9, rfl, CS.out, CQ1⟩
/-- of two deltas that may be, and together are not too long -/
theorem composeOk_any (s : Nat) (l : List Ky) (Ax Ay : Option Addr) (nx cx ny cy : Nat) (x y : List OpS) (w : World) (hX : OpsC w Ax nx cx x) (hY : OpsC w Ay ny cy y) (hS : Sch w s l) (hl : l.length ≤ 64) (hT : Lib.Utf8Tabs 1 2 w)
    (mx : mayO l x = 0) (my : mayO l y = 0) (zx : szN x ≤ 200000) (zy : szN y ≤ 200000) (ht : takesU (compU l (units (osOf x)) (units (osOf y))) ≤ 536870912) (hm : makesU (compU l (units (osOf x)) (units (osOf y))) ≤ 536870912) :
    Calls Tryz.prog 42 #[.pointer (some ⟨s, 0, none⟩), .slice Ax nx cx, .slice Ay ny cy] w (NewOpOk (mkU (compU l (units (osOf x)) (units (osOf y)))) w) := by
  obtain ⟨gx, _, _⟩ := mayO_zero mx
  obtain ⟨gy, _, _⟩ := mayO_zero my
  have hmu := comp_mU (us := units (osOf x)) (vs := units (osOf y)) hl (good_mU gx) (good_mU gy)
  refine (composeAll_any s l Ax Ay nx cx ny cy x y w hX hY hS hl hT mx my zx zy).mono ?_
  rintro e w' ⟨z, hz, yy, hzb, ⟨_, A, c, rfl, oz, _⟩ | ⟨hbad, rfl⟩⟩
  · exact ⟨A, c, z, rfl, hz, oz, yy⟩
  · exfalso
    obtain ⟨h1, h2, _⟩ := made_sums hz hmu ht hm (by omega)
    omega
end Go.Proofs.YtfnkjcodcoehcaaGreatDoor
namespace Go.Proofs.YtfnkjcodcoehcaaGreatDoor
open Go.RowKit
set_option linter.unusedVariables false
set_option linter.unusedSimpArgs false

theorem rd_ops (u : World) (l : List OpS) (hs : Sub u u.heap.size l) {cs : Array Value} (hc : cs.toList = l.flatMap OpS.enc) {b : Nat} (hb : b = u.heap.size) :
    RdOp (u.alloc (.cells cs 50)) (u.alloc (.cells cs 50)).heap.size (some ⟨b, 0, none⟩) l :=
  ⟨Rd.new (enc := OpS.enc) (size := 5) OpS.enc_len u 50 l hc hb, hs.ext (ext_alloc u _)⟩
theorem ok_small (o : Opd) (h1 : o.s = []) (h2 : o.p = []) (h3 : o.r.length ≤ 10) : okOp o := by
  refine ⟨?_, ?_, by omega, by rw [h1]; simp, by rw [h2]; simp⟩
  · rw [h1]; intro c hc; cases hc
  · rw [h2]; intro c hc; cases hc
end Go.Proofs.YtfnkjcodcoehcaaGreatDoor
namespace Go.Proofs.YtfnkjcodcoehcaaGreatDoor
open Go.RowKit
set_option linter.unusedVariables false
set_option linter.unusedSimpArgs false

def kK19 : List Ky := [⟨1, false, 1, false, false, 0⟩]
end Go.Proofs.YtfnkjcodcoehcaaGreatDoor
namespace Go.Proofs.YtfnkjcodcoehcaaGreatDoor
open Go.RowKit
theorem same15D {w : World} {A B : Option Addr} {n c n2 c2 : Nat} {x z : List OpS} (h1 : OpsAt w A n x) (h2 : OpsAt w B n2 z) {b : Bool} (hb : decide (osOf x = osOf z) = b) :
    Calls Tryz.prog 22 #[.slice A n c, .slice B n2 c2] w fun e w' => e = .returned (.bool b) ∧ Below w.heap.size w w' := by
  have h := same15_any A B n n2 c c2 x z w h1.len h2.len h1.rd h2.rd (by have := h1.b; omega) (by have := h2.b; omega) (fun o ho => by obtain ⟨_, _, a, b, c⟩ := h1.ok o ho; omega) (fun o ho => by obtain ⟨_, _, a, b, c⟩ := h2.ok o ho; omega)
  rw [hb] at h
  exact h
end Go.Proofs.YtfnkjcodcoehcaaGreatDoor
