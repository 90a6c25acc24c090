/- Merged texts. -/
import Derived.Test.YtnmedachaeanbaaGreatDoorA23
import Derived.Test.YtnmedachaeanbaaGreatDoorA24
namespace Go.Proofs.YtnmedachaeanbaaGreatDoor
set_option maxRecDepth 100000
set_option maxHeartbeats 12800000
open Go.RowKit
open Go.Lib (hid Utf8Tabs)
set_option linter.unusedVariables false
set_option linter.unusedSimpArgs false
theorem Y42 (s : Nat) (l : List Ky) (Ax Ay : Option Addr) (nx cx ny cy : Nat) (x y : List OpS) (w : World) (hX : OpsAt w Ax nx x) (hY : OpsAt w Ay ny y) (hS : Sch w s l) (hT : Utf8Tabs 0 1 w) {r : Int} (hr : mayC l x y = r) :
 Calls Tryz.prog 128 #[.pointer (some ⟨s, 0, none⟩), .slice Ax nx cx, .slice Ay ny cy] w fun e w' => e = .returned (.int .i64 r) ∧ Below w.heap.size w w' := by
 have XX := hid hX
 have YY := hid hY
 have HS := hid hS
 have HR := hid hr
 clear hX hY hS hr
 go_enter Tryz.func128, Tryz.ntmps128
 go_wp2_with (go_at_call 86; refine Hid.out ?_)
 refine hid ?_
 refine (Z5t s l Ax nx cx x w XX.out.len XX.out.rd (by have := XX.out.b; omega) HS.out XX.out.ok hT).mono ?_
 obtain ⟨a, ha⟩ : ∃ a, mayO l x = a := ⟨_, rfl⟩
 have HA := hid ha
 rw [ha]
 clear ha
 rintro e w1 ⟨rfl, y1⟩
 have Y1 := hid y1
 clear y1
 go_wp2_with (go_at_call 86; refine Hid.out ?_)
 refine hid ?_
 refine (Z5t s l Ay ny cy y w1 YY.out.len (YY.out.rd.ext Y1.out) (by have := YY.out.b; omega) (HS.out.ext Y1.out) YY.out.ok (Utf8Tabs_below hT Y1.out)).mono ?_
 obtain ⟨b, hb⟩ : ∃ b, mayO l y = b := ⟨_, rfl⟩
 have HB := hid hb
 rw [hb]
 clear hb
 rintro e w2 ⟨rfl, y2⟩
 have Y2 := hid (Z0a Y1.out y2)
 clear y2
 have hm : Hid (r = if a = 0 ∨ b = 3 then b else a) := hid (by rw [← HR.out, ← HA.out, ← HB.out]; rfl)
 by_cases ha : a = 0
 ·have hr : Hid (r = b) := hid (by rw [hm.out, if_pos (.inl ha)])
  clear hm HA HB HR
  subst ha
  go_wp2_with (fail)
  go_ret
  exact ⟨by rw [hr.out]; rfl, Y2.out⟩
 ·have ha' : (a == 0) = false := beq_eq_false_iff_ne.2 ha
  by_cases hb : b = 3
  ·have hr : Hid (r = b) := hid (by rw [hm.out, if_pos (.inr hb)])
   clear hm HA HB HR
   subst hb
   go_wp2_with (fail)
   go_ret
   exact ⟨by rw [hr.out]; rfl, Y2.out⟩
  ·have hb' : (b == 3) = false := beq_eq_false_iff_ne.2 hb
   have hr : Hid (r = a) := hid (by rw [hm.out, if_neg (by rintro (h | h); exact ha h; exact hb h)])
   clear hm HA HB HR
   go_wp2_with (fail)
   go_ret
   exact ⟨by rw [hr.out]; rfl, Y2.out⟩
def Y5J (f : Bool) (x y : List OpS) (w : World) (e : Ending) (w' : World) : Prop :=
 ∃ z : List OpS, osOf z = mkU (traU f (nf (Z0e (osOf x))) (nf (Z0e (osOf y)))) ∧ Below w.heap.size w w' ∧ z.length ≤ 1000000 ∧
   ((¬ (Z1k z > 536870912 ∨ Z1F z > 536870912) ∧ ∃ A c, e = .returned (.tuple #[.slice A z.length c, .int .i64 0]) ∧ OpsC w' A z.length c z ∧ WrO w' w.heap.size A z.length c z) ∨ ((Z1k z > 536870912 ∨ Z1F z > 536870912) ∧ e = .returned (.tuple #[.slice none 0 0, .int .i64 3])))
theorem RdX.made {w2 w3 wr : World} {G : Nat → Prop} {b : Nat} {A : Option Addr} {c : Nat} {X : List OpS} (ho : OwOs w3 w2.heap.size (.slice A X.length c) X) (hp : ∀ x ∈ X, ∃ g, PartN w3 w2.heap.size g x) (y : Below w3.heap.size w3 wr)
 (hb : wr.heap[b]? = some (.cells #[.slice A X.length c] 182 (0, 0))) (hG : ∀ k, G k → k < w2.heap.size ∨ w3.heap.size ≤ k) (hl : X.length ≤ 1000000) : RdX wr G b X := by
 have off : ∀ {α : Type} {enc : α → List Value} {size : Nat} {e : TypeId} {A : Option Addr} {c : Nat} {l : List α}, (∀ a, (enc a).length = size) → Ow enc size e w3 w2.heap.size (.slice A l.length c) l → Rd enc size wr wr.heap.size A l ∧ OffF G A l.length := fun hs h => by
  refine ⟨(h.rd hs).ext y, h.offF hs rfl fun k hk hg => ?_⟩
  have := h.wb_lt k hk
  have := hG k hg
  omega
 obtain ⟨c1, c2⟩ := Z6k ho
 obtain ⟨r1, r2⟩ := off OpS.enc_len ho
 refine ⟨⟨A, X.length, c, hb, rfl, c1, c2, r1, r2⟩, fun x hx => ?_, hl⟩
 obtain ⟨g, hg⟩ := hp x hx
 exact ⟨off Z1C hg.1.1, off At.enc_len hg.2.1.1, off Ch.enc_len hg.2.2.1⟩
theorem Tryz.fieldX (a b c d e : Value) (W : World) : (Instr.field 36 (.agg #[a, b, c, d, e]) 2).run Tryz.prog W = .ok c W := by kernel_rfl
theorem Z2U : ∀ us : List Un, insN us = (Z0Q us).length
 | [] => rfl
 | .ins _ _ :: us => by show insN us + 1 = (Z0Q us).length + 1; rw [Z2U us]
 | .del :: us => Z2U us
 | .ret _ :: us => Z2U us
theorem Y3i (us : List Un) : insN (nf us) = insN us := by rw [Z2U, Z2U, (Y0u us).1]
theorem Z7b {x : List OpS} {X : List OpS} {S : Nat} (h : osOf X = Z1u (ofM (osOf x))) (hs : ∀ o ∈ x, o.o.s.length ≤ S ∧ o.o.p.length ≤ S) : X.length ≤ 2 * szN x + 1 := by
 have h1 := (Y0n x hs).ops.1
 rw [← h] at h1
 unfold osOf at h1
 rwa [List.length_map] at h1
theorem Y0y {l : List Ky} {x z : List OpS} (h : mayO l x = 0) (hb : x.length ≤ 1048576) (hz : osOf z = mkU (Z0e (osOf x))) : ∀ o ∈ z, Z8z l o.o := fun o ho => by
 obtain ⟨g, t, m⟩ := Z1y h
 obtain ⟨s1, s2⟩ := Z08 x (Z0Y g)
 rw [Z1m g hb] at t
 rw [Z1M g hb] at m
 have hi := Z7H hz
 have hu := Z2n hz
 have h1 := Z93 (Z0e (osOf x))
 have h2 := Z5z (Z0e (osOf x))
 have gz : goodO l z := Z4J hi (by rw [hu]; exact Z6e (P := mU l) trivial (Z7B g)) (by rw [hu]; omega) (by rw [hu]; omega)
 obtain ⟨f1, f2, f3, f4, f5⟩ := Z1L (gz o ho)
 exact ⟨hi o ho, by have := (Z3W (hi o ho)).2; omega, f4, f5⟩
theorem Z5l (s : Nat) (l : List Ky) (Ax Ay : Option Addr) (nx cx ny cy : Nat) (x y : List OpS) (f : Bool) (w : World) (hX : OpsC w Ax nx cx x) (hY : OpsC w Ay ny cy y) (hS : Sch w s l) (hl : l.length ≤ 64) (hT : Utf8Tabs 0 1 w)
 (mx : mayO l x = 0) (my : mayO l y = 0) (zx : szN x ≤ 50000) (zy : szN y ≤ 50000) :
 Calls Tryz.prog 56 #[.pointer (some ⟨s, 0, none⟩), .slice Ax nx cx, .slice Ay ny cy, .bool f] w (Y5J f x y w) := by
 obtain ⟨gx, tx1, tx2⟩ := Z1y mx
 obtain ⟨gy, ty1, ty2⟩ := Z1y my
 obtain ⟨T, hT0⟩ : ∃ T, traU f (nf (Z0e (osOf x))) (nf (Z0e (osOf y))) = T := ⟨_, rfl⟩
 have TT := hid hT0
 have OKT : Hid (∀ u ∈ T, okUn u) := hid (by
  rw [← hT0]
  refine Y4T f (Z6e (P := okUn) trivial fun u hu => ?_) (Z6e (P := okUn) trivial fun u hu => ?_)
  ·obtain ⟨o, ho, hu⟩ := Z11.1 hu; exact Z9k (hX.at_.ok o ho) u hu
  ·obtain ⟨o, ho, hu⟩ := Z11.1 hu; exact Z9k (hY.at_.ok o ho) u hu)
 have UX : Hid ((Z0e (osOf x)).length ≤ 1200000000 ∧ (Z0e (osOf y)).length ≤ 1200000000) := hid (by
  obtain ⟨s1, s2⟩ := Z08 x (Z0Y gx)
  obtain ⟨s3, s4⟩ := Z08 y (Z0Y gy)
  have h1 := Z1m gx (by have := hX.at_.b; have := hX.at_.len; omega)
  have h2 := Z1M gx (by have := hX.at_.b; have := hX.at_.len; omega)
  have h3 := Z1m gy (by have := hY.at_.b; have := hY.at_.len; omega)
  have h4 := Z1M gy (by have := hY.at_.b; have := hY.at_.len; omega)
  have h5 := Z3w (us := Z0e (osOf x))
  have h6 := Z3w (us := Z0e (osOf y))
  omega)
 have TLEN : Hid (T.length ≤ 4000000000) := hid (by
  have h1 := (Y0r f (nf (Z0e (osOf y))) (nf (Z0e (osOf x)))).2.2
  rw [hT0] at h1
  have h2 := Y5E (Z0e (osOf x))
  have h3 := Y5E (Z0e (osOf y))
  have := UX.out
  omega)
 have hmc : mayC l x y = 0 := by unfold mayC; rw [if_pos (.inl mx)]; exact my
 have HMC := hid (Y42 s l Ax Ay nx cx ny cy x y w hX.at_ hY.at_ hS hT hmc)
 have XX := hid hX
 have YY := hid hY
 have H64 := hid hl
 have MX := hid mx
 have MY := hid my
 have IX := hid (Z0Y gx)
 have IY := hid (Z0Y gy)
 have ZX := hid zx
 have ZY := hid zy
 have SX : Hid (∀ o ∈ x, o.o.s.length ≤ 1000000 ∧ o.o.p.length ≤ 1000000) := hid (fun o ho => by have h := Z1L (gx o ho); have := (Z1K h.2.2.2.1).1; have := (Z0X h.2.2.2.2).1; omega)
 have SY : Hid (∀ o ∈ y, o.o.s.length ≤ 1000000 ∧ o.o.p.length ≤ 1000000) := hid (fun o ho => by have h := Z1L (gy o ho); have := (Z1K h.2.2.2.1).1; have := (Z0X h.2.2.2.2).1; omega)
 clear hX hY hS hl mx my zx zy gx gy tx1 tx2 ty1 ty2 hT0 hmc
 unfold Y5J
 rw [TT.out]
 go_enter Tryz.func56, Tryz.ntmps56
 go_wp2_with (fail)
 go_step3
 go_wp2_with (go_at_call 128; refine Hid.out ?_)
 refine hid ?_
 refine HMC.out.mono ?_
 rintro e w1 ⟨rfl, y1⟩
 have Y1 := hid y1
 clear y1 HMC
 go_wp2_with (go_at_call 62; refine Hid.out ?_)
 refine hid ?_
 refine (Z8p w1).mono ?_
 rintro e w2 ⟨rfl, hm, y2⟩
 have HM := hid hm
 have Y2 := hid (Z0a Y1.out y2)
 have SZ2 : Hid (w1.heap.size < w2.heap.size) := hid (HM.out.lt _ rfl)
 obtain ⟨b, hb⟩ : ∃ b, w1.heap.size = b := ⟨_, rfl⟩
 rw [hb] at HM SZ2 ⊢
 have HB : Hid (w.heap.size ≤ b) := hid (by rw [← hb]; exact Y1.out.size)
 clear hm y2 hb
 go_wp2_with (go_at_call 26; refine Hid.out ?_)
 refine hid ?_
 refine (Z6q Ax nx cx x w2 XX.out.at_.len (XX.out.at_.rd.ext Y2.out) (by have := ZX.out; omega) SX.out).mono ?_
 rintro e w3 ⟨A3, c3, X0, rfl, hx0, ox0, px0, y3⟩
 have LX0 : Hid (X0.length ≤ 2 * szN x + 1) := hid (Z7b hx0 SX.out)
 have OX0 := hid ox0
 have PX0 := hid px0
 have Y3 := hid y3
 have HX0 : Hid (osOf X0 = mkU (Z0e (osOf x))) := hid (hx0.trans (Y7e (by unfold osOf; intro o ho; obtain ⟨z, hz, rfl⟩ := List.mem_map.1 ho; exact IX.out z hz) (by have := UX.out; omega)))
 clear hx0 ox0 px0 y3
 have ya := Z0c w3 (.cells #[.slice A3 X0.length c3] 182)
 have hba := heap_alloc_new w3 (.cells #[.slice A3 X0.length c3] 182)
 have sza : (w3.alloc (.cells #[.slice A3 X0.length c3] 182)).heap.size = w3.heap.size + 1 := by simp
 have YA := hid ya
 have HBA := hid hba
 have SZA := hid sza
 clear ya hba sza
 go_wp2_with (go_at_call 26; refine Hid.out ?_)
 refine hid ?_
 generalize w3.alloc (.cells #[.slice A3 X0.length c3] 182) = w4 at *
 have Y4 := hid (Y2.out.trans ((Z0a Y3.out YA.out).mono Y2.out.size))
 refine (Z6q Ay ny cy y w4 YY.out.at_.len (YY.out.at_.rd.ext Y4.out) (by have := ZY.out; omega) SY.out).mono ?_
 rintro e w5 ⟨A5, c5, Y0, rfl, hy0, oy0, py0, y5⟩
 have LY0 : Hid (Y0.length ≤ 2 * szN y + 1) := hid (Z7b hy0 SY.out)
 have OY0 := hid oy0
 have PY0 := hid py0
 have Y5 := hid y5
 have HY0 : Hid (osOf Y0 = mkU (Z0e (osOf y))) := hid (hy0.trans (Y7e (by unfold osOf; intro o ho; obtain ⟨z, hz, rfl⟩ := List.mem_map.1 ho; exact IY.out z hz) (by have := UX.out; omega)))
 clear hy0 oy0 py0 y5
 have yb := Z0c w5 (.cells #[.slice A5 Y0.length c5] 182)
 have hbb := heap_alloc_new w5 (.cells #[.slice A5 Y0.length c5] 182)
 have YB := hid yb
 have HBB := hid hbb
 have hbu2 : (w5.alloc (.cells #[.slice A5 Y0.length c5] 182)).heap[w3.heap.size]? = some (.cells #[.slice A3 X0.length c3] 182 (0, 0)) := (yb.block w3.heap.size (by have := SZA.out; have := Y5.out.size; omega)).trans ((Y5.out.block w3.heap.size (by have := SZA.out; omega)).trans HBA.out)
 have PB : Hid (2 * (X0.length + Y0.length) + insN (Z0e (osOf X0)) + insN (Z0e (osOf Y0)) ≤ 800000 ∧ X0.length ≤ 1000000 ∧ Y0.length ≤ 1000000) := hid (by
  rw [Z2n HX0.out, Z2n HY0.out, Y3i, Y3i]
  have h1 := Y5G x IX.out
  have h2 := Y5G y IY.out
  have := LX0.out
  have := LY0.out
  have := ZX.out
  have := ZY.out
  omega)
 have BUV : Hid (b < w2.heap.size ∧ w2.heap.size ≤ w3.heap.size ∧ w3.heap.size < w4.heap.size ∧ w4.heap.size ≤ w5.heap.size ∧ w.heap.size ≤ w3.heap.size) := hid (by have h1 := SZ2.out; have h2 := Y3.out.size; have h3 := SZA.out; have h4 := Y5.out.size; have h5 := Y2.out.size; omega)
 have C0 : Hid (TSt w (w5.alloc (.cells #[.slice A5 Y0.length c5] 182)) (fun k => k = b) b w3.heap.size w5.heap.size X0 Y0 Mk.new) := hid
  ⟨HM.out.below ((Z0a Y3.out YA.out).trans ((Z0a Y5.out yb).mono (by have := BUV.out; omega))), fun k hk => by subst hk; exact HB.out, fun h => by have := BUV.out; omega, fun h => by have := BUV.out; omega,
   RdX.made OX0.out PX0.out (YA.out.trans ((Z0a Y5.out yb).mono (by have := BUV.out; omega))) hbu2 (fun k hk => by have := BUV.out; rcases hk with rfl | rfl | rfl <;> omega) PB.out.2.1,
   RdX.made OY0.out PY0.out yb hbb (fun k hk => by have := BUV.out; rcases hk with rfl | rfl | rfl <;> omega) PB.out.2.2,
   by have := BUV.out; omega, BUV.out.2.2.2.2, by have := BUV.out; omega, Y4.out.trans ((Z0a Y5.out yb).mono Y4.out.size)⟩
 have Q0 : Hid (TQ l f T 800000 X0 Y0 Mk.new [] 0) := hid
  ⟨Told.new, MkB.new 64, by have := PB.out; omega, by rw [Z2n HX0.out, Z2n HY0.out]; exact TT.out, Y0y MX.out (by have := XX.out.at_.b; have := XX.out.at_.len; omega) HX0.out, Y0y MY.out (by have := YY.out.at_.b; have := YY.out.at_.len; omega) HY0.out⟩
 clear yb hbb hbu2
 go_wp2_with (fail)
 go_step3
 go_wp2_with (fail)
 obtain ⟨bu, hbu⟩ : ∃ X, w3.heap.size = X := ⟨_, rfl⟩
 obtain ⟨bv, hbv⟩ : ∃ X, w5.heap.size = X := ⟨_, rfl⟩
 rw [hbu, hbv] at C0
 rw [hbu, hbv]
 clear HM SZ2 Y1 Y2 Y3 Y4 Y5 YA YB HBA HBB SZA HB hbu hbv XX YY OX0 PX0 OY0 PY0 HX0 HY0 LX0 LY0 PB BUV IX IY ZX ZY SX SY MX MY UX H64 TT
 go_loopg [] (X0.length + Y0.length) (fun g wr => ∃ (F : Nat → Prop) (X Y : List OpS) (m : Mk) (us : List Un) (K : Nat), g = X.length + Y.length ∧ TSt w wr F b bu bv X Y m ∧ Hid (TQ l f T 800000 X Y m us K))
 case atStart => exact ⟨_, X0, Y0, Mk.new, [], 0, rfl, C0.out, Q0⟩
 case round =>
  obtain ⟨F, X, Y, m, us, K, hg, cs, Q1⟩ := hrel
  have HG := hid hg
  have CS := hid cs
  clear hg cs C0 Q0
  go_wp2_with (go_at_call 129; refine Hid.out ?_)
  refine hid ?_
  refine (Z2T bv Y wr _ CS.out.y).mono ?_
  rintro e w7 ⟨rfl, d, rfl⟩
  have CS := hid (CS.out.more (Z0p _ d))
  generalize wr.drewN d = w7 at *
  cases Y with
  | nil =>
    have EQ : Hid (us = T) := hid Q1.out.end_
    have TD : Hid (Told m T) := hid (EQ.out ▸ Q1.out.told)
    have KB : Hid (K ≤ 800000) := hid (by have := Q1.out.k; omega)
    go_wp2_with (go_at_call 68; refine Hid.out ?_)
    refine hid ?_
    refine (Z8t b w7 F m CS.out.m (by have := Q1.out.b.len; have := KB.out; omega) (fun o ho => by have := Q1.out.b.gap.2 o ho; have := KB.out; omega)).mono ?_
    intro e w8 hN
    obtain ⟨Az, cz, z, rfl, hz, oz, wz, yz⟩ := NewOps.opCV (w0 := w) hN TD.out (fun u hu => OKT.out u hu) Q1.out.b (by have := KB.out; omega) (by omega) CS.out.below.size
    have WZ := hid wz
    have HZ := hid hz
    have OZ := hid oz
    have YZ := hid (CS.out.below.trans (yz.mono CS.out.below.size))
    clear hN hz oz wz yz
    go_wp2_with (go_at_call 81; refine Hid.out ?_)
    refine hid ?_
    refine (Z38 Az z.length cz z w8 rfl OZ.out.at_.rd.1 (by have := OZ.out.at_.b; omega)).mono ?_
    obtain ⟨tk, htk⟩ : ∃ k, Z1k z = k := ⟨_, rfl⟩
    have HTK := hid htk
    rw [htk]
    rintro e w9 ⟨rfl, y9⟩
    have Y9 := hid (YZ.out.trans (y9.mono YZ.out.size))
    have OZ9 := hid (OZ.out.ext y9)
    have WZ9 := hid (WZ.out.below y9)
    clear htk y9
    by_cases h1 : (536870912 : Int) < tk
    ·have h1' : decide ((536870912 : Int) < tk) = true := decide_eq_true h1
     have H1 := hid h1
     go_wp2_with (fail)
     try rw [Exit.noGoto_ret]
     refine bodyPost_ret (v := .tuple #[.slice none 0 0, .int .i64 3]) (by simp [results, Tryz.results56, go_sem]) rfl ?_
     exact ⟨z, HZ.out, Y9.out, OZ9.out.at_.b, .inr ⟨.inl (by rw [HTK.out]; exact H1.out), rfl⟩⟩
    ·have h1' : decide ((536870912 : Int) < tk) = false := decide_eq_false h1
     have H1 := hid h1
     go_wp2_with (go_at_call 82; refine Hid.out ?_)
     refine hid ?_
     refine (Z5P Az z.length cz z w9 rfl OZ9.out.at_.rd.1 (by have := OZ9.out.at_.b; omega)).mono ?_
     obtain ⟨mk, hmk⟩ : ∃ k, Z1F z = k := ⟨_, rfl⟩
     have HMK := hid hmk
     rw [hmk]
     rintro e w10 ⟨rfl, y10⟩
     have Y10 := hid (Y9.out.trans (y10.mono Y9.out.size))
     have OZ10 := hid (OZ9.out.ext y10)
     have WZ10 := hid (WZ9.out.below y10)
     clear hmk y10
     by_cases h2 : (536870912 : Int) < mk
     ·have h2' : decide ((536870912 : Int) < mk) = true := decide_eq_true h2
      have H2 := hid h2
      go_wp2_with (fail)
      try rw [Exit.noGoto_ret]
      refine bodyPost_ret (v := .tuple #[.slice none 0 0, .int .i64 3]) (by simp [results, Tryz.results56, go_sem]) rfl ?_
      exact ⟨z, HZ.out, Y10.out, OZ10.out.at_.b, .inr ⟨.inr (by rw [HMK.out]; exact H2.out), rfl⟩⟩
     ·have h2' : decide ((536870912 : Int) < mk) = false := decide_eq_false h2
      have H2 := hid h2
      go_wp2_with (fail)
      try rw [Exit.noGoto_ret]
      refine bodyPost_ret (v := .tuple #[.slice Az z.length cz, .int .i64 0]) (by simp [results, Tryz.results56, go_sem]) rfl ?_
      exact ⟨z, HZ.out, Y10.out, OZ10.out.at_.b, .inl ⟨by rw [HTK.out, HMK.out]; rintro (h | h); (have := H1.out; omega); (have := H2.out; omega), Az, cz, rfl, OZ10.out, WZ10.out⟩⟩
  | cons y0 t =>
    have hdec : decide ((y0 :: t : List OpS) = []) = false := rfl
    rw [hdec]
    have Y0 := hid (Q1.out.gy y0 (by simp))
    have GX : Hid (∀ z ∈ X, Z8z l z.o) := hid Q1.out.gx
    go_wp2_with (go_at_call 130; refine Hid.out ?_)
    refine hid ?_
    refine (Z4o bu X w7 _ CS.out.x).mono ?_
    obtain ⟨kx, hkx⟩ : ∃ k, Z9v X = k := ⟨_, rfl⟩
    have HKX := hid hkx
    rw [hkx]
    rintro e w8 ⟨rfl, d2, rfl⟩
    have CS := hid (CS.out.more (Z0p _ d2))
    generalize w7.drewN d2 = w8 at *
    clear hkx hdec
    have HXN : Hid (kx ≠ 2 → ∀ x s, X = x :: s → x.o.k ≠ 2) := hid (fun h x s e => by subst e; exact fun h2 => h (HKX.out.symm.trans h2))
    obtain ⟨ky, hky⟩ : ∃ k, Z9v (y0 :: t) = k := ⟨_, rfl⟩
    have HKY : Hid (y0.o.k = ky) := hid hky
    clear hky
    by_cases hkx : kx = 2
    ·subst hkx
     cases f with
     | true =>
       have YOK : Hid (true = true ∨ y0.o.k ≠ 2) := hid (.inl rfl)
       cases X with
       | nil => exact absurd HKX.out (by show ¬ (1 : Int) = 2; decide)
       | cons x0 s0 =>
         have KX0 : Hid (x0.o.k = 2) := hid HKX.out
         obtain ⟨us2, q2, k2⟩ := Q1.out.insX KX0.out YOK.out TLEN.out
         have Q2 := hid q2
         have K2 := hid k2
         have X0R := hid (GX.out x0 (by simp))
         clear q2 k2
         obtain ⟨⟨k9, nn, r9, s9, p9⟩, Ar, cr, As, cs9, Ap, cp⟩ := x0
         go_wp2_with (go_at_call 131; refine Hid.out ?_)
         refine hid ?_
         refine (Z5A bu _ s0 _ (CS.out.x.less (fun k hk => .inr (.inl hk)))).mono ?_
         rintro e w10 ⟨o, X9, he, ⟨ho, hX9⟩, hgr, hfin⟩
         subst ho
         subst hX9
         have he2 : e = .returned (.agg #[.int .u8 k9, .int .i64 nn, .slice Ar r9.length cr, .slice As s9.length cs9, .slice Ap p9.length cp]) := he
         subst he2
         have fl : ∀ W, (Instr.field 36 (.agg #[.int .u8 k9, .int .i64 nn, .slice Ar r9.length cr, .slice As s9.length cs9, .slice Ap p9.length cp]) 2).run Tryz.prog W = .ok (.slice Ar r9.length cr) W := fun W => Tryz.fieldX _ _ _ _ _ W
         clear he
         obtain ⟨hr, hpf⟩ := hfin _ (.inr (.inl rfl)) CS.out.lt CS.out.x
         have CS := hid (CS.out.tookX hr hgr)
         have R9 : Hid (r9.length ≤ 536870912) := hid (by have h := X0R.out.2.1; have h2 := (Z3W X0R.out.1).2; have h3 : k9 = 2 := KX0.out; subst h3; have h4 : Z1d (⟨2, nn, r9, s9, p9⟩ : Opd) = r9.length := rfl; omega)
         clear hr hpf hgr hfin
         go_wp2_with (go_at_call 65; refine Hid.out ?_)
         refine hid ?_
         refine (Z12 b none (r9.length : Int) 0 0 [] w10 F m CS.out.m rfl Rd.nil (fun _ e => by cases e) (by omega) (by have := Q1.out.b.len; have := Q1.out.k; omega) (fun o ho => by have := (Q1.out.b.gap.2 o ho).2.2; omega)).mono ?_
         rintro e w11 ⟨rfl, F', hm', g'⟩
         have CS := hid (CS.out.told hm' g')
         clear hm' g'
         go_wp2_with (fail)
         go_roundg (X9.length + (y0 :: t).length)
         case measure => have h1 := HG.out; simp only [List.length_cons] at h1 ⊢; omega
         case rel => exact ⟨F', X9, y0 :: t, _, us2, _, rfl, CS.out, Q2⟩
     | false =>
       go_wp2_with (go_at_call 130; refine Hid.out ?_)
       refine hid ?_
       refine (Z4o bv (y0 :: t) w8 _ CS.out.y).mono ?_
       rw [show Z9v (y0 :: t) = ky from HKY.out]
       rintro e w9 ⟨rfl, d3, rfl⟩
       have CS := hid (CS.out.more (Z0p _ d3))
       generalize w8.drewN d3 = w9 at *
       by_cases hk2 : ky = 2
       ·subst hk2
        go_wp2_with (go_at_call 130; refine Hid.out ?_)
        refine hid ?_
        refine (Z4o bv (y0 :: t) w9 _ CS.out.y).mono ?_
        rw [show Z9v (y0 :: t) = 2 from HKY.out]
        rintro e wA ⟨rfl, d4, rfl⟩
        have CS := hid (CS.out.more (Z0p _ d4))
        generalize w9.drewN d4 = wA at *
        obtain ⟨us2, q2, k2, s64⟩ := Q1.out.insY HKY.out (.inl rfl)
        have Q2 := hid q2
        have K2 := hid (And.intro k2 s64)
        clear q2 k2 s64
        obtain ⟨⟨k9, nn, r9, s9, p9⟩, Ar, cr, As, cs9, Ap, cp⟩ := y0
        go_wp2_with (go_at_call 131; refine Hid.out ?_)
        refine hid ?_
        refine (Z5A bv _ t _ (CS.out.y.less (fun k hk => .inr (.inr hk)))).mono ?_
        rintro e wB ⟨o, Y9, he, ⟨ho, hY9⟩, hgr, hfin⟩
        subst ho
        subst hY9
        have he2 : e = .returned (.agg #[.int .u8 k9, .int .i64 nn, .slice Ar r9.length cr, .slice As s9.length cs9, .slice Ap p9.length cp]) := he
        subst he2
        clear he
        obtain ⟨hr, hpf⟩ := hfin _ (.inr (.inr rfl)) CS.out.lt CS.out.y
        have CS := hid (CS.out.tookY hr hgr)
        have PF := hid hpf
        clear hr hpf hgr hfin
        have yb := Z0c wB (.cells #[.int .u8 k9, .int .i64 nn, .slice Ar r9.length cr, .slice As s9.length cs9, .slice Ap p9.length cp] 36)
        have hbx := heap_alloc_new wB (.cells #[.int .u8 k9, .int .i64 nn, .slice Ar r9.length cr, .slice As s9.length cs9, .slice Ap p9.length cp] 36)
        obtain ⟨q0, q1, q2, q3, q4⟩ := Z0V hbx
        have YB := hid yb
        clear yb hbx
        go_wp2_with (go_at_call 64; refine Hid.out ?_)
        refine hid ?_
        refine (Z3t b Ar As r9.length cr s9.length cs9 r9 s9 _ F m (CS.out.m.below YB.out) rfl rfl (PF.out.1.1.ext YB.out) (PF.out.2.1.1.ext YB.out) (by have h : K + r9.length ≤ 800000 := K2.out.1; omega) (by have h : s9.length ≤ 64 := K2.out.2; omega) (by have := Q1.out.b.len; have := Q1.out.k; omega) (fun o ho => by have := Q1.out.b.prt o (List.mem_append_right _ ho); have := Q1.out.k; omega)).mono ?_
        rintro e wC ⟨rfl, F', hm', g'⟩
        have CS := hid ((CS.out.more YB.out).told hm' g')
        clear hm' g'
        go_wp2_with (fail)
        go_roundg (X.length + Y9.length)
        case measure => have h1 := HG.out; simp only [List.length_cons] at h1 ⊢; omega
        case rel => exact ⟨F', X, Y9, _, us2, _, rfl, CS.out, Q2⟩
       ·have hk2' : (ky != 2) = true := by rw [bne, beq_eq_false_iff_ne.2 hk2]; rfl
        have YOK : Hid (false = true ∨ y0.o.k ≠ 2) := hid (.inr (by rw [HKY.out]; exact hk2))
        go_wp2_with (fail)
        cases X with
        | nil => exact absurd HKX.out (by show ¬ (1 : Int) = 2; decide)
        | cons x0 s0 =>
          have KX0 : Hid (x0.o.k = 2) := hid HKX.out
          obtain ⟨us2, q2, k2⟩ := Q1.out.insX KX0.out YOK.out TLEN.out
          have Q2 := hid q2
          have K2 := hid k2
          have X0R := hid (GX.out x0 (by simp))
          clear q2 k2
          obtain ⟨⟨k9, nn, r9, s9, p9⟩, Ar, cr, As, cs9, Ap, cp⟩ := x0
          go_wp2_with (go_at_call 131; refine Hid.out ?_)
          refine hid ?_
          refine (Z5A bu _ s0 _ (CS.out.x.less (fun k hk => .inr (.inl hk)))).mono ?_
          rintro e w10 ⟨o, X9, he, ⟨ho, hX9⟩, hgr, hfin⟩
          subst ho
          subst hX9
          have he2 : e = .returned (.agg #[.int .u8 k9, .int .i64 nn, .slice Ar r9.length cr, .slice As s9.length cs9, .slice Ap p9.length cp]) := he
          subst he2
          have fl : ∀ W, (Instr.field 36 (.agg #[.int .u8 k9, .int .i64 nn, .slice Ar r9.length cr, .slice As s9.length cs9, .slice Ap p9.length cp]) 2).run Tryz.prog W = .ok (.slice Ar r9.length cr) W := fun W => Tryz.fieldX _ _ _ _ _ W
          clear he
          obtain ⟨hr, hpf⟩ := hfin _ (.inr (.inl rfl)) CS.out.lt CS.out.x
          have CS := hid (CS.out.tookX hr hgr)
          have R9 : Hid (r9.length ≤ 536870912) := hid (by have h := X0R.out.2.1; have h2 := (Z3W X0R.out.1).2; have h3 : k9 = 2 := KX0.out; subst h3; have h4 : Z1d (⟨2, nn, r9, s9, p9⟩ : Opd) = r9.length := rfl; omega)
          clear hr hpf hgr hfin
          go_wp2_with (go_at_call 65; refine Hid.out ?_)
          refine hid ?_
          refine (Z12 b none (r9.length : Int) 0 0 [] w10 F m CS.out.m rfl Rd.nil (fun _ e => by cases e) (by omega) (by have := Q1.out.b.len; have := Q1.out.k; omega) (fun o ho => by have := (Q1.out.b.gap.2 o ho).2.2; omega)).mono ?_
          rintro e w11 ⟨rfl, F', hm', g'⟩
          have CS := hid (CS.out.told hm' g')
          clear hm' g'
          go_wp2_with (fail)
          go_roundg (X9.length + (y0 :: t).length)
          case measure => have h1 := HG.out; simp only [List.length_cons] at h1 ⊢; omega
          case rel => exact ⟨F', X9, y0 :: t, _, us2, _, rfl, CS.out, Q2⟩
    ·have hkx' : (kx == 2) = false := beq_eq_false_iff_ne.2 hkx
     have HK := hid hkx
     have XC : Hid (f = false ∨ ∀ x s, X = x :: s → x.o.k ≠ 2) := hid (.inr (HXN.out HK.out))
     go_wp2_with (go_at_call 130; refine Hid.out ?_)
     refine hid ?_
     refine (Z4o bv (y0 :: t) w8 _ CS.out.y).mono ?_
     rw [show Z9v (y0 :: t) = ky from HKY.out]
     rintro e w9 ⟨rfl, d3, rfl⟩
     have CS := hid (CS.out.more (Z0p _ d3))
     generalize w8.drewN d3 = w9 at *
     by_cases hk2 : ky = 2
     ·subst hk2
      obtain ⟨us2, q2, k2, s64⟩ := Q1.out.insY HKY.out XC.out
      have Q2 := hid q2
      have K2 := hid (And.intro k2 s64)
      clear q2 k2 s64
      obtain ⟨⟨k9, nn, r9, s9, p9⟩, Ar, cr, As, cs9, Ap, cp⟩ := y0
      go_wp2_with (go_at_call 131; refine Hid.out ?_)
      refine hid ?_
      refine (Z5A bv _ t _ (CS.out.y.less (fun k hk => .inr (.inr hk)))).mono ?_
      rintro e wB ⟨o, Y9, he, ⟨ho, hY9⟩, hgr, hfin⟩
      subst ho
      subst hY9
      have he2 : e = .returned (.agg #[.int .u8 k9, .int .i64 nn, .slice Ar r9.length cr, .slice As s9.length cs9, .slice Ap p9.length cp]) := he
      subst he2
      clear he
      obtain ⟨hr, hpf⟩ := hfin _ (.inr (.inr rfl)) CS.out.lt CS.out.y
      have CS := hid (CS.out.tookY hr hgr)
      have PF := hid hpf
      clear hr hpf hgr hfin
      have yb := Z0c wB (.cells #[.int .u8 k9, .int .i64 nn, .slice Ar r9.length cr, .slice As s9.length cs9, .slice Ap p9.length cp] 36)
      have hbx := heap_alloc_new wB (.cells #[.int .u8 k9, .int .i64 nn, .slice Ar r9.length cr, .slice As s9.length cs9, .slice Ap p9.length cp] 36)
      obtain ⟨q0, q1, q2, q3, q4⟩ := Z0V hbx
      have YB := hid yb
      clear yb hbx
      go_wp2_with (go_at_call 64; refine Hid.out ?_)
      refine hid ?_
      refine (Z3t b Ar As r9.length cr s9.length cs9 r9 s9 _ F m (CS.out.m.below YB.out) rfl rfl (PF.out.1.1.ext YB.out) (PF.out.2.1.1.ext YB.out) (by have h : K + r9.length ≤ 800000 := K2.out.1; omega) (by have h : s9.length ≤ 64 := K2.out.2; omega) (by have := Q1.out.b.len; have := Q1.out.k; omega) (fun o ho => by have := Q1.out.b.prt o (List.mem_append_right _ ho); have := Q1.out.k; omega)).mono ?_
      rintro e wC ⟨rfl, F', hm', g'⟩
      have CS := hid ((CS.out.more YB.out).told hm' g')
      clear hm' g'
      go_wp2_with (fail)
      go_roundg (X.length + Y9.length)
      case measure => have h1 := HG.out; simp only [List.length_cons] at h1 ⊢; omega
      case rel => exact ⟨F', X, Y9, _, us2, _, rfl, CS.out, Q2⟩
     have hk2' : (ky == 2) = false := beq_eq_false_iff_ne.2 hk2
     have HK2 : Hid (y0.o.k ≠ 2) := hid (by rw [HKY.out]; exact hk2)
     have NY : Hid (1 ≤ y0.o.n ∧ y0.o.n ≤ 536870912) := hid (by have h1 := Z3W Y0.out.1; have h2 := Y0.out.2.1; unfold Z1d at h1; rw [if_neg HK2.out] at h1; omega)
     have NX : Hid (∀ x s, X = x :: s → x.o.k ≠ 2 ∧ 1 ≤ x.o.n ∧ x.o.n ≤ 536870912) := hid (fun x s e => by
      have hx := GX.out x (by rw [e]; simp)
      have hk := HXN.out HK.out x s e
      have h1 := Z3W hx.1
      have h2 := hx.2.1
      unfold Z1d at h1
      rw [if_neg hk] at h1
      exact ⟨hk, by omega, by omega⟩)
     obtain ⟨ny, hny⟩ : ∃ ny : Nat, y0.o.n = (ny : Int) := ⟨y0.o.n.toNat, by have := NY.out; omega⟩
     have HNY := hid hny
     clear hny
     go_wp2_with (go_at_call 132; refine Hid.out ?_)
     refine hid ?_
     refine (Z8D bv (y0 :: t) 536870912 w9 _ CS.out.y).mono ?_
     rw [show Y3g (y0 :: t) 536870912 = (ny : Int) from (by show min 536870912 y0.o.n = _; rw [HNY.out]; have := NY.out; have := HNY.out; omega)]
     rintro e wA ⟨rfl, d4, rfl⟩
     have CS := hid (CS.out.more (Z0p _ d4))
     generalize w9.drewN d4 = wA at *
     go_wp2_with (go_at_call 132; refine Hid.out ?_)
     refine hid ?_
     refine (Z8D bu X (ny : Int) wA _ CS.out.x).mono ?_
     obtain ⟨n, hn⟩ : ∃ n : Nat, Y3g X (ny : Int) = (n : Int) := ⟨(Y3g X (ny : Int)).toNat, by
      have h1 := NY.out
      have h2 := HNY.out
      cases X with
      | nil => show (ny : Int) = _; simp [Y3g]
      | cons x s => have h3 := NX.out x s rfl; show min (ny : Int) x.o.n = ((min (ny : Int) x.o.n).toNat : Int); omega⟩
     have HN : Hid (1 ≤ n ∧ n ≤ 536870912 ∧ (n : Int) ≤ y0.o.n ∧ (∀ x s, X = x :: s → (n : Int) ≤ x.o.n ∧ x.o.n ≤ 536870912) ∧ (y0.o.n = (n : Int) ∨ ∃ x s, X = x :: s ∧ x.o.n = (n : Int))) := hid (by
      have h1 := NY.out
      have h2 := HNY.out
      cases X with
      | nil =>
        have h3 : (ny : Int) = (n : Int) := hn
        exact ⟨by omega, by omega, by omega, (fun x s e => by cases e), .inl (by omega)⟩
      | cons x s =>
        have h3 := NX.out x s rfl
        have h4 : min (ny : Int) x.o.n = (n : Int) := hn
        refine ⟨by omega, by omega, by omega, (fun x' s' e => by injection e with e1 e2; subst e1; omega), ?_⟩
        by_cases h5 : (ny : Int) ≤ x.o.n
        ·exact .inl (by omega)
        ·exact .inr ⟨x, s, rfl, by omega⟩)
     rw [hn]
     clear hn
     rintro e wD ⟨rfl, d5, rfl⟩
     have CS := hid (CS.out.more (Z0p _ d5))
     generalize wA.drewN d5 = wD at *
     go_wp2_with (go_at_call 133; refine Hid.out ?_)
     refine hid ?_
     refine (Z8E bu n X wD (CS.out.x.less (fun k hk => .inr (.inl hk))) (fun x s e => HN.out.2.2.2.1 x s e)).mono ?_
     rintro e wE ⟨o, X9, he, ht1, hgr, hfin⟩
     obtain ⟨hr, hpf⟩ := hfin _ (.inr (.inl rfl)) CS.out.lt CS.out.x
     have CS := hid (CS.out.tookX hr hgr)
     obtain ⟨⟨k8, n8, r8, s8, p8⟩, A81, c81, A82, c82, A83, c83⟩ := o
     have PF1 := hid hpf
     have HT1 := hid ht1
     have he2 : e = .returned (.agg #[.int .u8 k8, .int .i64 n8, .slice A81 r8.length c81, .slice A82 s8.length c82, .slice A83 p8.length c83]) := he
     subst he2
     clear he hr hpf hgr hfin ht1
     go_wp2_with (go_at_call 133; refine Hid.out ?_)
     refine hid ?_
     refine (Z8E bv n (y0 :: t) wE (CS.out.y.less (fun k hk => .inr (.inr hk))) (fun x s e => by injection e with e1 e2; subst e1; exact ⟨HN.out.2.2.1, NY.out.2⟩)).mono ?_
     rintro e wB ⟨q, Y9, he, ht2, hgr, hfin⟩
     obtain ⟨hr, hpf⟩ := hfin _ (.inr (.inr rfl)) CS.out.lt CS.out.y
     have CS := hid (CS.out.tookY hr hgr)
     have PF1 := hid (PF1.out.took (.inr rfl) hgr)
     obtain ⟨⟨k7, n7, r7, s7, p7⟩, A71, c71, A72, c72, A73, c73⟩ := q
     have PF2 := hid hpf
     have he2 : e = .returned (.agg #[.int .u8 k7, .int .i64 n7, .slice A71 r7.length c71, .slice A72 s7.length c72, .slice A73 p7.length c73]) := he
     subst he2
     obtain ⟨us9, K9, hq, hlen, ok1, ok2, kb, pb1, pb2, pb3⟩ := Q1.out.both (fun x s e => ⟨(NX.out x s e).1, (HN.out.2.2.2.1 x s e).1⟩) HK2.out HN.out.1 HN.out.2.2.1 HN.out.2.2.2.2 HT1.out ht2 TLEN.out
     have Q2 := hid hq
     have HLEN := hid hlen
     have OK : Hid ((k8 = 1 ∨ k8 = 3) ∧ (k7 = 1 ∨ k7 = 3) ∧ K + 2 ≤ 800000 ∧ p8.length ≤ 64 ∧ p7.length ≤ 64 ∧ (Z2o f p7 p8).length ≤ 64) := hid ⟨ok1, ok2, kb, pb1, pb2, pb3⟩
     clear he hr hpf hgr hfin ht2 hq hlen ok1 ok2 kb pb1 pb2 pb3
     have ya := Z0c wB (.cells #[.int .u8 k8, .int .i64 n8, .slice A81 r8.length c81, .slice A82 s8.length c82, .slice A83 p8.length c83] 36)
     have yb := Z0c (wB.alloc (.cells #[.int .u8 k8, .int .i64 n8, .slice A81 r8.length c81, .slice A82 s8.length c82, .slice A83 p8.length c83] 36)) (.cells #[.int .u8 k7, .int .i64 n7, .slice A71 r7.length c71, .slice A72 s7.length c72, .slice A73 p7.length c73] 36)
     have h16 := (yb.block wB.heap.size (by simp)).trans (heap_alloc_new wB (.cells #[.int .u8 k8, .int .i64 n8, .slice A81 r8.length c81, .slice A82 s8.length c82, .slice A83 p8.length c83] 36))
     have h17 := heap_alloc_new (wB.alloc (.cells #[.int .u8 k8, .int .i64 n8, .slice A81 r8.length c81, .slice A82 s8.length c82, .slice A83 p8.length c83] 36)) (.cells #[.int .u8 k7, .int .i64 n7, .slice A71 r7.length c71, .slice A72 s7.length c72, .slice A73 p7.length c73] 36)
     rw [World.size_alloc] at h17
     obtain ⟨q0, q1, q2, q3, q4⟩ := Z0V h16
     obtain ⟨u0, u1, u2, u3, u4⟩ := Z0V h17
     have YB := hid (Z0a ya yb)
     clear ya yb h16 h17
     by_cases h8 : k8 = 3
     ·subst h8
      have OM : Hid (Z3N f m n (⟨3, n8, r8, s8, p8⟩ : Opd) (⟨k7, n7, r7, s7, p7⟩ : Opd) = m) := hid (by unfold Z3N; rw [if_pos rfl])
      rw [OM.out] at Q2
      go_wp2_with (fail)
      have CS := hid (CS.out.more YB.out)
      go_roundg (X9.length + Y9.length)
      case measure => have h1 := HG.out; have h2 := HLEN.out; omega
      case rel => exact ⟨F, X9, Y9, _, us9, K9, rfl, CS.out, Q2⟩
     have h8' : (k8 == 3) = false := beq_eq_false_iff_ne.2 h8
     by_cases h7 : k7 = 3
     ·subst h7
      have OM : Hid (Z3N f m n (⟨k8, n8, r8, s8, p8⟩ : Opd) (⟨3, n7, r7, s7, p7⟩ : Opd) = Z1G m n) := hid (by unfold Z3N; rw [if_neg h8, if_pos rfl])
      rw [OM.out] at Q2
      go_wp2_with (go_at_call 63; refine Hid.out ?_)
      refine hid ?_
      refine (Z47 b (n : Int) _ F m (CS.out.m.below YB.out)).mono ?_
      rintro e wC ⟨rfl, F', hm', g'⟩
      have CS := hid ((CS.out.more YB.out).told hm' g')
      clear hm' g'
      go_wp2_with (fail)
      go_roundg (X9.length + Y9.length)
      case measure => have h1 := HG.out; have h2 := HLEN.out; omega
      case rel => exact ⟨F', X9, Y9, _, us9, K9, rfl, CS.out, Q2⟩
     have h7' : (k7 == 3) = false := beq_eq_false_iff_ne.2 h7
     have OM : Hid (Z3N f m n (⟨k8, n8, r8, s8, p8⟩ : Opd) (⟨k7, n7, r7, s7, p7⟩ : Opd) = Z0s m n (Z2o f p7 p8)) := hid (by unfold Z3N; rw [if_neg h8, if_neg h7])
     rw [OM.out] at Q2
     cases f with
     | true =>
       go_wp2_with (go_at_call 134; refine Hid.out ?_)
       refine hid ?_
       refine (Y41 A73 A83 p7.length p8.length c73 c83 p7 p8 _ rfl rfl (PF2.out.2.2.1.ext YB.out) (PF1.out.2.2.1.ext YB.out) (by have := OK.out.2.2.2.2.1; omega) (by have := OK.out.2.2.2.1; omega)).mono ?_
       rintro e wC ⟨A9, c9, rfl, ow, yc⟩
       have OW := hid ow
       have YC := hid (Z0a YB.out yc)
       have L9 : Hid ((Z3v p7 p8).length ≤ 64) := hid OK.out.2.2.2.2.2
       have SZ9 : Hid (wB.heap.size ≤ ((wB.alloc (.cells #[.int .u8 k8, .int .i64 n8, .slice A81 r8.length c81, .slice A82 s8.length c82, .slice A83 p8.length c83] 36)).alloc (.cells #[.int .u8 k7, .int .i64 n7, .slice A71 r7.length c71, .slice A72 s7.length c72, .slice A73 p7.length c73] 36)).heap.size) := hid YB.out.size
       clear ow yc
       go_wp2_with (go_at_call 65; refine Hid.out ?_)
       refine hid ?_
       refine (Z12 b A9 (n : Int) (Z3v p7 p8).length c9 (Z3v p7 p8) wC F m (CS.out.m.below YC.out) rfl (OW.out.rd Ch.enc_len) (OW.out.offF Ch.enc_len rfl (fun k hk hF => by have h1 := (OW.out.wb_lt k hk).1; have h2 := CS.out.m.lt k hF; have h3 := SZ9.out; omega)) (by have := L9.out; omega) (by have := Q1.out.b.len; have := Q1.out.k; omega) (fun o ho => by have := (Q1.out.b.gap.2 o ho).2.2; omega)).mono ?_
       rintro e wF ⟨rfl, F', hm', g'⟩
       have CS := hid ((CS.out.more YC.out).told hm' g')
       clear hm' g'
       go_wp2_with (fail)
       go_roundg (X9.length + Y9.length)
       case measure => have h1 := HG.out; have h2 := HLEN.out; omega
       case rel => exact ⟨F', X9, Y9, _, us9, K9, rfl, CS.out, Q2⟩
     | false =>
       go_wp2_with (go_at_call 65; refine Hid.out ?_)
       refine hid ?_
       refine (Z12 b A73 (n : Int) p7.length c73 p7 _ F m (CS.out.m.below YB.out) rfl (PF2.out.2.2.1.ext YB.out) (fun ad e hl hk => PF2.out.2.2.2 ad e hl (.inl hk)) (by have := OK.out.2.2.2.2.1; omega) (by have := Q1.out.b.len; have := Q1.out.k; omega) (fun o ho => by have := (Q1.out.b.gap.2 o ho).2.2; omega)).mono ?_
       rintro e wF ⟨rfl, F', hm', g'⟩
       have CS := hid ((CS.out.more YB.out).told hm' g')
       clear hm' g'
       go_wp2_with (fail)
       go_roundg (X9.length + Y9.length)
       case measure => have h1 := HG.out; have h2 := HLEN.out; omega
       case rel => exact ⟨F', X9, Y9, _, us9, K9, rfl, CS.out, Q2⟩
theorem Z6r (s : Nat) (l : List Ky) (Ax Ay : Option Addr) (nx cx ny cy : Nat) (x y : List OpS) (f : Bool) (w : World) (hX : OpsC w Ax nx cx x) (hY : OpsC w Ay ny cy y) (hS : Sch w s l) (hl : l.length ≤ 64) (hT : Utf8Tabs 0 1 w)
 (mx : mayO l x = 0) (my : mayO l y = 0) (zx : szN x ≤ 50000) (zy : szN y ≤ 50000) (ht : Z0k (traU f (nf (Z0e (osOf x))) (nf (Z0e (osOf y)))) ≤ 536870912) (hm : Z0l (traU f (nf (Z0e (osOf x))) (nf (Z0e (osOf y)))) ≤ 536870912) :
 Calls Tryz.prog 56 #[.pointer (some ⟨s, 0, none⟩), .slice Ax nx cx, .slice Ay ny cy, .bool f] w (Y6g (mkU (traU f (nf (Z0e (osOf x))) (nf (Z0e (osOf y))))) w) := by
 obtain ⟨gx, _, _⟩ := Z1y mx
 obtain ⟨gy, _, _⟩ := Z1y my
 have hmu := Y7d f (Z6e (P := mU l) trivial (Z7B gx)) (Z6e (P := mU l) trivial (Z7B gy))
 refine (Z5l s l Ax Ay nx cx ny cy x y f w hX hY hS hl hT mx my zx zy).mono ?_
 rintro e w' ⟨z, hz, yy, hzb, ⟨_, A, c, rfl, oz, -⟩ | ⟨hbad, rfl⟩⟩
 ·exact ⟨A, c, z, rfl, hz, oz, yy⟩
 ·exfalso
  obtain ⟨h1, h2, _⟩ := Y3d hz hmu ht hm (by omega)
  omega
end Go.Proofs.YtnmedachaeanbaaGreatDoor
