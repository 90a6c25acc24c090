/- (*normal.Maker).Retain at whatever maker. -/
import Derived.Test.YtipoeidmblnbbaaGreatDoorMkRetKPd
import Derived.Test.YtipoeidmblnbbaaGreatDoorMkRetPPd
import Derived.Test.YtipoeidmblnbbaaGreatDoorMkRetSPd
namespace Go.Proofs.YtipoeidmblnbbaaGreatDoor
open Go.RowKit
set_option linter.unusedVariables false
theorem mkRetain_any (b : Nat) (Ap : Option Addr) (n : Int) (np cp : Nat) (p : List Ch) (w : World) (F : Nat → Prop) (m : Mk) (h : Mkr w F b m)
    (hnp : np = p.length) (rp : RdCh w w.heap.size Ap p) (op : OffF F Ap p.length) (hb : np ≤ 1048576) (hmb : m.done.length + m.ins.length ≤ 10000000) (hpb : ∀ o ∈ m.done ++ mkGap m, o.p.length ≤ 1048576) :
    Calls Tryz.prog 52 #[.pointer (some ⟨b, 0, none⟩), .int .i64 n, .slice Ap np cp] w (MkOut (mkRetain m n p) w F b) := by
  by_cases hn : n < 1
  · exact ret_less b Ap n np cp p w F m h hn
  · cases h0 : (m.done ++ mkGap m).getLast? with
    | none => exact ret_none b Ap n np cp p w F m h hnp rp op hb hn hmb (List.getLast?_eq_none_iff.1 h0)
    | some o =>
      have ho := hpb o (List.mem_of_getLast? h0)
      by_cases hk : o.k = 1
      · by_cases hp : o.p = p
        · exact ret_same b Ap n np cp p w F m h hnp rp op hb hn hmb o h0 ho hk hp
        · exact ret_patch b Ap n np cp p w F m h hnp rp op hb hn hmb o h0 ho hk hp
      · exact ret_kind b Ap n np cp p w F m h hnp rp op hb hn hmb o h0 ho hk
end Go.Proofs.YtipoeidmblnbbaaGreatDoor
