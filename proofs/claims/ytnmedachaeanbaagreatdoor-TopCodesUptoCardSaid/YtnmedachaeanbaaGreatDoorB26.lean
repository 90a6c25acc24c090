/- Merged texts. -/
import Derived.Test.YtnmedachaeanbaaGreatDoorB23
import Derived.Test.YtnmedachaeanbaaGreatDoorB24
import Derived.Test.YtnmedachaeanbaaGreatDoorB25
namespace Go.Proofs.YtnmedachaeanbaaGreatDoor
open Go.RowKit
set_option linter.unusedVariables false
theorem Z8R (b:Nat) (Ap:Option Addr) (n:Int) (np cp:Nat) (p:List Ch) (w:World) (F:Nat→Prop) (m:Mk) (h:Mkr w F b m)
 (hnp:np=p.length) (rp:RdCh w w.heap.size Ap p) (op:OffF F Ap p.length) (hb:np≤1048576) (hmb:m.done.length+m.ins.length≤10000000) (hpb:∀ o∈m.done++Z0Z m,o.p.length≤1048576) :
 Calls Tryz.prog 65 #[.pointer (some ⟨b,0,none⟩),.int .i64 n,.slice Ap np cp] w (Z5m (Z0v m n p) w F b):=by
 by_cases hn:n<1
 ·exact Y5f b Ap n np cp p w F m h hn
 ·cases h0:(m.done++Z0Z m).getLast? with
  | none=>exact Y5g b Ap n np cp p w F m h hnp rp op hb hn hmb (List.getLast?_eq_none_iff.1 h0)
  | some o=>
    have ho:=hpb o (List.mem_of_getLast? h0)
    by_cases hk:o.k=1
    ·by_cases hp:o.p=p
     ·exact Y5C b Ap n np cp p w F m h hnp rp op hb hn hmb o h0 ho hk hp
     ·exact Y3U b Ap n np cp p w F m h hnp rp op hb hn hmb o h0 ho hk hp
    ·exact Y5B b Ap n np cp p w F m h hnp rp op hb hn hmb o h0 ho hk
end Go.Proofs.YtnmedachaeanbaaGreatDoor
