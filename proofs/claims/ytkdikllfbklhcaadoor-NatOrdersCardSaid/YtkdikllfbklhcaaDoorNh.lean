/- The plain laws of natural numbers, in the rows' form. -/
import Derived.Test.YtkdikllfbklhcaaDoorNg
import Derived.Test.YtkdikllfbklhcaaDoorVmD
namespace Go.Proofs.YtkdikllfbklhcaaDoor
open Go Vm
theorem natRing_plain : ∀ x : ByteArray × ByteArray × ByteArray, WfL [.str, .str, .str] x → f_gamehallkeep2_NatRing fuel x.1 x.2.1 x.2.2 = some true := fun x _ => ring_true x.1 x.2.1 x.2.2
theorem natEuclid_plain : ∀ x : ByteArray × ByteArray, WfL [.str, .str] x → f_gamehallkeep2_NatEuclid fuel x.1 x.2 = some true := fun x h => euclid_true x.1 x.2 (Nat.le_trans h.1 (by decide)) (Nat.le_trans h.2 (by decide))
theorem natOrders_plain : ∀ x : ByteArray × ByteArray, WfL [.str, .str] x → f_gamehallkeep2_NatOrders fuel x.1 x.2 = some true := fun x h => orders_true x.1 x.2 (Nat.le_trans h.1 (by decide)) (Nat.le_trans h.2 (by decide))
end Go.Proofs.YtkdikllfbklhcaaDoor
