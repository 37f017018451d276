/- The simplex method: no vector that satisfies all conditions has a greater value. -/
import Derived.Test.YtcdcoeofhnfjdaaDoorSl
import Derived.Test.YtcdcoeofhnfjdaaDoorXd
namespace Go.Proofs.YtcdcoeofhnfjdaaDoor
open Go Vm
theorem weak {m n : Nat} {A : Nat → Nat → Rat} {b c x y : Nat → Rat} (hx : ∀ k, k < n → 0 ≤ x k) (hy : ∀ j, j < m → 0 ≤ y j) (h1 : ∀ i, i < m → fs (fun k => A i k * x k) n ≤ b i) (h2 : ∀ k, k < n → c k ≤ fs (fun j => y j * A j k) m) :
  fs (fun k => c k * x k) n ≤ fs (fun j => y j * b j) m := by
 have e1 : fs (fun k => c k * x k) n ≤ fs (fun k => fs (fun j => y j * A j k * x k) m) n := w9k fun k hk => by
  rw [y5h (fun j => y j * A j k) (x k) m]
  exact Rat.mul_le_mul_of_nonneg_right (h2 k hk) (hx k hk)
 have e2 : fs (fun k => fs (fun j => y j * A j k * x k) m) n = fs (fun j => fs (fun k => y j * A j k * x k) n) m := y5g (fun k j => y j * A j k * x k) m n
 have e3 : fs (fun j => fs (fun k => y j * A j k * x k) n) m ≤ fs (fun j => y j * b j) m := w9k fun j hj => by
  have : fs (fun k => y j * A j k * x k) n = y j * fs (fun k => A j k * x k) n := by
   rw [← zk1]
   exact z1r fun k _ => Rat.mul_assoc _ _ _
  rw [this]
  exact Rat.mul_le_mul_of_nonneg_left (h1 j hj) (hy j hj)
 rw [e2] at e1
 exact Rat.le_trans e1 e3
theorem w9l {rs : List Rat} {i : Nat} (hi : i < rs.length) {d : ByteArray} : (rs.map rt).getD i d = rt (rs.getD i 0) := by
 rw [List.getD_eq_getElem?_getD, List.getD_eq_getElem?_getD, List.getElem?_map, List.getElem?_eq_getElem hi]; rfl
end Go.Proofs.YtcdcoeofhnfjdaaDoor
