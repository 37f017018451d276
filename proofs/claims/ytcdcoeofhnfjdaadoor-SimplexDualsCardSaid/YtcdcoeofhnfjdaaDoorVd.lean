/- A pivot on the rows of a tableau, as Unique does it. -/
import Derived.Test.YtcdcoeofhnfjdaaDoorVc
namespace Go.Proofs.YtcdcoeofhnfjdaaDoor
open Go Vm
theorem QG.ext {R C : Nat} {M M' : Nat → Nat → Rat} {g : List (List Qd)} (h : QG R C M g) (e : ∀ i, i < R → ∀ j, j < C → M i j = M' i j) : QG R C M' g := ⟨h.1, fun i hi => (h.2 i hi).ext (e i hi)⟩
theorem QG.set {R C : Nat} {M : Nat → Nat → Rat} {g : List (List Qd)} (h : QG R C M g) {i j : Nat} (hi : i < R) (hj : j < C) {v : Rat} {q : Qd} (hq : QR v q) : QG R C (fun r c => if r = i ∧ c = j then v else M r c) (g.set i ((g.getD i []).set j q)) := by
 refine ⟨by rw [List.length_set]; exact h.1, fun r hr => ?_⟩
 by_cases e : r = i
 ·subst e
  rw [yg3 _ _ _ (by rw [h.1]; exact hr)]
  refine ((h.2 r hr).set hj hq).ext fun c _ => ?_
  show _ = if r = r ∧ c = j then v else M r c
  by_cases e2 : c = j
  ·rw [if_pos e2, if_pos ⟨rfl, e2⟩]
  ·rw [if_neg e2, if_neg fun h => e2 h.2]
 ·rw [y9y _ _ e]
  refine (h.2 r hr).ext fun c _ => ?_
  show _ = if r = i ∧ c = j then v else M r c
  rw [if_neg fun h => e h.1]
def dv (p k c : Nat) (T : Nat → Nat → Rat) (r q : Nat) : Rat := if r = p ∧ q < c then T p q / T p k else T r q
def sbt (p i c : Nat) (f : Rat) (V : Nat → Nat → Rat) (r q : Nat) : Rat := if r = i ∧ q < c then V i q - f * V p q else V r q
def cl (p k i : Nat) (V : Nat → Nat → Rat) (r q : Nat) : Rat := if r < i ∧ r ≠ p then V r q - V r k * V p q else V r q
end Go.Proofs.YtcdcoeofhnfjdaaDoor
