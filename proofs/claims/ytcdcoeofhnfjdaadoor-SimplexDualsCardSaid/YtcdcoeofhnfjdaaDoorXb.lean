/- Matrices: turned, multiplied, told. -/
import Derived.Test.YtcdcoeofhnfjdaaDoorXa
namespace Go.Proofs.YtcdcoeofhnfjdaaDoor
open Go Vm
theorem yg3 {α : Type} (l : List (List α)) (k : Nat) (x : List α) (h : k < l.length) : (l.set k x).getD k [] = x := by
 rw [List.getD_eq_getElem?_getD, List.getElem?_set_self h]; rfl
theorem y9y {α : Type} (l : List (List α)) {k j : Nat} (x : List α) (h : j ≠ k) : (l.set k x).getD j [] = l.getD j [] := by
 rw [List.getD_eq_getElem?_getD, List.getElem?_set_ne (fun e => h e.symm), ← List.getD_eq_getElem?_getD]
theorem QF.snoc {n : Nat} {f : Nat → Rat} {qs : List Qd} (h : QF n f qs) {q : Qd} (hq : QR (f n) q) : QF (n + 1) f (qs ++ [q]) := by
 refine ⟨by rw [List.length_append, h.1]; rfl, fun i hi => ?_⟩
 by_cases e : i = n
 ·rw [e, y8u h.1.symm]; exact hq
 ·rw [y43 (by rw [h.1]; omega)]; exact h.2 i (by omega)
def TI (C i c : Nat) (M : Nat → Nat → Rat) (b : List (List Qd)) : Prop := b.length = C ∧ ∀ k, k < C → QF (if k < c then i + 1 else i) (fun j => M j k) (b.getD k [])
def pr (A B : Nat → Nat → Rat) (n : Nat) (i k : Nat) : Rat := fs (fun j => A i j * B j k) n
theorem QG.snoc {R C : Nat} {M : Nat → Nat → Rat} {g : List (List Qd)} (h : QG R C M g) {r : List Qd} (hr : QF C (M R) r) : QG (R + 1) C M (g ++ [r]) := by
 refine ⟨by rw [List.length_append, h.1]; rfl, fun i hi => ?_⟩
 by_cases e : i = R
 ·rw [e, y8u h.1.symm]; exact hr
 ·rw [y43 (by rw [h.1]; omega)]; exact h.2 i (by omega)
end Go.Proofs.YtcdcoeofhnfjdaaDoor
