/- Matrices multiplied, turned and compared. -/
import Derived.Test.YtcdcoeofhnfjdaaDoorMb
namespace Go.Proofs.YtcdcoeofhnfjdaaDoor
open Go Vm
def mt (R C : Nat) (M : Nat → Nat → Rat) : List (List ByteArray) := (List.range R).map fun i => ((List.range C).map (M i)).map rt
theorem w4a (R C : Nat) (M : Nat → Nat → Rat) : (mt R C M).length = R := by unfold mt; rw [List.length_map, List.length_range]
theorem wc5 {R C : Nat} {M : Nat → Nat → Rat} {i : Nat} (h : i < R) : (mt R C M).getD i [] = ((List.range C).map (M i)).map rt := by
 unfold mt
 rw [List.getD_eq_getElem?_getD, List.getElem?_map, List.getElem?_range h]; rfl
theorem Txt.eq {a : List (List ByteArray)} {R C : Nat} {M : Nat → Nat → Rat} (h : Txt a R C M) : a = mt R C M := by
 refine List.ext_getElem (by rw [w4a]; exact h.1) fun i h1 h2 => ?_
 have hi : i < R := by rw [← h.1]; exact h1
 have e1 := (h.2 i hi).1
 have e2 := wc5 (C := C) (M := M) hi
 rw [z33 a i [] h1] at e1
 rw [z33 _ i [] h2] at e2
 rw [e1, e2]
theorem w5c {a : List (List ByteArray)} {R C : Nat} {M : Nat → Nat → Rat} (h : Txt a R C M) (h0 : R = 0 → C = 0) : z9y fuel a = some (C : Int) := by
 unfold z9y
 have hl := h.1
 by_cases c : R = 0
 ·rw [if_pos (by rw [beq_iff_eq]; omega), h0 c]; rfl
 ·rw [if_neg (by rw [beq_iff_eq]; omega), if_pos (by omega), (h.2 0 (by omega)).1, List.length_map, List.length_map, List.length_range]
end Go.Proofs.YtcdcoeofhnfjdaaDoor
