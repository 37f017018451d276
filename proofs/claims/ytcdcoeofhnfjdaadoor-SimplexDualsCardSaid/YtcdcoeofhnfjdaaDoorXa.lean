/- Matrices multiplied, turned and compared. -/
import Derived.Test.YtcdcoeofhnfjdaaDoorMb
namespace Go.Proofs.YtcdcoeofhnfjdaaDoor
open Go Vm
def mt (R C : Nat) (M : Nat → Nat → Rat) : List (List ByteArray) := (List.range R).map fun i => ((List.range C).map (M i)).map rt
theorem zr6 (R C : Nat) (M : Nat → Nat → Rat) : (mt R C M).length = R := by unfold mt; rw [List.length_map, List.length_range]
theorem w52 {R C : Nat} {M : Nat → Nat → Rat} {i : Nat} (h : i < R) : (mt R C M).getD i [] = ((List.range C).map (M i)).map rt := by
 unfold mt
 rw [List.getD_eq_getElem?_getD, List.getElem?_map, List.getElem?_range h]; rfl
theorem wh2 {R C : Nat} {M : Nat → Nat → Rat} (h : ∀ i, i < R → ∀ j, j < C → OkR (M i j)) : Txt (mt R C M) R C M := ⟨zr6 R C M, fun i hi => ⟨w52 hi, h i hi⟩⟩
theorem Txt.eq {a : List (List ByteArray)} {R C : Nat} {M : Nat → Nat → Rat} (h : Txt a R C M) : a = mt R C M := by
 refine List.ext_getElem (by rw [zr6]; exact h.1) fun i h1 h2 => ?_
 have hi : i < R := by rw [← h.1]; exact h1
 have e1 := (h.2 i hi).1
 have e2 := w52 (C := C) (M := M) hi
 rw [z36 a i [] h1] at e1
 rw [z36 _ i [] h2] at e2
 rw [e1, e2]
theorem y9l {a : List (List ByteArray)} {R C : Nat} {M : Nat → Nat → Rat} (h : Txt a R C M) (h0 : R = 0 → C = 0) : z86 fuel a = some (C : Int) := by
 unfold z86
 have hl := h.1
 by_cases c : R = 0
 ·rw [if_pos (by rw [beq_iff_eq]; omega), h0 c]; rfl
 ·rw [if_neg (by rw [beq_iff_eq]; omega), if_pos (by omega), (h.2 0 (by omega)).1, List.length_map, List.length_map, List.length_range]
theorem yn2 {a : List (List ByteArray)} {R C : Nat} {M : Nat → Nat → Rat} (h : Txt a R C M) (hR : R ≤ 40) (hC : C ≤ 40) : z4w fuel a = some 0 := by
 have key : ∀ (m i : Nat), i ≤ R → R < m + i → ∃ d, z2p m a a (R : Int) (i : Int) = some (.exit d) := by
  intro m
  induction m with
  | zero => intro i h1 h2; omega
  | succ m ih =>
   intro i h1 h2
   have hl := h.1
   simp only [z2p]
   by_cases hi : i < R
   ·have e4 : IntKind.i64.wrap ((i : Int) + 1) = ((i + 1 : Nat) : Int) := by rw [w64 _ (by omega) (by omega)]; omega
    obtain ⟨r1, r2⟩ := h.2 i hi
    have l1 : (a.getD i []).length = C := by rw [r1, List.length_map, List.length_map, List.length_range]
    have l0 : (a.getD 0 []).length = C := by rw [(h.2 0 (by omega)).1, List.length_map, List.length_map, List.length_range]
    rw [if_pos (by simpa using hi), if_pos (by omega), if_pos (by omega), if_pos (by omega), Int.toNat_natCast, e4, if_neg (by rw [bne_iff_ne]; omega), r1]
    rcases zh1 (((List.range C).map (M i)).map rt) (by rw [List.length_map, List.length_map, List.length_range]; omega) (fun s hs => by
      obtain ⟨r, hr, rfl⟩ := List.mem_map.1 hs
      obtain ⟨j, hj, rfl⟩ := List.mem_map.1 hr
      exact w7l (r2 j (List.mem_range.1 hj))) with ⟨e, e0, g⟩ | ⟨g, _⟩
    ·exfalso
     unfold z2b at g
     rw [if_neg (by rw [decide_eq_true_eq, List.length_map, List.length_map, List.length_range]; omega)] at g
     rw [y89 _ (by rw [List.length_map, List.length_range]; omega) (fun r hr => by
       obtain ⟨j, hj, rfl⟩ := List.mem_map.1 hr
       exact r2 j (List.mem_range.1 hj))] at g
     cases g; exact e0 rfl
    ·rw [g, Option.bind_some, if_neg (by decide)]
     exact ih (i + 1) (by omega) (by omega)
   ·rw [if_neg (by simpa using hi)]; exact ⟨_, rfl⟩
 have hf := z82 (n := 2 ^ 100) (by decide)
 obtain ⟨d, g⟩ := key fuel 0 (by omega) (by omega)
 have g : z2p fuel a a (R : Int) 0 = _ := g
 unfold z4w
 rw [h.1, if_neg (by rw [decide_eq_true_eq]; omega), g]
end Go.Proofs.YtcdcoeofhnfjdaaDoor
