/- fine: are all of them OK? -/
import Derived.Test.YtnhdjbbdgegkgaaDoorRs
namespace Go.Proofs.YtnhdjbbdgegkgaaDoor
open Go Vm
theorem fine_loop (l : List Int) (hs : l.length < 4611686018427387904) : ∀ (m i : Nat), i ≤ l.length → l.length < m + i →
  (l_slices_IndexFunc_Errno__slices_ContainsFunc_Errno__gamehallkeep2_fine_2 m l (l.length : Int) (i : Int) = some (.exit ()) ∧ ∀ x, x ∈ l.drop i → x = 0) ∨ (∃ j : Nat, l_slices_IndexFunc_Errno__slices_ContainsFunc_Errno__gamehallkeep2_fine_2 m l (l.length : Int) (i : Int) = some (.ret ((j : Int), ())) ∧ ∃ x, x ∈ l ∧ x ≠ 0)
 | 0, i, h1, h2 => by omega
 | m + 1, i, h1, h2 => by
  simp only [l_slices_IndexFunc_Errno__slices_ContainsFunc_Errno__gamehallkeep2_fine_2]
  by_cases hi : i < l.length
  ·rw [if_pos (by simpa using hi), if_pos (by omega), if_pos (by omega), Int.toNat_natCast, getD_eq l i 0 hi, List.drop_eq_getElem_cons hi, w64 _ (by omega) (by omega), show ((i : Int) + 1) = ((i + 1 : Nat) : Int) by omega]
   by_cases e : l[i] = 0
   ·rw [if_neg (by simpa using e)]
    rcases fine_loop l hs m (i + 1) (by omega) (by omega) with ⟨h, g⟩ | h
    ·refine .inl ⟨h, fun x hx => ?_⟩
     rcases List.mem_cons.1 hx with rfl | hx
     ·exact e
     ·exact g x hx
    ·exact .inr h
   ·rw [if_pos (by simpa using e)]
    exact .inr ⟨i, rfl, l[i], List.getElem_mem hi, e⟩
  ·rw [if_neg (by simpa using hi), List.drop_of_length_le (by omega)]
   exact .inl ⟨rfl, by simp⟩
theorem fine_ok' (l : List Int) (hs : l.length < 4611686018427387904) : f_gamehallkeep2_fine fuel l = some (decide (∀ x, x ∈ l → x = 0)) := by
 unfold f_gamehallkeep2_fine
 have h := fine_loop l hs fuel 0 (by omega) (by have := fuel_ge (n := 4611686018427387904) (by decide); omega)
 rw [List.drop_zero] at h
 rcases h with ⟨h, g⟩ | ⟨j, h, x, hx, g⟩
 ·have h : l_slices_IndexFunc_Errno__slices_ContainsFunc_Errno__gamehallkeep2_fine_2 fuel l (l.length : Int) 0 = _ := h
  rw [h]
  simp only [decide_eq_true g]
 ·have h : l_slices_IndexFunc_Errno__slices_ContainsFunc_Errno__gamehallkeep2_fine_2 fuel l (l.length : Int) 0 = _ := h
  rw [h]
  have e : decide (∀ x, x ∈ l → x = 0) = false := decide_eq_false fun k => g (k x hx)
  rw [e]
  simp
end Go.Proofs.YtnhdjbbdgegkgaaDoor
