/- Index, Contains and Equal on lists of numbers. -/
import Derived.Test.YtkpohkeppbhdjaaDoorPf
import Derived.Test.YtkpohkeppbhdjaaDoorVmD
namespace Go.Proofs.YtkpohkeppbhdjaaDoor
open Go Vm

theorem fuel100 : 1000 ≤ fuel := fuel_ge (by decide)

theorem l22i_all (l : List Int) (x : Int) (hs : l.length < 4611686018427387904) : ∀ (m i : Nat), i ≤ l.length → l.length < m + i →
    l_slices_Index_int_2 m l x (l.length : Int) (i : Int) = if x ∈ l.drop i then some (.ret (((i + (l.drop i).idxOf x : Nat) : Int), ())) else some (.exit ())
  | 0, i, h1, h2 => by omega
  | m + 1, i, h1, h2 => by
    simp only [l_slices_Index_int_2]
    by_cases hi : i < l.length
    · have ih := l22i_all l x hs m (i + 1) (by omega) (by omega)
      rw [if_pos (by simpa using hi), if_pos (by omega), if_pos (by omega), Int.toNat_natCast, getD_eq l i 0 hi, List.drop_eq_getElem_cons hi, w64 _ (by omega) (by omega), show ((i : Int) + 1) = ((i + 1 : Nat) : Int) by omega, ih]
      by_cases e : x = l[i]
      · rw [if_pos (by simpa using e), if_pos (by rw [e]; exact List.mem_cons_self ..), ← e, List.idxOf_cons_self, Nat.add_zero]
      · have ne : (l[i] == x) = false := by simpa using fun h => e h.symm
        rw [if_neg (by simpa using e), List.idxOf_cons, ne, cond_false]
        simp only [List.mem_cons, e, false_or]
        split
        · congr 4; omega
        · rfl
    · rw [if_neg (by simpa using hi), List.drop_of_length_le (by omega)]
      simp

theorem f22_ok (l : List Int) (x : Int) (hs : l.length < 4611686018427387904) : f_slices_Index_int fuel l x = some (if x ∈ l then ((l.idxOf x : Nat) : Int) else -1) := by
  unfold f_slices_Index_int
  have h := l22i_all l x hs fuel 0 (by omega) (by have := fuel_ge (n := 4611686018427387904) (by decide); omega)
  rw [List.drop_zero, Nat.zero_add] at h
  have h : l_slices_Index_int_2 fuel l x (l.length : Int) 0 = _ := h
  rw [h]
  by_cases e : x ∈ l
  · rw [if_pos e, if_pos e]
  · rw [if_neg e, if_neg e]

theorem f26_ok (l : List Int) (x : Int) (hs : l.length < 4611686018427387904) : f_slices_Contains_int fuel l x = some (decide (x ∈ l)) := by
  unfold f_slices_Contains_int
  rw [f22_ok l x hs, Option.bind_some]
  by_cases e : x ∈ l
  · rw [if_pos e]; simp [e]
  · rw [if_neg e]; simp [e]

/-- A deck that Check takes. -/
theorem l10_all (a b : List Int) (hl : a.length = b.length) (hs : a.length < 4611686018427387904) : ∀ (m i : Nat), i ≤ a.length → a.length < m + i →
    l_slices_Equal_int_4 m a b (a.length : Int) (i : Int) = if a.drop i = b.drop i then some (.exit ()) else some (.ret (false, ()))
  | 0, i, h1, h2 => by omega
  | m + 1, i, h1, h2 => by
    simp only [l_slices_Equal_int_4]
    by_cases hi : i < a.length
    · have hib : i < b.length := by omega
      rw [if_pos (by simpa using hi), if_pos (by omega), if_pos (by omega), if_pos (by omega), if_pos (by omega), Int.toNat_natCast, getD_eq a i 0 hi, getD_eq b i 0 hib, List.drop_eq_getElem_cons hi, List.drop_eq_getElem_cons hib]
      by_cases e : a[i] = b[i]
      · rw [if_neg (by simp [e]), w64 _ (by omega) (by omega), show ((i : Int) + 1) = ((i + 1 : Nat) : Int) by omega, l10_all a b hl hs m (i + 1) (by omega) (by omega)]
        simp only [e, List.cons.injEq, true_and]
      · rw [if_pos (by simpa using e), if_neg (fun h => e (List.cons.inj h).1)]
    · rw [if_neg (by simpa using hi), List.drop_of_length_le (by omega), List.drop_of_length_le (by omega), if_pos rfl]

theorem f10_ok (a b : List Int) (hs : a.length < 4611686018427387904) : f_slices_Equal_int fuel a b = some (decide (a = b)) := by
  unfold f_slices_Equal_int
  by_cases hl : a.length = b.length
  · have h := l10_all a b hl hs fuel 0 (by omega) (by have := fuel_ge (n := 4611686018427387904) (by decide); omega)
    have h : l_slices_Equal_int_4 fuel a b (a.length : Int) 0 = _ := h
    rw [List.drop_zero, List.drop_zero] at h
    rw [if_neg (by simp [hl]), h]
    by_cases e : a = b
    · rw [if_pos e]; simp [e]
    · rw [if_neg e]; simp [e]
  · have e : a ≠ b := fun e => hl (by rw [e])
    rw [if_pos (by simp; omega)]
    simp [e]

end Go.Proofs.YtkpohkeppbhdjaaDoor
