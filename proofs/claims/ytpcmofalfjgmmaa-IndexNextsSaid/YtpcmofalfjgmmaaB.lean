/- The plain law of IndexBack. -/
import Derived.Test.YtpcmofalfjgmmaaR
import Derived.Test.YtpcmofalfjgmmaaVmD
namespace Go.Proofs.Ytpcmofalfjgmmaa
open Go Vm

theorem f6_true : f6 fuel = some true := by kernel_rfl
theorem f11_two : f11 fuel [0, 0] = some true := by kernel_rfl
theorem f11_four : f11 fuel [0, 0, 0, 0] = some true := by kernel_rfl

theorem l12_all (a b : List Int) (hl : a.length = b.length) (hs : a.length < 4611686018427387904) : ∀ (m i : Nat), i ≤ a.length → a.length < m + i →
    l12_4 m a b (a.length : Int) (i : Int) = if a.drop i = b.drop i then some (.exit ()) else some (.ret (false, ()))
  | 0, i, h1, h2 => by omega
  | m + 1, i, h1, h2 => by
    simp only [l12_4]
    by_cases hi : i < a.length
    · have hib : i < b.length := by omega
      rw [if_pos (by simpa using hi), if_pos (by omega), if_pos (by omega), if_pos (by omega), if_pos (by omega), Int.toNat_natCast, getD_eq a i 0 hi, getD_eq b i 0 hib, List.drop_eq_getElem_cons hi, List.drop_eq_getElem_cons hib]
      by_cases e : a[i] = b[i]
      · rw [if_neg (by simp [e]), w64 _ (by omega) (by omega), show ((i : Int) + 1) = ((i + 1 : Nat) : Int) by omega, l12_all a b hl hs m (i + 1) (by omega) (by omega)]
        simp only [e, List.cons.injEq, true_and]
      · rw [if_pos (by simpa using e), if_neg (fun h => e (List.cons.inj h).1)]
    · rw [if_neg (by simpa using hi), List.drop_of_length_le (by omega), List.drop_of_length_le (by omega), if_pos rfl]

theorem f12_ok (a b : List Int) (hs : a.length < 4611686018427387904) : f12 fuel a b = some (decide (a = b)) := by
  unfold f12
  by_cases hl : a.length = b.length
  · have h := l12_all a b hl hs fuel 0 (by omega) (by have := fuel_ge (n := 4611686018427387904) (by decide); omega)
    have h : l12_4 fuel a b (a.length : Int) 0 = _ := h
    rw [List.drop_zero, List.drop_zero] at h
    rw [if_neg (by simp [hl]), h]
    by_cases e : a = b
    · rw [if_pos e]; simp [e]
    · rw [if_neg e]; simp [e]
  · have e : a ≠ b := fun e => hl (by rw [e])
    rw [if_pos (by simp; omega)]
    simp [e]

theorem f7_bad {l : List Int} {e : Int} (h0 : e ≠ 0) (h : f15 fuel l = some e) : f7 fuel l = some (0, e) := by
  unfold f7
  rw [h, Option.bind_some, if_pos (by simpa using h0)]
theorem f8_bad {l : List Int} {e : Int} (h0 : e ≠ 0) (h : f15 fuel l = some e) : f8 fuel l = some ([], e) := by
  unfold f8
  rw [h, Option.bind_some, if_pos (by simpa using h0)]

theorem indexBack_plain : ∀ x : List Int, WfL [.slice (.int .i64)] x → f3 fuel x = some true := by
  intro x _
  unfold f3
  rw [f6_true]
  rcases f15_spec fuel fuel100 x with ⟨e, h0, h⟩ | ⟨_, ks, rfl, h⟩
  · rw [f7_bad h0 h, f8_bad h0 h]
    simp [h0]
  · have hr := rank_lt 7 ks h.2
    rw [f7_ok h, f8_ok h]
    simp only [Option.bind_some]
    rw [f9_ok h, f10_ok h]
    simp only [Option.bind_some]
    rw [f11_two, f12_ok _ _ (by rw [length_zs]; have := h.1; omega)]
    simp [hr]

end Go.Proofs.Ytpcmofalfjgmmaa
