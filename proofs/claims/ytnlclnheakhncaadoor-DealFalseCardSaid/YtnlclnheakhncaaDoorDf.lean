/- The plain law of DealFalse. -/
import Derived.Test.YtnlclnheakhncaaDoorDc
namespace Go.Proofs.YtnlclnheakhncaaDoor
open Go Vm

theorem commit_loop (l : List (List Int)) (hl : ∀ d, d ∈ l → d.length ≤ 4611686018427387904) (hs : l.length ≤ 6) (n c : Int) (op : List Bool) (dr : List (List Int)) :
    ∀ (m i : Nat) (se : List Int), i ≤ l.length → 0 < l.length → l.length + 100 < m + i → se.length = l.length → (∀ j, j < i → f_deal_Seal fuel (l.getD j []) (j : Int) = some (se.getD j 0)) →
    ∃ se' : List Int, l_gamehallkeep2_DealFalse_12 m l (l.length : Int) (i : Int) n (if i = l.length then 1 else 0) c (sd l.length i) op se dr = some (.exit (n, 1, c, sd l.length l.length, op, se', dr, ())) ∧ se'.length = l.length ∧
      ∀ j, j < l.length → f_deal_Seal fuel (l.getD j []) (j : Int) = some (se'.getD j 0)
  | 0, i, se, h1, h2, h3, h4, h5 => by omega
  | m + 1, i, se, h1, h2, h3, h4, h5 => by
    simp only [l_gamehallkeep2_DealFalse_12]
    by_cases hi : i < l.length
    · have hne : ¬ i = l.length := by omega
      obtain ⟨v, hv⟩ := seal_ok (l.getD i []) (i : Int) (hl _ (by rw [getD_eq l i [] hi]; exact List.getElem_mem hi))
      have c0 : (0 : Int) ≤ (i : Int) := by omega
      have c1 : (i : Int) < (l.length : Int) := by omega
      have c2 : (i : Int) < (se.length : Int) := by omega
      have c3 : ¬ (i : Int) < 0 := by omega
      have c4 : ¬ (i : Int) ≥ (se.length : Int) := by omega
      have c5 : (i : Int) < ((sd l.length i).length : Int) := by rw [sd_length (by omega)]; omega
      have c6 : IntKind.i64.wrap ((i : Int) + 1) = ((i + 1 : Nat) : Int) := by rw [w64 _ (by omega) (by omega)]; omega
      simp only [if_neg hne, c0, c1, c2, c3, c4, c5, c6, decide_true, decide_false, Bool.false_eq_true, if_true, if_false, Int.toNat_natCast, hv, Option.bind_some, sd_at hi, sd_set hi]
      rw [if_neg (by decide), containsB _ (by rw [sd_length (by omega)]; omega), Option.bind_some]
      have hse : (se.set i v).length = l.length := by rw [List.length_set, h4]
      have hsv : ∀ j, j < i + 1 → f_deal_Seal fuel (l.getD j []) (j : Int) = some ((se.set i v).getD j 0) := by
        intro j hj
        by_cases hji : j = i
        · subst hji; rw [hv, getD_set_eq' _ _ _ _ (by omega)]
        · rw [getD_set_ne' _ _ _ _ _ (by omega)]; exact h5 j (by omega)
      have ih := commit_loop l hl hs n c op dr m (i + 1) (se.set i v) (by omega) h2 (by omega) hse hsv
      by_cases hlast : i + 1 = l.length
      · rw [if_pos (by rw [decide_eq_false (fun h => by have := sd_mem.1 h; omega)]; rfl)]
        rw [if_pos hlast] at ih
        exact ih
      · rw [if_neg (by rw [decide_eq_true (sd_mem.2 (by omega))]; decide)]
        rw [if_neg hlast] at ih
        exact ih
    · obtain rfl : i = l.length := by omega
      have c1 : ¬ (l.length : Int) < (l.length : Int) := by omega
      simp only [c1, decide_false, Bool.false_eq_true, if_false]
      exact ⟨se, by simp, h4, fun j hj => h5 j hj⟩

theorem missing_loop (b : List Bool) (hb : ∀ x, x ∈ b → x = true) (hs : b.length ≤ 1000) (n st c : Int) (op : List Bool) (se : List Int) (dr : List (List Int)) : ∀ (m i : Nat), i ≤ b.length → b.length < m + i →
    l_deal_Table_Missing__gamehallkeep2_DealFalse_6 m (b.length : Int) (i : Int) n st c [] b op se dr = some (.exit ([], n, st, c, b, op, se, dr, ()))
  | 0, i, h1, h2 => by omega
  | m + 1, i, h1, h2 => by
    simp only [l_deal_Table_Missing__gamehallkeep2_DealFalse_6]
    by_cases hi : i < b.length
    · have : b.getD i false = true := by rw [getD_eq b i false hi]; exact hb _ (List.getElem_mem hi)
      rw [if_pos (by simpa using hi), if_pos (by omega), if_pos (by omega), Int.toNat_natCast, this, if_neg (by decide), w64 _ (by omega) (by omega), show ((i : Int) + 1) = ((i + 1 : Nat) : Int) by omega]
      exact missing_loop b hb hs n st c op se dr m (i + 1) (by omega) (by omega)
    · rw [if_neg (by simpa using hi)]

theorem fits_loop (l : List (List Int)) (hs : l.length ≤ 6) (n : Nat) (hn : n ≤ 52) : ∀ (m i : Nat), i ≤ l.length → l.length < m + i → (∀ d, d ∈ l.take i → f_cards_Fits fuel (n : Int) d = some 0) →
    (∃ j : Nat, l_slices_IndexFunc_int__slices_ContainsFunc_int__gamehallkeep2_DealFalse_2 m l (l.length : Int) (i : Int) (n : Int) = some (.ret ((j : Int), (n : Int), ()))) ∨
    ((∀ d, d ∈ l → f_cards_Fits fuel (n : Int) d = some 0) ∧ l_slices_IndexFunc_int__slices_ContainsFunc_int__gamehallkeep2_DealFalse_2 m l (l.length : Int) (i : Int) (n : Int) = some (.exit ((n : Int), ())))
  | 0, i, h1, h2, h3 => by omega
  | m + 1, i, h1, h2, h3 => by
    simp only [l_slices_IndexFunc_int__slices_ContainsFunc_int__gamehallkeep2_DealFalse_2]
    by_cases hi : i < l.length
    · rw [if_pos (by simpa using hi), if_pos (by omega), if_pos (by omega), Int.toNat_natCast, getD_eq l i [] hi, w64 _ (by omega) (by omega), show ((i : Int) + 1) = ((i + 1 : Nat) : Int) by omega]
      rcases fits_ok hn l[i] with ⟨⟨e, e0, h⟩, _⟩ | ⟨h, _⟩
      · rw [h, Option.bind_some, if_pos (by simpa using e0)]
        exact .inl ⟨i, rfl⟩
      · rw [h, Option.bind_some, if_neg (by decide)]
        refine fits_loop l hs n hn m (i + 1) (by omega) (by omega) fun d hd => ?_
        rw [List.take_succ_eq_append_getElem hi] at hd
        rcases List.mem_append.1 hd with hd | hd
        · exact h3 d hd
        · rw [List.mem_singleton] at hd; rw [hd]; exact h
    · rw [if_neg (by simpa using hi)]
      rw [List.take_of_length_le (by omega)] at h3
      exact .inr ⟨h3, rfl⟩

theorem dealFalse_true (a : Int) (ls : List (List Int)) (kk sec : Int) (hls : ∀ d, d ∈ ls → d.length ≤ 4611686018427387904) : f_gamehallkeep2_DealFalse fuel a ls kk sec = some true := by
  unfold f_gamehallkeep2_DealFalse
  have hf := fuel90
  obtain ⟨n, hn, e⟩ := pick_ok a (n := 9) (by decide) (by decide)
  have e : f_gamehallkeep2_pick fuel a 9 = some (n : Int) := e
  rw [dealFact_true', Option.bind_some, if_pos (by decide), f6_true, Option.bind_some, if_neg (by decide), e, Option.bind_some]
  have hmin : (if 6 < (ls.length : Int) then (6 : Int) else (ls.length : Int)) = ((min 6 ls.length : Nat) : Int) := by split <;> omega
  rw [hmin, Int.toNat_natCast, if_pos (by omega), if_pos (by omega)]
  generalize hl : (ls.take (min 6 ls.length)).drop 0 = l
  have hlen : l.length ≤ 6 := by rw [← hl, List.drop_zero, List.length_take]; omega
  have hmem : ∀ d, d ∈ l → d.length ≤ 4611686018427387904 := fun d hd => by
    rw [← hl, List.drop_zero] at hd
    exact hls d (List.mem_of_mem_take hd)
  clear hl hmin
  by_cases h0 : l.length = 0
  · rw [if_neg (by simp [h0])]
  rw [if_pos (by simpa using h0)]
  rcases fits_loop l hlen n (by omega) fuel 0 (by omega) (by omega) (by simp) with ⟨j, g⟩ | ⟨hfit, g⟩
  · have g : l_slices_IndexFunc_int__slices_ContainsFunc_int__gamehallkeep2_DealFalse_2 fuel l (l.length : Int) 0 (n : Int) = _ := g
    rw [g]
    simp only
    rw [if_pos (by simp)]
  have g : l_slices_IndexFunc_int__slices_ContainsFunc_int__gamehallkeep2_DealFalse_2 fuel l (l.length : Int) 0 (n : Int) = _ := g
  rw [g]
  simp only
  obtain ⟨k, hk, ek⟩ := pick_ok kk (n := l.length) (by omega) (by omega)
  rw [ek, Option.bind_some, if_pos (by simp only [decide_eq_false_iff_not]; omega), if_pos (by simp only [decide_eq_false_iff_not]; omega), if_pos (by simp), if_neg (by simp only [decide_eq_true_eq]; show ¬ (n : Int) > 52; omega)]
  have b0 : (0 : Int) ≤ (l.length : Int) := by omega
  have b1 : (l.length : Int) ≤ (l.length : Int) := by omega
  have b2 : (l.length : Int) * 1 ≤ 281474976710656 := by omega
  have b3 : (l.length : Int) * 8 ≤ 281474976710656 := by omega
  have b4 : (l.length : Int) * 24 ≤ 281474976710656 := by omega
  have b5 : (0 : Int) ≤ (k : Int) := by omega
  have b6 : (k : Int) < (l.length : Int) := by omega
  simp only [b0, b1, b2, b3, b4, b5, b6, if_true, Int.toNat_natCast]
  have hlk : (l.getD k []).length ≤ 4611686018427387904 := hmem _ (by rw [getD_eq l k [] hk]; exact List.getElem_mem hk)
  obtain ⟨v, hv⟩ := seal_ok (l.getD k []) sec hlk
  obtain ⟨u, hu⟩ := seal_ok (l.getD k []) (k : Int) hlk
  rw [hv, Option.bind_some, hu, Option.bind_some]
  by_cases huv : v = u
  · rw [if_pos (by simpa using huv)]
  rw [if_neg (by simpa using huv)]
  obtain ⟨se, hc, hse, hsv⟩ := commit_loop l hmem hlen (n : Int) (-1) (List.replicate l.length false) (List.replicate l.length []) fuel 0 (List.replicate l.length 0) (by omega) (by omega) (by omega) (by simp) (fun j hj => by omega)
  have hc : l_gamehallkeep2_DealFalse_12 fuel l (l.length : Int) 0 (n : Int) (if 0 = l.length then 1 else 0) (-1) (sd l.length 0) (List.replicate l.length false) (List.replicate l.length 0) (List.replicate l.length []) = _ := hc
  rw [if_neg (fun e => h0 e.symm)] at hc
  have hsd : sd l.length 0 = List.replicate l.length false := rfl
  rw [hsd] at hc
  rw [hc]
  have d1 : ¬ (k : Int) < 0 := by omega
  have d2 : ¬ (k : Int) ≥ (se.length : Int) := by omega
  have d3 : (k : Int) < ((List.replicate l.length false).length : Int) := by rw [List.length_replicate]; omega
  have d4 : (List.replicate l.length false).getD k false = false := by
    rw [getD_eq _ k false (by rw [List.length_replicate]; exact hk), List.getElem_replicate]
  have d5 : f_cards_Fits fuel (n : Int) (l.getD k []) = some 0 := hfit _ (by rw [getD_eq l k [] hk]; exact List.getElem_mem hk)
  have d6 : (k : Int) < (se.length : Int) := by omega
  have d7 : se.getD k 0 = u := by
    have := hsv k hk
    rw [hu] at this
    exact (Option.some.inj this).symm
  simp only [d1, d2, d3, d4, d5, d6, d7, Option.bind_some, decide_false, Bool.false_eq_true, if_false, if_true]
  rw [if_neg (by decide), if_pos (by decide), if_pos (by simpa using huv), if_pos (by simp)]
  have hm := missing_loop (sd l.length l.length) (fun x hx => by
    cases x with
    | true => rfl
    | false => have := sd_mem.1 hx; omega) (by rw [sd_length (Nat.le_refl _)]; omega) (n : Int) 3 (k : Int) (List.replicate l.length false) se (List.replicate l.length []) fuel 0 (by omega) (by rw [sd_length (Nat.le_refl _)]; omega)
  have hm : l_deal_Table_Missing__gamehallkeep2_DealFalse_6 fuel ((sd l.length l.length).length : Int) 0 (n : Int) 3 (k : Int) [] (sd l.length l.length) (List.replicate l.length false) se (List.replicate l.length []) = _ := hm
  rw [hm]
  rfl

theorem dealFalse_plain : ∀ x : Int × List (List Int) × Int × Int, WfL [.int .i64, .slice (.slice (.int .i64)), .int .i64, .int .i64] x → f_gamehallkeep2_DealFalse fuel x.1 x.2.1 x.2.2.1 x.2.2.2 = some true := fun x h =>
  dealFalse_true x.1 x.2.1 x.2.2.1 x.2.2.2 fun d hd => by
    have h1 : d.length * 8 ≤ 140737488351232 := (h.2.1.2 d hd).1
    omega
end Go.Proofs.YtnlclnheakhncaaDoor
