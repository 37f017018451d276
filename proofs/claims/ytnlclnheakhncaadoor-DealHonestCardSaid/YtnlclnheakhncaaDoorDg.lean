/- The plain law of DealHonest. -/
import Derived.Test.YtnlclnheakhncaaDoorDc
namespace Go.Proofs.YtnlclnheakhncaaDoor
open Go Vm

theorem f6_true' : f_gamehallkeep2_cardsFact fuel = some true := by kernel_rfl

/-- Draws that fit. -/
def Dw (n : Nat) (d : List Int) : Prop := ∃ ds : List Nat, d = zs ds ∧ ds.length = n - 1 ∧ Fit (n - 1) ds
theorem dw_of {n : Nat} (hn : n ≤ 52) {d : List Int} (h : f_cards_Fits fuel (n : Int) d = some 0) : Dw n d := by
  rcases fits_ok hn d with ⟨⟨e, e0, h'⟩, _⟩ | ⟨_, ds, h1, h2, h3⟩
  · rw [h] at h'; exact absurd (Option.some.inj h').symm e0
  · exact ⟨ds, h1, h2, h3⟩

theorem combine6 (l : List (List Int)) (hs : l.length ≤ 6) (n : Nat) (hf : ∀ d, d ∈ l → f_cards_Fits fuel (n : Int) d = some 0) : ∀ (m i : Nat), i ≤ l.length → l.length < m + i → l_deal_Combine_6 m (n : Int) l (l.length : Int) (i : Int) = some (.exit ())
  | 0, i, h1, h2 => by omega
  | m + 1, i, h1, h2 => by
    simp only [l_deal_Combine_6]
    by_cases hi : i < l.length
    · rw [if_pos (by simpa using hi), if_pos (by omega), if_pos (by omega), Int.toNat_natCast, getD_eq l i [] hi, hf _ (List.getElem_mem hi), Option.bind_some, if_neg (by decide), w64 _ (by omega) (by omega), show ((i : Int) + 1) = ((i + 1 : Nat) : Int) by omega]
      exact combine6 l hs n hf m (i + 1) (by omega) (by omega)
    · rw [if_neg (by simpa using hi)]
theorem combine18 (l : List (List Int)) (hs : l.length ≤ 6) (n : Nat) (hn : n ≤ 52) (hd : ∀ d, d ∈ l → Dw n d) (j : Nat) (hj : j < n - 1) : ∀ (m i acc : Nat), i ≤ l.length → l.length < m + i → acc + 52 * (l.length - i) ≤ 1000 →
    ∃ S : Nat, S ≤ 1000 ∧ l_deal_Combine_18 m (j : Int) (acc : Int) l (l.length : Int) (i : Int) = some (.exit ((S : Int), ()))
  | 0, i, acc, h1, h2, h3 => by omega
  | m + 1, i, acc, h1, h2, h3 => by
    simp only [l_deal_Combine_18]
    by_cases hi : i < l.length
    · have hmem : l.getD i [] ∈ l := by rw [getD_eq l i [] hi]; exact List.getElem_mem hi
      obtain ⟨ds, e, hl, hf⟩ := hd _ hmem
      have hx : ds.getD j 0 + j ≤ n - 1 := of_fit ds (n - 1) (by omega) hf j _ (by rw [List.getElem?_eq_getElem (by omega), getD_eq ds j 0 (by omega)])
      rw [if_pos (by simpa using hi), if_pos (by omega), if_pos (by omega), if_pos (by omega), Int.toNat_natCast, e, if_pos (by rw [length_zs, hl]; omega), Int.toNat_natCast, getD_zs, w64 (((acc : Nat) : Int) + ((ds.getD j 0 : Nat) : Int)) (by omega) (by omega), w64 _ (by omega) (by omega), show ((i : Int) + 1) = ((i + 1 : Nat) : Int) by omega, ← Int.natCast_add]
      exact combine18 l hs n hn hd j hj m (i + 1) (acc + ds.getD j 0) (by omega) (by omega) (by omega)
    · rw [if_neg (by simpa using hi)]
      exact ⟨acc, by omega, rfl⟩
theorem combine14 (l : List (List Int)) (hs : l.length ≤ 6) (n : Nat) (hn : n ≤ 52) (hd : ∀ d, d ∈ l → Dw n d) : ∀ (m j : Nat) (out : List Nat), j ≤ n - 1 → n + 100 < m + j → out.length = j → (∀ (k x : Nat), out[k]? = some x → x + k ≤ n - 1) →
    ∃ ds : List Nat, l_deal_Combine_14 m (n : Int) l ((n - 1 : Nat) : Int) (j : Int) (zs out) = some (.exit (zs ds, ())) ∧ ds.length = n - 1 ∧ ∀ (k x : Nat), ds[k]? = some x → x + k ≤ n - 1
  | 0, j, out, h1, h2, h3, h4 => by omega
  | m + 1, j, out, h1, h2, h3, h4 => by
    simp only [l_deal_Combine_14]
    by_cases hj : j < n - 1
    · obtain ⟨S, hS, e⟩ := combine18 l hs n hn hd j hj m 0 0 (by omega) (by omega) (by omega)
      have e : l_deal_Combine_18 m (j : Int) 0 l (l.length : Int) 0 = _ := e
      rw [if_pos (by simpa using hj), e]
      simp only
      have hw : IntKind.i64.wrap ((n : Int) - (j : Int)) = ((n - j : Nat) : Int) := by rw [w64 _ (by omega) (by omega)]; omega
      have hmod := Nat.mod_lt S (show n - j > 0 by omega)
      rw [hw, if_neg (by omega), length_zs, if_pos (by omega), w64 _ (by omega) (by omega), show ((j : Int) + 1) = ((j + 1 : Nat) : Int) by omega, show ((S : Int).tmod ((n - j : Nat) : Int)) = ((S % (n - j) : Nat) : Int) from (Int.ofNat_tmod S (n - j)).symm]
      have hz : zs out ++ [((S % (n - j) : Nat) : Int)] = zs (out ++ [S % (n - j)]) := by rw [zs, zs, List.map_append]; rfl
      rw [hz]
      refine combine14 l hs n hn hd m (j + 1) (out ++ [S % (n - j)]) (by omega) (by omega) (by simp [h3]) fun k x hk => ?_
      by_cases hkj : k < out.length
      · rw [List.getElem?_append_left hkj] at hk
        exact h4 k x hk
      · rw [List.getElem?_append_right (by omega)] at hk
        have : k - out.length = 0 := by
          have := (List.getElem?_eq_some_iff.1 hk).1
          simp at this; omega
        rw [this] at hk
        simp only [List.getElem?_cons_zero, Option.some.injEq] at hk
        omega
    · rw [if_neg (by simpa using hj)]
      exact ⟨out, rfl, by omega, h4⟩
theorem combine_ok (l : List (List Int)) (hs : l.length ≤ 6) (n : Nat) (hn : n ≤ 52) (hf : ∀ d, d ∈ l → f_cards_Fits fuel (n : Int) d = some 0) :
    ∃ ds : List Nat, f_deal_Combine fuel (n : Int) l = some (zs ds, 0) ∧ ds.length = n - 1 ∧ Fit (n - 1) ds := by
  unfold f_deal_Combine
  have hfu := fuel90
  have h6 := combine6 l hs n hf fuel 0 (by omega) (by omega)
  have h6 : l_deal_Combine_6 fuel (n : Int) l (l.length : Int) 0 = _ := h6
  obtain ⟨ds, h14, hl, hx⟩ := combine14 l hs n hn (fun d hd => dw_of hn (hf d hd)) fuel 0 [] (by omega) (by omega) rfl (by simp)
  have h14 : l_deal_Combine_14 fuel (n : Int) l ((n - 1 : Nat) : Int) 0 [] = _ := h14
  have hmax : (if IntKind.i64.wrap ((n : Int) - 1) > 0 then IntKind.i64.wrap ((n : Int) - 1) else 0) = ((n - 1 : Nat) : Int) := by
    rw [w64 _ (by omega) (by omega)]
    split <;> omega
  rw [if_pos (by simp), if_neg (by simp only [decide_eq_true_eq]; omega), if_neg (by simp only [decide_eq_true_eq]; omega), h6]
  simp only
  rw [hmax, h14]
  exact ⟨ds, rfl, hl, fit_of ds (n - 1) hx⟩

theorem fresh_loop (n : Nat) (hn : n ≤ 52) : ∀ (m i : Nat), i ≤ n → n < m + i → l_cards_Fresh_5 m (n : Int) (i : Int) (zs (List.range i)) = some (.exit (zs (List.range n), ()))
  | 0, i, h1, h2 => by omega
  | m + 1, i, h1, h2 => by
    simp only [l_cards_Fresh_5]
    by_cases hi : i < n
    · have hz : zs (List.range i) ++ [(i : Int)] = zs (List.range (i + 1)) := by rw [List.range_succ, zs, zs, List.map_append]; rfl
      rw [if_pos (by simpa using hi), if_pos (by rw [length_zs, List.length_range]; omega), hz, w64 _ (by omega) (by omega), show ((i : Int) + 1) = ((i + 1 : Nat) : Int) by omega]
      exact fresh_loop n hn m (i + 1) (by omega) (by omega)
    · obtain rfl : i = n := by omega
      rw [if_neg (by simp)]
theorem fresh_ok (n : Nat) (hn : n ≤ 52) : f_cards_Fresh fuel (n : Int) = some (zs (List.range n), 0) := by
  unfold f_cards_Fresh
  have hfu := fuel90
  have h := fresh_loop n hn fuel 0 (by omega) (by omega)
  have h : l_cards_Fresh_5 fuel (n : Int) 0 [] = _ := h
  rw [if_pos (by simp), if_neg (by simp only [decide_eq_true_eq]; omega), h]
theorem deck_range {n : Nat} (hn : n ≤ 52) : Deck (List.range n) := ⟨by rw [List.length_range]; exact hn, fun c hc => by have := List.mem_range.1 hc; omega, List.nodup_range⟩

theorem shuf_len : ∀ (ds : List Nat) (i : Nat) (l : List Nat), (shuf i l ds).length = l.length
  | [], _, _ => rfl
  | d :: ds, i, l => by rw [shuf, shuf_len ds, sw_length]

theorem commitH (l : List (List Int)) (hl : ∀ d, d ∈ l → d.length ≤ 4611686018427387904) (hs : l.length ≤ 6) (n c : Int) (op : List Bool) (dr : List (List Int)) :
    ∀ (m i : Nat) (se : List Int), i ≤ l.length → 0 < l.length → l.length + 100 < m + i → se.length = l.length → (∀ j, j < i → f_deal_Seal fuel (l.getD j []) (j : Int) = some (se.getD j 0)) →
    ∃ se' : List Int, l_gamehallkeep2_played__gamehallkeep2_DealHonest_5 m l (l.length : Int) (i : Int) n (if i = l.length then 1 else 0) c (sd l.length i) op se dr = some (.exit (n, 1, c, sd l.length l.length, op, se', dr, ())) ∧ se'.length = l.length ∧
      ∀ j, j < l.length → f_deal_Seal fuel (l.getD j []) (j : Int) = some (se'.getD j 0)
  | 0, i, se, h1, h2, h3, h4, h5 => by omega
  | m + 1, i, se, h1, h2, h3, h4, h5 => by
    simp only [l_gamehallkeep2_played__gamehallkeep2_DealHonest_5]
    by_cases hi : i < l.length
    · have hne : ¬ i = l.length := by omega
      obtain ⟨v, hv⟩ := seal_ok (l.getD i []) (i : Int) (hl _ (by rw [getD_eq l i [] hi]; exact List.getElem_mem hi))
      have c0 : (0 : Int) ≤ (i : Int) := by omega
      have c1 : (i : Int) < (l.length : Int) := by omega
      have c2 : (i : Int) < (se.length : Int) := by omega
      have c3 : ¬ (i : Int) < 0 := by omega
      have c4 : ¬ (i : Int) ≥ (se.length : Int) := by omega
      have c5 : (i : Int) < ((sd l.length i).length : Int) := by rw [sd_length (by omega)]; omega
      have c6 : IntKind.i64.wrap ((i : Int) + 1) = ((i + 1 : Nat) : Int) := by rw [w64 _ (by omega) (by omega)]; omega
      simp only [if_neg hne, c0, c1, c2, c3, c4, c5, c6, decide_true, decide_false, Bool.false_eq_true, if_true, if_false, Int.toNat_natCast, hv, Option.bind_some, sd_at hi, sd_set hi]
      rw [if_neg (by decide), containsB _ (by rw [sd_length (by omega)]; omega), Option.bind_some]
      have hse : (se.set i v).length = l.length := by rw [List.length_set, h4]
      have hsv : ∀ j, j < i + 1 → f_deal_Seal fuel (l.getD j []) (j : Int) = some ((se.set i v).getD j 0) := by
        intro j hj
        by_cases hji : j = i
        · subst hji; rw [hv, getD_set_eq' _ _ _ _ (by omega)]
        · rw [getD_set_ne' _ _ _ _ _ (by omega)]; exact h5 j (by omega)
      have ih := commitH l hl hs n c op dr m (i + 1) (se.set i v) (by omega) h2 (by omega) hse hsv
      by_cases hlast : i + 1 = l.length
      · rw [if_pos (by rw [decide_eq_false (fun h => by have := sd_mem.1 h; omega)]; rfl)]
        rw [if_pos hlast] at ih
        exact ih
      · rw [if_neg (by rw [decide_eq_true (sd_mem.2 (by omega))]; decide)]
        rw [if_neg hlast] at ih
        exact ih
    · obtain rfl : i = l.length := by omega
      have c1 : ¬ (l.length : Int) < (l.length : Int) := by omega
      simp only [c1, decide_false, Bool.false_eq_true, if_false]
      exact ⟨se, by simp, h4, fun j hj => h5 j hj⟩

theorem openH (l : List (List Int)) (hs : l.length ≤ 6) (n : Nat) (c : Int) (hf : ∀ d, d ∈ l → f_cards_Fits fuel (n : Int) d = some 0) (hl : ∀ d, d ∈ l → d.length ≤ 1000) (se : List Int) (hse : se.length = l.length)
    (hsv : ∀ j, j < l.length → f_deal_Seal fuel (l.getD j []) (j : Int) = some (se.getD j 0)) (sl : List Bool) :
    ∀ (m i : Nat) (dr : List (List Int)), i ≤ l.length → 0 < l.length → l.length + 100 < m + i → dr.length = l.length → (∀ j, j < i → dr.getD j [] = l.getD j []) →
    l_gamehallkeep2_played__gamehallkeep2_DealHonest_11 m l (l.length : Int) (i : Int) (n : Int) (if i = l.length then 2 else 1) c sl (sd l.length i) se dr = some (.exit ((n : Int), 2, c, sl, sd l.length l.length, se, l, ()))
  | 0, i, dr, h1, h2, h3, h4, h5 => by omega
  | m + 1, i, dr, h1, h2, h3, h4, h5 => by
    simp only [l_gamehallkeep2_played__gamehallkeep2_DealHonest_11]
    by_cases hi : i < l.length
    · have hne : ¬ i = l.length := by omega
      have hmem : l.getD i [] ∈ l := by rw [getD_eq l i [] hi]; exact List.getElem_mem hi
      have c0 : (0 : Int) ≤ (i : Int) := by omega
      have c1 : (i : Int) < (l.length : Int) := by omega
      have c2 : (i : Int) < (se.length : Int) := by omega
      have c3 : ¬ (i : Int) < 0 := by omega
      have c4 : ¬ (i : Int) ≥ (se.length : Int) := by omega
      have c5 : (i : Int) < ((sd l.length i).length : Int) := by rw [sd_length (by omega)]; omega
      have c6 : IntKind.i64.wrap ((i : Int) + 1) = ((i + 1 : Nat) : Int) := by rw [w64 _ (by omega) (by omega)]; omega
      have c7 : (i : Int) < (dr.length : Int) := by omega
      simp only [if_neg hne, c0, c1, c2, c3, c4, c5, c6, c7, decide_true, decide_false, Bool.false_eq_true, if_true, if_false, Int.toNat_natCast, hf _ hmem, hsv i hi, f21s_ok _ (hl _ hmem), Option.bind_some, sd_at hi, sd_set hi]
      rw [if_neg (by decide), if_pos (by decide), if_neg (by simp), containsB _ (by rw [sd_length (by omega)]; omega), Option.bind_some]
      have hdr : (dr.set i (l.getD i [])).length = l.length := by rw [List.length_set, h4]
      have hdv : ∀ j, j < i + 1 → (dr.set i (l.getD i [])).getD j [] = l.getD j [] := by
        intro j hj
        by_cases hji : j = i
        · subst hji; rw [getD_set_eq' _ _ _ _ (by omega)]
        · rw [getD_set_ne' _ _ _ _ _ (by omega)]; exact h5 j (by omega)
      have ih := openH l hs n c hf hl se hse hsv sl m (i + 1) (dr.set i (l.getD i [])) (by omega) h2 (by omega) hdr hdv
      by_cases hlast : i + 1 = l.length
      · rw [if_pos (by rw [decide_eq_false (fun h => by have := sd_mem.1 h; omega)]; rfl)]
        rw [if_pos hlast] at ih
        exact ih
      · rw [if_neg (by rw [decide_eq_true (sd_mem.2 (by omega))]; decide)]
        rw [if_neg hlast] at ih
        exact ih
    · obtain rfl : i = l.length := by omega
      have c1 : ¬ (l.length : Int) < (l.length : Int) := by omega
      simp only [c1, decide_false, Bool.false_eq_true, if_false]
      have : dr = l := by
        apply List.ext_getElem h4
        intro j h6 h7
        have := h5 j h7
        rwa [getD_eq dr j [] h6, getD_eq l j [] h7] at this
      rw [this]
      simp

theorem missingH (b : List Bool) (hb : ∀ x, x ∈ b → x = true) (hs : b.length ≤ 1000) (n st c : Int) (sl op : List Bool) (se : List Int) (dr : List (List Int)) : ∀ (m i : Nat), i ≤ b.length → b.length < m + i →
    l_deal_Table_Missing__gamehallkeep2_DealHonest_6 m b (b.length : Int) (i : Int) n st sl op c [] se dr = some (.exit ([], n, st, sl, op, c, se, dr, ()))
  | 0, i, h1, h2 => by omega
  | m + 1, i, h1, h2 => by
    simp only [l_deal_Table_Missing__gamehallkeep2_DealHonest_6]
    by_cases hi : i < b.length
    · have : b.getD i false = true := by rw [getD_eq b i false hi]; exact hb _ (List.getElem_mem hi)
      rw [if_pos (by simpa using hi), if_pos (by omega), if_pos (by omega), Int.toNat_natCast, this, if_neg (by decide), w64 _ (by omega) (by omega), show ((i : Int) + 1) = ((i + 1 : Nat) : Int) by omega]
      exact missingH b hb hs n st c sl op se dr m (i + 1) (by omega) (by omega)
    · rw [if_neg (by simpa using hi)]

theorem fitsH (l : List (List Int)) (hs : l.length ≤ 6) (n : Nat) (hn : n ≤ 52) : ∀ (m i : Nat), i ≤ l.length → l.length < m + i → (∀ d, d ∈ l.take i → f_cards_Fits fuel (n : Int) d = some 0) →
    (∃ j : Nat, l_slices_IndexFunc_int__slices_ContainsFunc_int__gamehallkeep2_DealHonest_2 m l (l.length : Int) (i : Int) (n : Int) = some (.ret ((j : Int), (n : Int), ()))) ∨
    ((∀ d, d ∈ l → f_cards_Fits fuel (n : Int) d = some 0) ∧ l_slices_IndexFunc_int__slices_ContainsFunc_int__gamehallkeep2_DealHonest_2 m l (l.length : Int) (i : Int) (n : Int) = some (.exit ((n : Int), ())))
  | 0, i, h1, h2, h3 => by omega
  | m + 1, i, h1, h2, h3 => by
    simp only [l_slices_IndexFunc_int__slices_ContainsFunc_int__gamehallkeep2_DealHonest_2]
    by_cases hi : i < l.length
    · rw [if_pos (by simpa using hi), if_pos (by omega), if_pos (by omega), Int.toNat_natCast, getD_eq l i [] hi, w64 _ (by omega) (by omega), show ((i : Int) + 1) = ((i + 1 : Nat) : Int) by omega]
      rcases fits_ok hn l[i] with ⟨⟨e, e0, h⟩, _⟩ | ⟨h, _⟩
      · rw [h, Option.bind_some, if_pos (by simpa using e0)]
        exact .inl ⟨i, rfl⟩
      · rw [h, Option.bind_some, if_neg (by decide)]
        refine fitsH l hs n hn m (i + 1) (by omega) (by omega) fun d hd => ?_
        rw [List.take_succ_eq_append_getElem hi] at hd
        rcases List.mem_append.1 hd with hd | hd
        · exact h3 d hd
        · rw [List.mem_singleton] at hd; rw [hd]; exact h
    · rw [if_neg (by simpa using hi)]
      rw [List.take_of_length_le (by omega)] at h3
      exact .inr ⟨h3, rfl⟩

theorem dealHonest_true (a : Int) (ls : List (List Int)) : f_gamehallkeep2_DealHonest fuel a ls = some true := by
  unfold f_gamehallkeep2_DealHonest
  have hf := fuel90
  obtain ⟨n, hn, e⟩ := pick_ok a (n := 9) (by decide) (by decide)
  have e : f_gamehallkeep2_pick fuel a 9 = some (n : Int) := e
  rw [dealFact_true', Option.bind_some, if_pos (by decide), f6_true, Option.bind_some, if_neg (by decide), e, Option.bind_some]
  have hmin : (if 6 < (ls.length : Int) then (6 : Int) else (ls.length : Int)) = ((min 6 ls.length : Nat) : Int) := by split <;> omega
  rw [hmin, Int.toNat_natCast, if_pos (by omega), if_pos (by omega)]
  generalize hl : (ls.take (min 6 ls.length)).drop 0 = l
  have hlen : l.length ≤ 6 := by rw [← hl, List.drop_zero, List.length_take]; omega
  clear hl hmin
  by_cases h0 : l.length = 0
  · rw [if_neg (by simp [h0])]
  rw [if_pos (by simpa using h0)]
  rcases fitsH l hlen n (by omega) fuel 0 (by omega) (by omega) (by simp) with ⟨j, g⟩ | ⟨hfit, g⟩
  · have g : l_slices_IndexFunc_int__slices_ContainsFunc_int__gamehallkeep2_DealHonest_2 fuel l (l.length : Int) 0 (n : Int) = _ := g
    rw [g]
    simp only
    rw [if_pos (by simp)]
  have g : l_slices_IndexFunc_int__slices_ContainsFunc_int__gamehallkeep2_DealHonest_2 fuel l (l.length : Int) 0 (n : Int) = _ := g
  have hlen2 : ∀ d, d ∈ l → d.length ≤ 1000 := fun d hd => by
    obtain ⟨ds, e, h1, _⟩ := dw_of (n := n) (by omega) (hfit d hd)
    rw [e, length_zs]; omega
  rw [g]
  simp only
  rw [if_pos (by simp only [decide_eq_false_iff_not]; omega), if_pos (by simp only [decide_eq_false_iff_not]; omega), if_pos (by simp), if_neg (by simp only [decide_eq_true_eq]; show ¬ (n : Int) > 52; omega)]
  have b0 : (0 : Int) ≤ (l.length : Int) := by omega
  have b1 : (l.length : Int) ≤ (l.length : Int) := by omega
  have b2 : (l.length : Int) * 1 ≤ 281474976710656 := by omega
  have b3 : (l.length : Int) * 8 ≤ 281474976710656 := by omega
  have b4 : (l.length : Int) * 24 ≤ 281474976710656 := by omega
  simp only [b0, b1, b2, b3, b4, if_true, Int.toNat_natCast]
  obtain ⟨se, hc, hse, hsv⟩ := commitH l (fun d hd => Nat.le_trans (hlen2 d hd) (by decide)) hlen (n : Int) (-1) (List.replicate l.length false) (List.replicate l.length []) fuel 0 (List.replicate l.length 0) (by omega) (by omega) (by omega) (by simp) (fun j hj => by omega)
  have hc : l_gamehallkeep2_played__gamehallkeep2_DealHonest_5 fuel l (l.length : Int) 0 (n : Int) (if 0 = l.length then 1 else 0) (-1) (sd l.length 0) (List.replicate l.length false) (List.replicate l.length 0) (List.replicate l.length []) = _ := hc
  have hsd : sd l.length 0 = List.replicate l.length false := rfl
  rw [if_neg (fun e => h0 e.symm), hsd] at hc
  have ho := openH l hlen n (-1) hfit hlen2 se hse hsv (sd l.length l.length) fuel 0 (List.replicate l.length []) (by omega) (by omega) (by omega) (by simp) (fun j hj => by omega)
  have ho : l_gamehallkeep2_played__gamehallkeep2_DealHonest_11 fuel l (l.length : Int) 0 (n : Int) (if 0 = l.length then 2 else 1) (-1) (sd l.length l.length) (sd l.length 0) se (List.replicate l.length []) = _ := ho
  rw [if_neg (fun e => h0 e.symm), hsd] at ho
  obtain ⟨ds, hco, hdl, hdf⟩ := combine_ok l hlen n (by omega) hfit
  have hsh := shuffle_ok (deck_range (n := n) (by omega)) (ds := ds) (by rw [List.length_range]; exact hdl) (by rw [List.length_range]; exact hdf)
  have hfr := fresh_ok n (by omega)
  have hfine : f_gamehallkeep2_fine fuel [0, 0, 0] = some true := by kernel_rfl
  rw [hc]
  simp only
  rw [ho]
  simp only [hco, hfr, hsh, hfine, Option.bind_some]
  have heq := f10_ok (zs (shuf ((List.range n).length - 1) (List.range n) ds)) (zs (shuf ((List.range n).length - 1) (List.range n) ds)) (by
    rw [length_zs, shuf_len, List.length_range]; omega)
  have hm := missingH (sd l.length l.length) (fun x hx => by
    cases x with
    | true => rfl
    | false => have := sd_mem.1 hx; omega) (by rw [sd_length (Nat.le_refl _)]; omega) (n : Int) 2 (-1) (sd l.length l.length) (sd l.length l.length) se l fuel 0 (by omega) (by rw [sd_length (Nat.le_refl _)]; omega)
  have hm : l_deal_Table_Missing__gamehallkeep2_DealHonest_6 fuel (sd l.length l.length) ((sd l.length l.length).length : Int) 0 (n : Int) 2 (sd l.length l.length) (sd l.length l.length) (-1) [] se l = _ := hm
  rw [heq, hm]
  simp

theorem dealHonest_plain : ∀ x : Int × List (List Int), WfL [.int .i64, .slice (.slice (.int .i64))] x → f_gamehallkeep2_DealHonest fuel x.1 x.2 = some true := fun x _ => dealHonest_true x.1 x.2
end Go.Proofs.YtnlclnheakhncaaDoor
