/- The plain law of RegretMatched, joined. -/
import Derived.Test.YtkgjejengkmacaaDoorMt
namespace Go.Proofs.YtkgjejengkmacaaDoor
open Go Vm

theorem bytes_beq (a b : ByteArray) : (a.toList == b.toList) = decide (a = b) := by
  by_cases h : a = b
  · rw [decide_eq_true h, h]; exact beq_self_eq_true _
  · rw [decide_eq_false h, beq_eq_false_iff_ne]
    intro e
    rw [ByteArray.toList_eq, ByteArray.toList_eq] at e
    apply h
    cases a; cases b; simp at e; rw [e]

theorem long_loop (l : List ByteArray) (hl : l.length ≤ 140737488351232) : ∀ (m i : Nat), i ≤ l.length → l.length < m + i → (∀ x, x ∈ l.take i → x.size ≤ 40) →
    (∃ k : Nat, l_slices_IndexFunc_Rat__slices_ContainsFunc_Rat__gamehallkeep2_RegretMatched_2 m l (l.length : Int) (i : Int) = some (.ret ((k : Int), ()))) ∨
    ((∀ x, x ∈ l → x.size ≤ 40) ∧ l_slices_IndexFunc_Rat__slices_ContainsFunc_Rat__gamehallkeep2_RegretMatched_2 m l (l.length : Int) (i : Int) = some (.exit ()))
  | 0, i, h1, h2, _ => by omega
  | m + 1, i, h1, h2, h3 => by
    simp only [l_slices_IndexFunc_Rat__slices_ContainsFunc_Rat__gamehallkeep2_RegretMatched_2]
    by_cases hi : i < l.length
    · have e4 : IntKind.i64.wrap ((i : Int) + 1) = ((i + 1 : Nat) : Int) := by rw [w64 _ (by omega) (by omega)]; omega
      rw [if_pos (by simpa using hi), if_pos (by omega), if_pos (by omega), Int.toNat_natCast, e4]
      by_cases c : (l.getD i ByteArray.empty).size ≤ 40
      · rw [if_neg (by rw [decide_eq_true_eq]; omega)]
        refine long_loop l hl m (i + 1) (by omega) (by omega) fun x hx => ?_
        rw [List.take_succ_eq_append_getElem hi, List.mem_append, List.mem_singleton] at hx
        rcases hx with hx | rfl
        · exact h3 x hx
        · rw [← getD_eq l i ByteArray.empty hi]; exact c
      · rw [if_pos (by rw [decide_eq_true_eq]; omega)]
        exact .inl ⟨i, rfl⟩
    · rw [if_neg (by simpa using hi)]
      rw [List.take_of_length_le (by omega)] at h3
      exact .inr ⟨h3, rfl⟩

theorem some_loop (rs : List Rat) (hl : rs.length ≤ 100) (h : ∀ r, r ∈ rs → OkR r) : ∀ (m i : Nat), i ≤ rs.length → rs.length < m + i →
    l_gamehallkeep2_RegretMatched_10 m (!allNeg (fun j => rs.getD j 0) i) (rs.map rt) (rs.length : Int) (i : Int) = some (.exit (!allNeg (fun j => rs.getD j 0) rs.length, ()))
  | 0, i, h1, h2 => by omega
  | m + 1, i, h1, h2 => by
    simp only [l_gamehallkeep2_RegretMatched_10, List.length_map]
    by_cases hi : i < rs.length
    · have e4 : IntKind.i64.wrap ((i : Int) + 1) = ((i + 1 : Nat) : Int) := by rw [w64 _ (by omega) (by omega)]; omega
      have ho : OkR (rs.getD i 0) := h _ (by rw [getD_eq rs i 0 hi]; exact List.getElem_mem hi)
      have ih := some_loop rs hl h m (i + 1) (by omega) (by omega)
      rw [allNeg_succ] at ih
      rw [if_pos (by simpa using hi), if_pos (by omega), if_pos (by omega), Int.toNat_natCast, getD_mapR rs i hi, rat_sign ho, Option.bind_some, if_neg (by simp), e4]
      cases hb : allNeg (fun j => rs.getD j 0) i with
      | true =>
        rw [hb, Bool.true_and] at ih
        have e : decide ((rs.getD i 0).num.sign > 0) = !decide (rs.getD i 0 ≤ 0) := by
          rw [← decide_not]
          exact decide_eq_decide.2 ⟨fun h1 h2 => by have := npos_num.2 h2; omega, fun h1 => by
            have : ¬ (rs.getD i 0).num.sign ≤ 0 := fun h2 => h1 (npos_num.1 h2)
            omega⟩
        rw [if_pos (by rfl)]
        simp only
        rw [e]
        exact ih
      | false =>
        rw [hb, Bool.false_and] at ih
        rw [if_neg (by decide)]
        exact ih
    · rw [if_neg (by simpa using hi)]
      have : i = rs.length := by omega
      subst this
      rfl

theorem zero_loop (rs ps : List Rat) (hl : rs.length ≤ 100) (hp : ps.length = rs.length) (h : ∀ r, r ∈ rs → OkR r) (b : Bool) (hb : b = true → ∀ i, i < rs.length → (ps.getD i 0 = 0 ↔ rs.getD i 0 ≤ 0)) : ∀ (m i : Nat), i ≤ rs.length → rs.length < m + i →
    l_gamehallkeep2_RegretMatched_18 m b (rs.map rt) (rs.length : Int) (i : Int) (ps.map rt) = some (.exit (ps.map rt, ()))
  | 0, i, h1, h2 => by omega
  | m + 1, i, h1, h2 => by
    simp only [l_gamehallkeep2_RegretMatched_18, List.length_map]
    by_cases hi : i < rs.length
    · have e4 : IntKind.i64.wrap ((i : Int) + 1) = ((i + 1 : Nat) : Int) := by rw [w64 _ (by omega) (by omega)]; omega
      have ho : OkR (rs.getD i 0) := h _ (by rw [getD_eq rs i 0 hi]; exact List.getElem_mem hi)
      have ih := zero_loop rs ps hl hp h b hb m (i + 1) (by omega) (by omega)
      rw [if_pos (by simpa using hi), if_pos (by omega), if_pos (by omega), Int.toNat_natCast, getD_mapR rs i hi, rat_sign ho, Option.bind_some, e4]
      cases b with
      | true =>
        have hz := hb rfl i hi
        rw [if_pos rfl, if_pos (by omega), if_pos (by omega), getD_mapR ps i (by omega), rt_zero, bytes_beq]
        have e : (!decide (rt (ps.getD i 0) = rt 0)) = decide ((rs.getD i 0).num.sign > 0) := by
          rw [← decide_not]
          refine decide_eq_decide.2 ⟨fun h1 => ?_, fun h1 h2 => ?_⟩
          · have : ¬ (rs.getD i 0).num.sign ≤ 0 := fun h2 => h1 (by rw [hz.2 (npos_num.1 h2)])
            omega
          · have := npos_num.2 (hz.1 (rt_inj h2))
            omega
        simp only
        rw [e, beq_self_eq_true, if_neg (by decide)]
        exact ih
      | false =>
        rw [if_neg (by decide)]
        exact ih
    · rw [if_neg (by simpa using hi)]

theorem matched_true (l : List ByteArray) (hl : l.length ≤ 140737488351232) (hb : ∀ s, s ∈ l → s.size ≤ 900000000000000) : f_gamehallkeep2_RegretMatched fuel l = some true := by
  have hf := fuel_ge (n := 2 ^ 100) (by decide)
  unfold f_gamehallkeep2_RegretMatched
  rw [regretFact_true, Option.bind_some, if_neg (by decide)]
  rcases match_spec (l := l) (by omega) hb with ⟨e, e0, g⟩ | ⟨rs, rfl, h0, h12, hok, hpo, g⟩
  · rw [g, Option.bind_some, if_neg (by simpa using e0)]
    by_cases c : (e == 0) = false
    · rw [if_pos c]; rfl
    · exact absurd (by simpa using c) e0
  · generalize hps : (List.range rs.length).map (fun j => gm (fun i => rs.getD i 0) rs.length j / fs (gm (fun i => rs.getD i 0) rs.length) rs.length) = ps at g
    have hpl : ps.length = rs.length := by rw [← hps, List.length_map, List.length_range]
    have hS := gm_pos (r := fun i => rs.getD i 0) (n := rs.length) h0
    have hp : ∀ i, i < rs.length → ps.getD i 0 = gm (fun i => rs.getD i 0) rs.length i / fs (gm (fun i => rs.getD i 0) rs.length) rs.length := fun i hi => by rw [← hps]; exact range_getD hi
    rw [g, Option.bind_some, if_pos (by simp)]
    have hbody : (∀ x, x ∈ rs.map rt → x.size ≤ 40) → (f_rat_Odds fuel (ps.map rt) = some 0 ∧ l_gamehallkeep2_RegretMatched_10 fuel false (rs.map rt) (rs.length : Int) 0 = some (.exit (!allNeg (fun j => rs.getD j 0) rs.length, ())) ∧
        l_gamehallkeep2_RegretMatched_18 fuel (!allNeg (fun j => rs.getD j 0) rs.length) (rs.map rt) (rs.length : Int) 0 (ps.map rt) = some (.exit (ps.map rt, ()))) := by
      intro h40
      have hd40 : ∀ j, j < rs.length → Dr 40 (gm (fun i => rs.getD i 0) rs.length j) := fun j hj => by
        have hm : rs.getD j 0 ∈ rs := by rw [getD_eq rs j 0 hj]; exact List.getElem_mem hj
        have := h40 _ (List.mem_map_of_mem hm)
        rw [rt_size] at this
        unfold gm
        split
        · exact dr_mono (by decide) dr_one'
        · exact neg0_dr (dr_mono this (dr_len _)) (by decide)
      have hk : ∀ k, k ≤ rs.length → Dr 500 (fs (gm (fun i => rs.getD i 0) rs.length) k) := fun k hk => dr_mono (by
        have : (40 + 1) * k ≤ 41 * 12 := Nat.mul_le_mul (by omega) (by omega)
        omega) (dr_fs (n := k) fun j hj => hd40 j (by omega))
      refine ⟨odds_true ps (by omega) (fun r hr => ?_) (fun r hr => ?_) ?_ (fun k hk' => ?_), ?_, ?_⟩
      · obtain ⟨j, hj, rfl⟩ := List.getElem_of_mem hr
        rw [← getD_eq ps j 0 hj, hp j (by omega)]; exact hpo j (by omega)
      · obtain ⟨j, hj, rfl⟩ := List.getElem_of_mem hr
        rw [← getD_eq ps j 0 hj, hp j (by omega)]
        rw [Rat.div_def]; exact Rat.mul_nonneg (gm_nonneg ..) (Rat.le_of_lt (Rat.inv_pos.2 hS))
      · rw [← hps, psum_range, fs_div]
        rw [Rat.div_def]; exact Rat.mul_inv_cancel _ (by grind)
      · rw [← hps, take_range _ (by omega), psum_range, fs_div]
        exact dr_okr (dr_div (hk k (by omega)) (hk rs.length (by omega)) (by grind)) (by decide) (by decide)
      · have := some_loop rs (by omega) hok fuel 0 (by omega) (by omega)
        exact this
      · have := zero_loop rs ps (by omega) hpl hok (!allNeg (fun j => rs.getD j 0) rs.length) (fun hb i hi => ?_) fuel 0 (by omega) (by omega)
        · exact this
        · have hna : allNeg (fun j => rs.getD j 0) rs.length = false := by simpa using hb
          rw [hp i hi]
          have hg : gm (fun i => rs.getD i 0) rs.length i = neg0 (rs.getD i 0) := by unfold gm; rw [if_neg (by rw [hna]; decide)]
          rw [hg]
          have hz : neg0 (rs.getD i 0) = 0 ↔ rs.getD i 0 ≤ 0 := by unfold neg0; split <;> grind
          rw [← hz]
          constructor
          · intro h
            have : neg0 (rs.getD i 0) / fs (gm (fun i => rs.getD i 0) rs.length) rs.length * fs (gm (fun i => rs.getD i 0) rs.length) rs.length = 0 := by rw [h]; grind
            rw [Rat.div_mul_cancel (by grind)] at this
            exact this
          · intro h; rw [h]; grind
    rcases long_loop (rs.map rt) (by rw [List.length_map]; omega) fuel 0 (by omega) (by omega) (fun x hx => by simp at hx) with ⟨k, g2⟩ | ⟨h40, g2⟩
    · have g2 : l_slices_IndexFunc_Rat__slices_ContainsFunc_Rat__gamehallkeep2_RegretMatched_2 fuel (rs.map rt) ((rs.map rt).length : Int) 0 = _ := g2
      rw [g2]
      simp only
      rw [if_pos (decide_eq_true (show (k : Int) ≥ 0 by omega)), if_neg (by simp)]
    · obtain ⟨b1, b2, b3⟩ := hbody h40
      have g2 : l_slices_IndexFunc_Rat__slices_ContainsFunc_Rat__gamehallkeep2_RegretMatched_2 fuel (rs.map rt) ((rs.map rt).length : Int) 0 = _ := g2
      rw [g2]
      simp only [List.length_map]
      rw [if_pos (by rw [bne_eq_false_iff_eq, hpl]), b1, Option.bind_some, if_neg (by decide), b2]
      simp only
      rw [b3]

theorem regretMatched_plain : ∀ x : List ByteArray, WfL [.slice .str] x → f_gamehallkeep2_RegretMatched fuel x = some true := fun x h => matched_true x (by
    have h1 : x.length * 16 ≤ 140737488351232 := h.1
    omega) fun s hs => Nat.le_trans (h.2 s hs) (by decide)

end Go.Proofs.YtkgjejengkmacaaDoor
