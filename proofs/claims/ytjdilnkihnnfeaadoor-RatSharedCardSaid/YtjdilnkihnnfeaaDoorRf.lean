/- The plain law of shares. -/
import Derived.Test.YtjdilnkihnnfeaaDoorRe
namespace Go.Proofs.YtjdilnkihnnfeaaDoor
open Go Vm

def psum : List Rat → Rat
  | [] => 0
  | r :: l => r + psum l
theorem psum_snoc : ∀ (l : List Rat) (r : Rat), psum (l ++ [r]) = psum l + r
  | [], r => by simp only [List.nil_append, psum]; grind
  | a :: l, r => by rw [List.cons_append, psum, psum_snoc l r, psum]; grind
theorem psum_div : ∀ (l : List Rat) (s : Rat), psum (l.map (· / s)) = psum l / s
  | [], s => by simp only [List.map_nil, psum]; grind
  | a :: l, s => by rw [List.map_cons, psum, psum_div l s, psum]; grind
theorem dr_psum {k : Nat} : ∀ (l : List Rat), (∀ r, r ∈ l → Dr k r) → Dr ((k + 1) * l.length + 1) (psum l)
  | [], _ => dr_zero (by simp)
  | r :: l, h => by
    have := dr_add (h r (List.mem_cons_self ..)) (dr_psum l fun x hx => h x (List.mem_cons_of_mem _ hx))
    refine dr_mono ?_ this
    rw [List.length_cons, Nat.mul_succ]; omega

theorem sum_loop (rs : List Rat) (hs : rs.length ≤ 256) (h : ∀ r, r ∈ rs → OkR r) : ∀ (m i : Nat) (q : Qd), i ≤ rs.length → rs.length < m + i → QR (psum (rs.take i)) q → OkR (psum (rs.take i)) →
    (∃ x k, k ≤ rs.length ∧ ¬ OkR (psum (rs.take k)) ∧ l_rat_Sum_8 m (rs.map rt) (rs.length : Int) (i : Int) q.1 q.2.1 q.2.2 = some (.ret ((⟨#[]⟩ : ByteArray), 2, x))) ∨
    (∃ z : Qd, QR (psum rs) z ∧ OkR (psum rs) ∧ l_rat_Sum_8 m (rs.map rt) (rs.length : Int) (i : Int) q.1 q.2.1 q.2.2 = some (.exit (z.1, z.2.1, z.2.2, ())))
  | 0, i, q, h1, h2, h3, h4 => by omega
  | m + 1, i, q, h1, h2, h3, h4 => by
    simp only [l_rat_Sum_8, List.length_map]
    by_cases hi : i < rs.length
    · have e4 : IntKind.i64.wrap ((i : Int) + 1) = ((i + 1 : Nat) : Int) := by rw [w64 _ (by omega) (by omega)]; omega
      have ho : OkR (rs.getD i 0) := h _ (by rw [getD_eq rs i 0 hi]; exact List.getElem_mem hi)
      obtain ⟨x, ex, hx⟩ := in_ok ho
      have hq : QR (psum (rs.take i)) (q.1, (q.2.1, q.2.2)) := h3
      obtain ⟨z, ez, hz⟩ := qadd_ok hq hx (okr_dr h4) (okr_dr ho) (by decide)
      have hsum : psum (rs.take i) + rs.getD i 0 = psum (rs.take (i + 1)) := by
        rw [List.take_succ_eq_append_getElem hi, psum_snoc, getD_eq rs i 0 hi]
      rw [if_pos (by simpa using hi), if_pos (by omega), if_pos (by omega), Int.toNat_natCast, getD_mapR rs i hi, ex, Option.bind_some, ez, Option.bind_some, fits_ok hz (dr_add (okr_dr h4) (okr_dr ho)) (by decide), Option.bind_some, e4]
      rw [hsum] at hz ⊢
      by_cases hk : OkR (psum (rs.take (i + 1)))
      · rw [if_pos hk, if_neg (by decide)]
        exact sum_loop rs hs h m (i + 1) z (by omega) (by omega) hz hk
      · rw [if_neg hk, if_pos (by decide)]
        exact .inl ⟨_, i + 1, by omega, hk, rfl⟩
    · rw [if_neg (by simpa using hi)]
      rw [List.take_of_length_le (by omega)] at h3 h4
      exact .inr ⟨q, h3, h4, rfl⟩
theorem okr0 : OkR 0 := dr_okr (k := 1) (dr_zero (by decide)) (by decide) (by decide)
theorem sum_ok (rs : List Rat) (hs : rs.length ≤ 256) (h : ∀ r, r ∈ rs → OkR r) :
    ((∃ k, k ≤ rs.length ∧ ¬ OkR (psum (rs.take k))) ∧ f_rat_Sum fuel (rs.map rt) = some (⟨#[]⟩, 2)) ∨ (OkR (psum rs) ∧ f_rat_Sum fuel (rs.map rt) = some (rt (psum rs), 0)) := by
  unfold f_rat_Sum
  have hf := fuel40
  rw [List.length_map, if_neg (by simp only [decide_eq_true_eq]; omega), checkAll_ok rs (by omega) h, Option.bind_some, if_neg (by decide)]
  rcases sum_loop rs hs h fuel 0 (false, [], []) (by omega) (by omega) qr_zero okr0 with ⟨x, k, hk, hn, g⟩ | ⟨z, hz, ho, g⟩
  · have g : l_rat_Sum_8 fuel (rs.map rt) (rs.length : Int) 0 false [] [] = _ := g
    rw [g]
    exact .inl ⟨⟨k, hk, hn⟩, rfl⟩
  · have g : l_rat_Sum_8 fuel (rs.map rt) (rs.length : Int) 0 false [] [] = _ := g
    have hz' : QR (psum rs) (z.1, (z.2.1, z.2.2)) := hz
    rw [g]
    simp only
    rw [told_ok hz' (okr_dr ho) (by decide), if_pos ho, Option.bind_some]
    exact .inr ⟨ho, rfl⟩

theorem nonneg_num {r : Rat} : ¬ r.num.sign < 0 ↔ 0 ≤ r := by
  rw [← Rat.num_nonneg]
  rcases Int.lt_trichotomy r.num 0 with h | h | h
  · rw [Int.sign_eq_neg_one_of_neg h]; omega
  · rw [h]; simp
  · rw [Int.sign_eq_one_of_pos h]; omega
theorem shares5 (rs : List Rat) (hs : rs.length ≤ 256) (h : ∀ r, r ∈ rs → OkR r) : ∀ (m i : Nat), i ≤ rs.length → rs.length < m + i → (∀ r, r ∈ rs.take i → 0 ≤ r) →
    ((∃ r, r ∈ rs ∧ ¬ 0 ≤ r) ∧ l_rat_Shares_5 m (rs.map rt) (rs.length : Int) (i : Int) = some (.ret (4, ()))) ∨ ((∀ r, r ∈ rs → 0 ≤ r) ∧ l_rat_Shares_5 m (rs.map rt) (rs.length : Int) (i : Int) = some (.exit ()))
  | 0, i, h1, h2, h3 => by omega
  | m + 1, i, h1, h2, h3 => by
    simp only [l_rat_Shares_5, List.length_map]
    by_cases hi : i < rs.length
    · have e4 : IntKind.i64.wrap ((i : Int) + 1) = ((i + 1 : Nat) : Int) := by rw [w64 _ (by omega) (by omega)]; omega
      have hmem : rs.getD i 0 ∈ rs := by rw [getD_eq rs i 0 hi]; exact List.getElem_mem hi
      obtain ⟨x, ex, hx⟩ := in_ok (h _ hmem)
      rw [if_pos (by simpa using hi), if_pos (by omega), if_pos (by omega), Int.toNat_natCast, getD_mapR rs i hi, ex, Option.bind_some, qsign_ok hx, Option.bind_some, e4]
      by_cases hn : 0 ≤ rs.getD i 0
      · rw [if_neg (by simp only [decide_eq_true_eq]; exact nonneg_num.2 hn)]
        refine shares5 rs hs h m (i + 1) (by omega) (by omega) fun r hr => ?_
        rw [List.take_succ_eq_append_getElem hi] at hr
        rcases List.mem_append.1 hr with hr | hr
        · exact h3 r hr
        · rw [List.mem_singleton] at hr; rw [hr, ← getD_eq rs i 0 hi]; exact hn
      · rw [if_pos (by simp only [decide_eq_true_eq]; exact Decidable.of_not_not fun x => hn (nonneg_num.1 x))]
        exact .inl ⟨⟨_, hmem, hn⟩, rfl⟩
    · rw [if_neg (by simpa using hi)]
      rw [List.take_of_length_le (by omega)] at h3
      exact .inr ⟨h3, rfl⟩
theorem odds5 (rs : List Rat) (hs : rs.length ≤ 256) (h : ∀ r, r ∈ rs → OkR r) (h0 : ∀ r, r ∈ rs → 0 ≤ r) : ∀ (m i : Nat), i ≤ rs.length → rs.length < m + i → l_rat_Odds_5 m (rs.map rt) (rs.length : Int) (i : Int) = some (.exit ())
  | 0, i, h1, h2 => by omega
  | m + 1, i, h1, h2 => by
    simp only [l_rat_Odds_5, List.length_map]
    by_cases hi : i < rs.length
    · have e4 : IntKind.i64.wrap ((i : Int) + 1) = ((i + 1 : Nat) : Int) := by rw [w64 _ (by omega) (by omega)]; omega
      have hmem : rs.getD i 0 ∈ rs := by rw [getD_eq rs i 0 hi]; exact List.getElem_mem hi
      obtain ⟨x, ex, hx⟩ := in_ok (h _ hmem)
      rw [if_pos (by simpa using hi), if_pos (by omega), if_pos (by omega), Int.toNat_natCast, getD_mapR rs i hi, ex, Option.bind_some, qsign_ok hx, Option.bind_some, e4, if_neg (by simp only [decide_eq_true_eq]; exact nonneg_num.2 (h0 _ hmem))]
      exact odds5 rs hs h h0 m (i + 1) (by omega) (by omega)
    · rw [if_neg (by simpa using hi)]

theorem shares15 (rs : List Rat) (hs : rs.length ≤ 256) (h : ∀ r, r ∈ rs → OkR r) (s : Rat) (b : Qd) (hb : QR s b) (hos : OkR s) (hs0 : s ≠ 0) : ∀ (m i : Nat), i ≤ rs.length → rs.length < m + i → (∀ r, r ∈ rs.take i → OkR (r / s)) →
    ((∃ r, r ∈ rs ∧ ¬ OkR (r / s)) ∧ ∃ x, l_rat_Shares_15 m (rs.map rt) (rs.length : Int) (i : Int) b.1 b.2.1 b.2.2 (((rs.take i).map (· / s)).map rt) = some (.ret (2, x))) ∨
    ((∀ r, r ∈ rs → OkR (r / s)) ∧ l_rat_Shares_15 m (rs.map rt) (rs.length : Int) (i : Int) b.1 b.2.1 b.2.2 (((rs.take i).map (· / s)).map rt) = some (.exit ((rs.map (· / s)).map rt, b.1, b.2.1, b.2.2, ())))
  | 0, i, h1, h2, h3 => by omega
  | m + 1, i, h1, h2, h3 => by
    simp only [l_rat_Shares_15, List.length_map]
    by_cases hi : i < rs.length
    · have e4 : IntKind.i64.wrap ((i : Int) + 1) = ((i + 1 : Nat) : Int) := by rw [w64 _ (by omega) (by omega)]; omega
      have hmem : rs.getD i 0 ∈ rs := by rw [getD_eq rs i 0 hi]; exact List.getElem_mem hi
      obtain ⟨x, ex, hx⟩ := in_ok (h _ hmem)
      have hb' : QR s (b.1, (b.2.1, b.2.2)) := hb
      obtain ⟨z, ez, hz⟩ := qquo_ok hx hb' (okr_dr (h _ hmem)) (okr_dr hos) (by decide) hs0
      rw [if_pos (by simpa using hi), if_pos (by omega), if_pos (by omega), Int.toNat_natCast, getD_mapR rs i hi, ex, Option.bind_some, ez, Option.bind_some, told_ok hz (dr_div (okr_dr (h _ hmem)) (okr_dr hos) hs0) (by decide), Option.bind_some, e4]
      by_cases ho : OkR (rs.getD i 0 / s)
      · rw [if_pos ho, if_neg (by simp), if_pos (by rw [List.length_take]; omega)]
        have htk : ((rs.take i).map (· / s)).map rt ++ [rt (rs.getD i 0 / s)] = ((rs.take (i + 1)).map (· / s)).map rt := by
          rw [List.take_succ_eq_append_getElem hi, List.map_append, List.map_append, getD_eq rs i 0 hi]; rfl
        rw [htk]
        refine shares15 rs hs h s b hb hos hs0 m (i + 1) (by omega) (by omega) fun r hr => ?_
        rw [List.take_succ_eq_append_getElem hi] at hr
        rcases List.mem_append.1 hr with hr | hr
        · exact h3 r hr
        · rw [List.mem_singleton] at hr; rw [hr, ← getD_eq rs i 0 hi]; exact ho
      · rw [if_neg ho, if_pos (by simp)]
        exact .inl ⟨⟨_, hmem, ho⟩, _, rfl⟩
    · rw [if_neg (by simpa using hi)]
      rw [List.take_of_length_le (by omega)] at h3 ⊢
      exact .inr ⟨h3, rfl⟩

/-- What Shares makes of numbers. -/
theorem shares_run (rs : List Rat) (hs : rs.length ≤ 256) (h : ∀ r, r ∈ rs → OkR r) :
    ((∃ k, k ≤ rs.length ∧ ¬ OkR (psum (rs.take k))) ∨ (∃ r, r ∈ rs ∧ ¬ 0 ≤ r) ∨ psum rs = 0 ∨ ∃ r, r ∈ rs ∧ ¬ OkR (r / psum rs)) ∧ (∃ e : Int, e ≠ 0 ∧ f_rat_Shares fuel (rs.map rt) = some ([], e)) ∨
    (OkR (psum rs) ∧ (∀ r, r ∈ rs → 0 ≤ r) ∧ psum rs ≠ 0 ∧ (∀ r, r ∈ rs → OkR (r / psum rs)) ∧ f_rat_Shares fuel (rs.map rt) = some ((rs.map (· / psum rs)).map rt, 0)) := by
  unfold f_rat_Shares
  have hf := fuel40
  rcases sum_ok rs hs h with ⟨hk, e⟩ | ⟨ho, e⟩
  · rw [e, Option.bind_some, if_pos (by decide)]
    exact .inl ⟨.inl hk, 2, by decide, rfl⟩
  rw [e, Option.bind_some, if_neg (by simp), List.length_map]
  rcases shares5 rs hs h fuel 0 (by omega) (by omega) (by simp) with ⟨hk, g⟩ | ⟨h0, g⟩
  · have g : l_rat_Shares_5 fuel (rs.map rt) (rs.length : Int) 0 = _ := g
    rw [g]
    exact .inl ⟨.inr (.inl hk), 4, by decide, rfl⟩
  have g : l_rat_Shares_5 fuel (rs.map rt) (rs.length : Int) 0 = _ := g
  obtain ⟨b, eb, hb⟩ := in_ok ho
  rw [g]
  simp only
  rw [eb, Option.bind_some, qsign_ok hb, Option.bind_some]
  by_cases hz : psum rs = 0
  · rw [if_pos (by rw [hz]; rfl)]
    exact .inl ⟨.inr (.inr (.inl hz)), 18, by decide, rfl⟩
  rw [if_neg (fun x => hz (Rat.num_eq_zero.1 (Int.sign_eq_zero_iff_zero.1 (beq_iff_eq.1 x))))]
  rcases shares15 rs hs h (psum rs) b hb ho hz fuel 0 (by omega) (by omega) (by simp) with ⟨hk, x, g2⟩ | ⟨hk, g2⟩
  · have g2 : l_rat_Shares_15 fuel (rs.map rt) (rs.length : Int) 0 b.1 b.2.1 b.2.2 [] = _ := g2
    rw [g2]
    exact .inl ⟨.inr (.inr (.inr hk)), 2, by decide, rfl⟩
  · have g2 : l_rat_Shares_15 fuel (rs.map rt) (rs.length : Int) 0 b.1 b.2.1 b.2.2 [] = _ := g2
    rw [g2]
    exact .inr ⟨ho, h0, hz, hk, rfl⟩

/-- Best: the same steps for two lists whose differences have the same signs. -/
theorem best_loop (rs : List Rat) (s : Rat) (hs0 : 0 < s) (hs : rs.length ≤ 256) (h : ∀ r, r ∈ rs → OkR r) (hd : ∀ r, r ∈ rs → OkR (r / s)) : ∀ (m i b : Nat), i ≤ rs.length → rs.length < m + i → b < rs.length →
    ∃ x : Int, l_rat_Best_10 m (rs.map rt) (b : Int) (rs.map rt) (rs.length : Int) (i : Int) = some (.exit (x, ())) ∧
      l_rat_Best_10 m ((rs.map (· / s)).map rt) (b : Int) ((rs.map (· / s)).map rt) (rs.length : Int) (i : Int) = some (.exit (x, ()))
  | 0, i, b, h1, h2, h3 => by omega
  | m + 1, i, b, h1, h2, h3 => by
    simp only [l_rat_Best_10, List.length_map]
    by_cases hi : i < rs.length
    · have e4 : IntKind.i64.wrap ((i : Int) + 1) = ((i + 1 : Nat) : Int) := by rw [w64 _ (by omega) (by omega)]; omega
      have mi : rs.getD i 0 ∈ rs := by rw [getD_eq rs i 0 hi]; exact List.getElem_mem hi
      have mb : rs.getD b 0 ∈ rs := by rw [getD_eq rs b 0 h3]; exact List.getElem_mem h3
      have gi : (rs.map (· / s)).getD i 0 = rs.getD i 0 / s := by rw [getD_eq _ i 0 (by simpa using hi), getD_eq rs i 0 hi, List.getElem_map]
      have gb : (rs.map (· / s)).getD b 0 = rs.getD b 0 / s := by rw [getD_eq _ b 0 (by simpa using h3), getD_eq rs b 0 h3, List.getElem_map]
      obtain ⟨x, ex, hx⟩ := in_ok (h _ mi)
      obtain ⟨y, ey, hy⟩ := in_ok (h _ mb)
      obtain ⟨x', ex', hx'⟩ := in_ok (hd _ mi)
      obtain ⟨y', ey', hy'⟩ := in_ok (hd _ mb)
      have hsg : (rs.getD i 0 / s - rs.getD b 0 / s).num.sign > 0 ↔ (rs.getD i 0 - rs.getD b 0).num.sign > 0 := by
        have pos : ∀ r : Rat, r.num.sign > 0 ↔ 0 < r := fun r => by
          have h1 := nonneg_num (r := -r)
          rw [sign_neg] at h1
          constructor
          · intro hh
            have : ¬ 0 ≤ -r := fun hx => by have := h1.2 hx; omega
            grind
          · intro hh
            have : ¬ 0 ≤ -r := by grind
            have : ¬ ¬ -r.num.sign < 0 := fun hx => this (h1.1 hx)
            omega
        rw [pos, pos]
        have hinv : 0 < s⁻¹ := Rat.inv_pos.2 hs0
        have e1 : rs.getD i 0 / s - rs.getD b 0 / s = (rs.getD i 0 - rs.getD b 0) * s⁻¹ := by rw [Rat.div_def, Rat.div_def]; grind
        rw [e1]
        constructor
        · intro hp
          apply Decidable.of_not_not
          intro hn
          have hle : rs.getD i 0 - rs.getD b 0 ≤ 0 := by grind
          have := Rat.mul_le_mul_of_nonneg_right hle (show 0 ≤ s⁻¹ by grind)
          grind
        · intro hp; exact Rat.mul_pos hp hinv
      have c1 : (0 : Int) ≤ (i : Int) := by omega
      have c2 : (i : Int) < (rs.length : Int) := by omega
      have c3 : (0 : Int) ≤ (b : Int) := by omega
      have c4 : (b : Int) < (rs.length : Int) := by omega
      simp only [c1, c2, c3, c4, decide_true, if_true, Int.toNat_natCast, e4]
      rw [getD_mapR rs i hi, getD_mapR rs b h3, ex, Option.bind_some, ey, Option.bind_some, qcmp_ok hx hy (okr_dr (h _ mi)) (okr_dr (h _ mb)) (by decide), Option.bind_some]
      rw [getD_mapR _ i (by simpa using hi), getD_mapR _ b (by simpa using h3), gi, gb, ex', Option.bind_some, ey', Option.bind_some, qcmp_ok hx' hy' (okr_dr (hd _ mi)) (okr_dr (hd _ mb)) (by decide), Option.bind_some]
      by_cases hg : (rs.getD i 0 - rs.getD b 0).num.sign > 0
      · rw [if_pos (decide_eq_true hg), if_pos (decide_eq_true (hsg.2 hg))]
        exact best_loop rs s hs0 hs h hd m (i + 1) i (by omega) (by omega) hi
      · rw [if_neg (fun e => hg (of_decide_eq_true e)), if_neg (fun e => hg (hsg.1 (of_decide_eq_true e)))]
        exact best_loop rs s hs0 hs h hd m (i + 1) b (by omega) (by omega) h3
    · rw [if_neg (by simpa using hi), if_neg (by simpa using hi)]
      exact ⟨_, rfl, rfl⟩
theorem best_ok (rs : List Rat) (s : Rat) (hs0 : 0 < s) (hs : rs.length ≤ 256) (hp : 0 < rs.length) (h : ∀ r, r ∈ rs → OkR r) (hd : ∀ r, r ∈ rs → OkR (r / s)) :
    ∃ x : Int, f_rat_Best fuel (rs.map rt) = some (x, 0) ∧ f_rat_Best fuel ((rs.map (· / s)).map rt) = some (x, 0) := by
  unfold f_rat_Best
  have hf := fuel40
  obtain ⟨x, e1, e2⟩ := best_loop rs s hs0 hs h hd fuel 0 0 (by omega) (by omega) hp
  have e1 : l_rat_Best_10 fuel (rs.map rt) 0 (rs.map rt) (rs.length : Int) 0 = _ := e1
  have e2 : l_rat_Best_10 fuel ((rs.map (· / s)).map rt) 0 ((rs.map (· / s)).map rt) (rs.length : Int) 0 = _ := e2
  refine ⟨x, ?_, ?_⟩
  · rw [List.length_map, if_neg (by simp only [decide_eq_true_eq]; omega), if_neg (fun e => by have := beq_iff_eq.1 e; omega), checkAll_ok rs (by omega) h, Option.bind_some, if_neg (by decide), e1]
  · rw [List.length_map, List.length_map, if_neg (by simp only [decide_eq_true_eq]; omega), if_neg (fun e => by have := beq_iff_eq.1 e; omega), checkAll_ok _ (by rw [List.length_map]; omega) (fun r hr => by
      obtain ⟨t, ht, rfl⟩ := List.mem_map.1 hr
      exact hd t ht), Option.bind_some, if_neg (by decide), e2]
end Go.Proofs.YtjdilnkihnnfeaaDoor
