/- Sums of rational numbers, and lists of probabilities. -/
import Derived.Test.YtbcooccafbccdaaGreatDoorRd
namespace Go.Proofs.YtbcooccafbccdaaGreatDoor
open Go Vm
def psum : List Rat → Rat
 | [] => 0
 | r :: l => r + psum l
theorem psum_snoc : ∀ (l : List Rat) (r : Rat), psum (l ++ [r]) = psum l + r
 | [], r => by simp only [List.nil_append, psum]; grind
 | a :: l, r => by rw [List.cons_append, psum, psum_snoc l r, psum]; grind
theorem sum_loop (rs : List Rat) (hs : rs.length ≤ 256) (h : ∀ r, r ∈ rs → OkR r) : ∀ (m i : Nat) (q : Qd), i ≤ rs.length → rs.length < m + i → QR (psum (rs.take i)) q → OkR (psum (rs.take i)) →
  (∃ x k, k ≤ rs.length ∧ ¬ OkR (psum (rs.take k)) ∧ l_rat_Sum_8 m (rs.map rt) (rs.length : Int) (i : Int) q.1 q.2.1 q.2.2 = some (.ret ((⟨#[]⟩ : ByteArray), 2, x))) ∨
  (∃ z : Qd, QR (psum rs) z ∧ OkR (psum rs) ∧ l_rat_Sum_8 m (rs.map rt) (rs.length : Int) (i : Int) q.1 q.2.1 q.2.2 = some (.exit (z.1, z.2.1, z.2.2, ())))
 | 0, i, q, h1, h2, h3, h4 => by omega
 | m + 1, i, q, h1, h2, h3, h4 => by
  simp only [l_rat_Sum_8, List.length_map]
  by_cases hi : i < rs.length
  ·have e4 : IntKind.i64.wrap ((i : Int) + 1) = ((i + 1 : Nat) : Int) := by rw [w64 _ (by omega) (by omega)]; omega
   have ho : OkR (rs.getD i 0) := h _ (by rw [getD_eq rs i 0 hi]; exact List.getElem_mem hi)
   obtain ⟨x, ex, hx⟩ := in_ok ho
   have hq : QR (psum (rs.take i)) (q.1, (q.2.1, q.2.2)) := h3
   obtain ⟨z, ez, hz⟩ := qadd_ok hq hx (okr_dr h4) (okr_dr ho) (by decide)
   have hsum : psum (rs.take i) + rs.getD i 0 = psum (rs.take (i + 1)) := by
    rw [List.take_succ_eq_append_getElem hi, psum_snoc, getD_eq rs i 0 hi]
   rw [if_pos (by simpa using hi), if_pos (by omega), if_pos (by omega), Int.toNat_natCast, getD_mapR rs i hi, ex, Option.bind_some, ez, Option.bind_some, fits_ok hz (dr_add (okr_dr h4) (okr_dr ho)) (by decide), Option.bind_some, e4]
   rw [hsum] at hz ⊢
   by_cases hk : OkR (psum (rs.take (i + 1)))
   ·rw [if_pos hk, if_neg (by decide)]
    exact sum_loop rs hs h m (i + 1) z (by omega) (by omega) hz hk
   ·rw [if_neg hk, if_pos (by decide)]
    exact .inl ⟨_, i + 1, by omega, hk, rfl⟩
  ·rw [if_neg (by simpa using hi)]
   rw [List.take_of_length_le (by omega)] at h3 h4
   exact .inr ⟨q, h3, h4, rfl⟩
theorem okr0 : OkR 0 := dr_okr (k := 1) (dr_zero (by decide)) (by decide) (by decide)
theorem sum_ok (rs : List Rat) (hs : rs.length ≤ 256) (h : ∀ r, r ∈ rs → OkR r) :
  ((∃ k, k ≤ rs.length ∧ ¬ OkR (psum (rs.take k))) ∧ f_rat_Sum fuel (rs.map rt) = some (⟨#[]⟩, 2)) ∨ (OkR (psum rs) ∧ f_rat_Sum fuel (rs.map rt) = some (rt (psum rs), 0)) := by
 unfold f_rat_Sum
 have hf := fuel40
 rw [List.length_map, if_neg (by simp only [decide_eq_true_eq]; omega), checkAll_ok rs (by omega) h, Option.bind_some, if_neg (by decide)]
 rcases sum_loop rs hs h fuel 0 (false, [], []) (by omega) (by omega) qr_zero okr0 with ⟨x, k, hk, hn, g⟩ | ⟨z, hz, ho, g⟩
 ·have g : l_rat_Sum_8 fuel (rs.map rt) (rs.length : Int) 0 false [] [] = _ := g
  rw [g]
  exact .inl ⟨⟨k, hk, hn⟩, rfl⟩
 ·have g : l_rat_Sum_8 fuel (rs.map rt) (rs.length : Int) 0 false [] [] = _ := g
  have hz' : QR (psum rs) (z.1, (z.2.1, z.2.2)) := hz
  rw [g]
  simp only
  rw [told_ok hz' (okr_dr ho) (by decide), if_pos ho, Option.bind_some]
  exact .inr ⟨ho, rfl⟩
theorem nonneg_num {r : Rat} : ¬ r.num.sign < 0 ↔ 0 ≤ r := by
 rw [← Rat.num_nonneg]
 rcases Int.lt_trichotomy r.num 0 with h | h | h
 ·rw [Int.sign_eq_neg_one_of_neg h]; omega
 ·rw [h]; simp
 ·rw [Int.sign_eq_one_of_pos h]; omega
theorem odds_loop (rs : List Rat) (hs : rs.length ≤ 256) (h : ∀ r, r ∈ rs → OkR r) : ∀ (m i : Nat), i ≤ rs.length → rs.length < m + i → (∀ r, r ∈ rs.take i → 0 ≤ r) →
  ((∃ r, r ∈ rs ∧ ¬ 0 ≤ r) ∧ l_rat_Odds_5 m (rs.map rt) (rs.length : Int) (i : Int) = some (.ret (4, ()))) ∨ ((∀ r, r ∈ rs → 0 ≤ r) ∧ l_rat_Odds_5 m (rs.map rt) (rs.length : Int) (i : Int) = some (.exit ()))
 | 0, i, h1, h2, h3 => by omega
 | m + 1, i, h1, h2, h3 => by
  simp only [l_rat_Odds_5, List.length_map]
  by_cases hi : i < rs.length
  ·have e4 : IntKind.i64.wrap ((i : Int) + 1) = ((i + 1 : Nat) : Int) := by rw [w64 _ (by omega) (by omega)]; omega
   have hmem : rs.getD i 0 ∈ rs := by rw [getD_eq rs i 0 hi]; exact List.getElem_mem hi
   obtain ⟨x, ex, hx⟩ := in_ok (h _ hmem)
   rw [if_pos (by simpa using hi), if_pos (by omega), if_pos (by omega), Int.toNat_natCast, getD_mapR rs i hi, ex, Option.bind_some, qsign_ok hx, Option.bind_some, e4]
   by_cases hn : 0 ≤ rs.getD i 0
   ·rw [if_neg (by simp only [decide_eq_true_eq]; exact nonneg_num.2 hn)]
    refine odds_loop rs hs h m (i + 1) (by omega) (by omega) fun r hr => ?_
    rw [List.take_succ_eq_append_getElem hi] at hr
    rcases List.mem_append.1 hr with hr | hr
    ·exact h3 r hr
    ·rw [List.mem_singleton] at hr; rw [hr, ← getD_eq rs i 0 hi]; exact hn
   ·rw [if_pos (by simp only [decide_eq_true_eq]; exact Decidable.of_not_not fun x => hn (nonneg_num.1 x))]
    exact .inl ⟨⟨_, hmem, hn⟩, rfl⟩
  ·rw [if_neg (by simpa using hi)]
   rw [List.take_of_length_le (by omega)] at h3
   exact .inr ⟨h3, rfl⟩
theorem odds_spec (l : List ByteArray) (hl : l.length ≤ 4611686018427387904) (hb : ∀ s, s ∈ l → s.size ≤ 900000000000000) :
  ∃ e : Int, f_rat_Odds fuel l = some e ∧ (e = 0 → ∃ rs : List Rat, l = rs.map rt ∧ rs.length ≤ 256 ∧ (∀ r, r ∈ rs → OkR r ∧ 0 ≤ r) ∧ psum rs = 1) := by
 have hf := fuel40
 by_cases h256 : l.length ≤ 256
 ·rcases checkAll_spec l hl hb with ⟨e, e0, h⟩ | ⟨rs, rfl, hok, h⟩
  ·refine ⟨e, ?_, fun h => absurd h e0⟩
   unfold f_rat_Odds f_rat_Sum
   rw [if_neg (by simp only [decide_eq_true_eq]; omega), h, Option.bind_some, if_pos (by simpa using e0), Option.bind_some, if_pos (by simpa using e0)]
  ·rw [List.length_map] at h256
   unfold f_rat_Odds
   rcases sum_ok rs h256 hok with ⟨_, g⟩ | ⟨ho, g⟩
   ·rw [g]
    exact ⟨2, rfl, fun h => absurd h (by decide)⟩
   ·rw [g, Option.bind_some, if_neg (by simp), List.length_map]
    rcases odds_loop rs h256 hok fuel 0 (by omega) (by omega) (fun r h => by simp at h) with ⟨_, g2⟩ | ⟨hp, g2⟩
    ·have g2 : l_rat_Odds_5 fuel (rs.map rt) (rs.length : Int) 0 = _ := g2
     rw [g2]
     exact ⟨4, rfl, fun h => absurd h (by decide)⟩
    ·have g2 : l_rat_Odds_5 fuel (rs.map rt) (rs.length : Int) 0 = _ := g2
     rw [g2]
     simp only
     by_cases h1 : psum rs = 1
     ·rw [h1, rt_one]
      refine ⟨0, by rw [if_neg (by simp)], fun _ => ⟨rs, rfl, h256, fun r hr => ⟨hok r hr, hp r hr⟩, h1⟩⟩
     ·refine ⟨3, if_pos ?_, fun h => absurd h (by decide)⟩
      rw [rt_one]
      simp only [Bool.not_eq_true', beq_eq_false_iff_ne, ne_eq]
      intro e
      refine h1 (rt_inj ?_)
      have : ∀ a b : ByteArray, a.toList = b.toList → a = b := by
       intro a b h
       rw [ByteArray.toList_eq, ByteArray.toList_eq] at h
       cases a; cases b; simp at h; rw [h]
      exact this _ _ e
 ·refine ⟨2, ?_, fun h => absurd h (by decide)⟩
  unfold f_rat_Odds f_rat_Sum
  rw [if_pos (by simp only [decide_eq_true_eq]; omega)]
  rfl
end Go.Proofs.YtbcooccafbccdaaGreatDoor
