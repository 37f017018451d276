/- The plain law of RanksTurns. -/
import Derived.Test.YtinkojannlngfaaV
namespace Go.Proofs.Ytinkojannlngfaa
open Go Vm

theorem f19_same {ks ls : List Nat} (hk : Hand ks) (hl : Hand ls) (hr : ∀ r, r < 13 → rc ks r = rc ls r) (hf : flush ks = flush ls) : f18 fuel (zs ks) = f18 fuel (zs ls) ∧ f19 fuel (zs ks) = f19 fuel (zs ls) := by
  have h18 : f18 fuel (zs ks) = f18 fuel (zs ls) := by
    rw [f18_ok (by rw [hk.2]; decide), f18_ok (by rw [hl.2]; decide), vec_congr hr]
  refine ⟨h18, ?_⟩
  unfold f19
  rw [h18]
  obtain ⟨g, n, r, hg, _⟩ := f19_ok hl
  rw [hg, Option.bind_some, Option.bind_some, f17_congr hk hl hf]
theorem f7_same {ks ls : List Nat} (hk : Hand ks) (hl : Hand ls) (hr : ∀ r, r < 13 → rc ks r = rc ls r) (hf : flush ks = flush ls) : f7 fuel (zs ks) = f7 fuel (zs ls) ∧ f8 fuel (zs ks) = f8 fuel (zs ls) := by
  obtain ⟨h18, h19⟩ := f19_same hk hl hr hf
  constructor
  · unfold f7
    rw [f16_ok hk, f16_ok hl, Option.bind_some, Option.bind_some, h18]
    obtain ⟨g, n, r, hg, _⟩ := f19_ok hl
    rw [hg, Option.bind_some, Option.bind_some, f17_congr hk hl hf]
  · unfold f8
    rw [f16_ok hk, f16_ok hl, Option.bind_some, Option.bind_some, h19]

theorem perm_zs {b : List Int} {ks : List Nat} (h : b.Perm (zs ks)) : ∃ ls, b = zs ls ∧ ls.Perm ks := by
  obtain ⟨ls, rfl⟩ := exists_zs (l := b) fun x hx => by
    obtain ⟨c, _, rfl⟩ := List.mem_map.1 (h.mem_iff.1 hx)
    exact Int.natCast_nonneg c
  refine ⟨ls, rfl, ?_⟩
  have := h.map Int.toNat
  rwa [zs, zs, List.map_map, List.map_map, show Int.toNat ∘ Int.ofNat = id from rfl, List.map_id, List.map_id] at this

theorem hand_perm {ls ks : List Nat} (h : ls.Perm ks) (hk : Hand ks) : Hand ls :=
  ⟨⟨by rw [h.length_eq]; exact hk.1.1, fun c hc => hk.1.2.1 c (h.mem_iff.1 hc), h.nodup_iff.2 hk.1.2.2⟩, by rw [h.length_eq]; exact hk.2⟩
theorem rc_perm {ls ks : List Nat} (h : ls.Perm ks) (r : Nat) : rc ls r = rc ks r := by
  unfold rc cnt
  exact (h.map _).count_eq _
theorem flush_perm {ls ks : List Nat} (h : ls.Perm ks) : flush ls = flush ks := by
  unfold flush
  exact decide_eq_decide.2 ⟨fun q c hc d hd => q c (h.mem_iff.2 hc) d (h.mem_iff.2 hd), fun q c hc d hd => q c (h.mem_iff.1 hc) d (h.mem_iff.1 hd)⟩

/-! Shuffle. -/
theorem l25_all (l : List Int) (hs : l.length < 1000) (n : Nat) (hn : n ≤ 1000) : ∀ (m i : Nat), i ≤ l.length → l.length < m + i →
    (l25_4 m (n : Int) l (l.length : Int) (i : Int) = some (.exit ()) ∧ ∀ j, i ≤ j → ∀ x, l[j]? = some x → 0 ≤ x ∧ x ≤ (n : Int) - 1 - j) ∨ ∃ e : Int, e ≠ 0 ∧ l25_4 m (n : Int) l (l.length : Int) (i : Int) = some (.ret (e, ()))
  | 0, i, h1, h2 => by omega
  | m + 1, i, h1, h2 => by
    simp only [l25_4]
    by_cases hi : i < l.length
    · have ih := l25_all l hs n hn m (i + 1) (by omega) (by omega)
      rw [if_pos (by simpa using hi), if_pos (by omega), if_pos (by omega), Int.toNat_natCast, getD_eq l i 0 hi, w64 ((n : Int) - 1) (by omega) (by omega), w64 _ (by omega) (by omega), w64 _ (by omega) (by omega), show ((i : Int) + 1) = ((i + 1 : Nat) : Int) by omega]
      by_cases h0 : l[i] < 0
      · rw [if_neg (by simpa using h0)]; exact .inr ⟨4, by decide, rfl⟩
      · rw [if_pos (by simpa using h0)]
        by_cases h5 : l[i] > (n : Int) - 1 - i
        · rw [if_pos (by simpa using h5)]; exact .inr ⟨4, by decide, rfl⟩
        · rw [if_neg (by simpa using h5)]
          rcases ih with ⟨g, k⟩ | g
          · refine .inl ⟨g, fun j hj x hx => ?_⟩
            by_cases e : j = i
            · subst e
              rw [List.getElem?_eq_getElem hi] at hx
              cases hx
              exact ⟨by omega, by omega⟩
            · exact k j (by omega) x hx
          · exact .inr g
    · rw [if_neg (by simpa using hi)]
      exact .inl ⟨rfl, fun j hj x hx => by rw [List.getElem?_eq_none (by omega)] at hx; cases hx⟩

theorem l13_all (l : List Int) (n : Nat) (hn : n ≤ 52) (hl : l.length + 1 = n) (hd : ∀ (j : Nat) (x : Int), l[j]? = some x → 0 ≤ x ∧ x ≤ (n : Int) - 1 - j) : ∀ (m j : Nat) (b : List Int), b.length = n → j ≤ l.length → l.length < m + j →
    ∃ b', l13_9 m l (l.length : Int) (j : Int) b = some (.exit (b', ())) ∧ b'.Perm b
  | 0, j, b, _, h1, h2 => by omega
  | m + 1, j, b, hb, h1, h2 => by
    simp only [l13_9, List.length_set]
    by_cases hj : j < l.length
    · obtain ⟨q0, q1⟩ := hd j l[j] (List.getElem?_eq_getElem hj)
      obtain ⟨d, e⟩ : ∃ d : Nat, l[j] = (d : Int) := ⟨l[j].toNat, by omega⟩
      rw [if_pos (by simpa using hj), if_pos (by omega), if_pos (by omega), Int.toNat_natCast, getD_eq l j 0 hj, e, w64 ((b.length : Int) - 1) (by omega) (by omega), w64 ((b.length : Int) - 1 - j) (by omega) (by omega), w64 _ (by omega) (by omega),
        show (b.length : Int) - 1 - (j : Int) = ((b.length - 1 - j : Nat) : Int) by omega, if_pos (by omega), if_pos (by omega), if_pos (by omega), if_pos (by omega), if_pos (by omega), if_pos (by omega), if_pos (by omega), if_pos (by omega),
        Int.toNat_natCast, Int.toNat_natCast, getD_eq b d _ (by omega), getD_eq b (b.length - 1 - j) _ (by omega), show ((j : Int) + 1) = ((j + 1 : Nat) : Int) by omega]
      obtain ⟨b', g1, g2⟩ := l13_all l n hn hl hd m (j + 1) ((b.set (b.length - 1 - j) (b[d]'(by omega))).set d (b[b.length - 1 - j]'(by omega))) (by simpa using hb) (by omega) (by omega)
      exact ⟨b', g1, g2.trans (List.set_set_perm (by omega) (by omega))⟩
    · rw [if_neg (by simpa using hj)]
      exact ⟨b, rfl, .refl _⟩

theorem f13_ok {ks : List Nat} (hk : Hand ks) (l : List Int) : (∃ o e, e ≠ 0 ∧ f13 fuel (zs ks) l = some (o, e)) ∨ ∃ ls, f13 fuel (zs ks) l = some (zs ls, 0) ∧ ls.Perm ks := by
  have hf := fuel100
  have h5 := hk.2
  unfold f13
  rw [f22_ok hk.1, Option.bind_some, if_neg (by simp), length_zs, h5]
  unfold f25
  by_cases hl : l.length = 4
  · rw [if_neg (by
      rw [show (if IntKind.i64.wrap (((5 : Nat) : Int) - 1) > 0 then IntKind.i64.wrap (((5 : Nat) : Int) - 1) else 0) = 4 from by decide]
      simp; omega)]
    rcases l25_all l (by omega) 5 (by decide) fuel 0 (by omega) (by omega) with ⟨g, k⟩ | ⟨e, h0, g⟩
    · have g : l25_4 fuel ((5 : Nat) : Int) l (l.length : Int) 0 = _ := g
      rw [g]
      simp only [Option.bind_some]
      rw [if_neg (by simp), f23s_ok _ (by rw [length_zs]; omega), Option.bind_some]
      obtain ⟨b', g1, g2⟩ := l13_all l 5 (by decide) (by omega) (fun j x hx => k j (by omega) x hx) fuel 0 (zs ks) (by rw [length_zs]; exact h5) (by omega) (by omega)
      have g1 : l13_9 fuel l (l.length : Int) 0 (zs ks) = _ := g1
      rw [g1]
      obtain ⟨ls, rfl, hp⟩ := perm_zs g2
      exact .inr ⟨ls, rfl, hp⟩
    · have g : l25_4 fuel ((5 : Nat) : Int) l (l.length : Int) 0 = _ := g
      rw [g]
      simp only [Option.bind_some]
      rw [if_pos (by simpa using h0)]
      exact .inl ⟨_, e, h0, rfl⟩
  · rw [if_pos (by
      rw [show (if IntKind.i64.wrap (((5 : Nat) : Int) - 1) > 0 then IntKind.i64.wrap (((5 : Nat) : Int) - 1) else 0) = 4 from by decide]
      simp; omega)]
    exact .inl ⟨[], 3, by decide, rfl⟩

/-! The exchange of suits. -/
def turn (b c : Nat) : Nat := (c + 13 * b) % 52
theorem l5_all (ks : List Nat) (hk : Hand ks) (b : Nat) (hb : b < 4) : ∀ (m i : Nat) (acc : List Nat), i ≤ ks.length → ks.length < m + i → acc.length = i →
    l5_9 m (b : Int) (zs ks) (ks.length : Int) (i : Int) (zs acc) = some (.exit (zs (acc ++ (ks.drop i).map (turn b)), ()))
  | 0, i, acc, h1, h2, _ => by omega
  | m + 1, i, acc, h1, h2, h3 => by
    simp only [l5_9]
    have h5 := hk.2
    by_cases hi : i < ks.length
    · have hc := hk.1.2.1 ks[i] (List.getElem_mem hi)
      have ht : (IntKind.i64.wrap ((ks[i] : Int) + IntKind.i64.wrap (13 * (b : Int)))).tmod 52 = ((turn b ks[i] : Nat) : Int) := by
        rw [w64 (13 * (b : Int)) (by omega) (by omega), w64 _ (by omega) (by omega), show (ks[i] : Int) + 13 * (b : Int) = ((ks[i] + 13 * b : Nat) : Int) by omega]
        exact (Int.ofNat_tmod _ 52).symm
      have ha : zs acc ++ [((turn b ks[i] : Nat) : Int)] = zs (acc ++ [turn b ks[i]]) := by rw [zs, zs, List.map_append]; rfl
      rw [if_pos (by simpa using hi), if_pos (by omega), length_zs, if_pos (by omega), length_zs, if_pos (by omega), Int.toNat_natCast, getD_zs, getD_eq ks i 0 hi, ht, ha, w64 _ (by omega) (by omega), show ((i : Int) + 1) = ((i + 1 : Nat) : Int) by omega,
        l5_all ks hk b hb m (i + 1) _ (by omega) (by omega) (by simp; omega), List.drop_eq_getElem_cons hi, List.map_cons, List.append_assoc]
      rfl
    · rw [if_neg (by simpa using hi), List.drop_of_length_le (by omega)]
      simp

theorem turn_rank (b c : Nat) : turn b c % 13 = c % 13 := by unfold turn; omega
theorem turn_inj {b c d : Nat} (hc : c < 52) (hd : d < 52) (h : turn b c = turn b d) : c = d := by unfold turn at h; omega
theorem turn_suit {b c d : Nat} (hc : c < 52) (hd : d < 52) : turn b c / 13 = turn b d / 13 ↔ c / 13 = d / 13 := by unfold turn; omega
theorem hand_turn {ks : List Nat} (hk : Hand ks) (b : Nat) : Hand (ks.map (turn b)) := by
  refine ⟨⟨by rw [List.length_map]; exact hk.1.1, fun c hc => ?_, ?_⟩, by rw [List.length_map]; exact hk.2⟩
  · obtain ⟨d, _, rfl⟩ := List.mem_map.1 hc
    exact Nat.mod_lt _ (by decide)
  · refine List.pairwise_map.2 (hk.1.2.2.imp_of_mem fun {c d} hc hd hne h => hne (turn_inj (hk.1.2.1 c hc) (hk.1.2.1 d hd) h))
theorem rc_turn (ks : List Nat) (b r : Nat) : rc (ks.map (turn b)) r = rc ks r := by
  unfold rc
  rw [List.map_map]
  congr 1
  exact List.map_congr_left fun c _ => turn_rank b c
theorem flush_turn {ks : List Nat} (hk : Hand ks) (b : Nat) : flush (ks.map (turn b)) = flush ks := by
  unfold flush
  refine decide_eq_decide.2 ⟨fun q c hc d hd => (turn_suit (hk.1.2.1 c hc) (hk.1.2.1 d hd)).1 (q _ (List.mem_map_of_mem hc) _ (List.mem_map_of_mem hd)), fun q c hc d hd => ?_⟩
  obtain ⟨c', hc', rfl⟩ := List.mem_map.1 hc
  obtain ⟨d', hd', rfl⟩ := List.mem_map.1 hd
  exact (turn_suit (hk.1.2.1 c' hc') (hk.1.2.1 d' hd')).2 (q _ hc' _ hd')

theorem f12_ok (x : Int) : ∃ b : Nat, b < 4 ∧ f12 fuel x 4 = some (b : Int) := by
  unfold f12
  have h4 : IntKind.u64.wrap 4 = 4 := by decide
  rw [h4, if_neg (by decide)]
  have h0 : 0 ≤ IntKind.u64.wrap x := by
    unfold IntKind.wrap
    have e1 : IntKind.u64.bits = 64 := rfl
    have e2 : IntKind.u64.signed = false := rfl
    simp only [e1, e2, Bool.false_and, Bool.false_eq_true, if_false]
    exact Int.emod_nonneg _ (by decide)
  obtain ⟨n, hn⟩ : ∃ n : Nat, IntKind.u64.wrap x = (n : Int) := ⟨(IntKind.u64.wrap x).toNat, by omega⟩
  rw [hn, show ((n : Int).tmod 4) = ((n % 4 : Nat) : Int) from (Int.ofNat_tmod n 4).symm, w64 _ (by omega) (by omega)]
  exact ⟨n % 4, Nat.mod_lt _ (by decide), rfl⟩

theorem ranksTurns_plain : ∀ x : List Int × List Int × Int, WfL [.slice (.int .i64), .slice (.int .i64), .int .i64] x → f5 fuel x.1 x.2.1 x.2.2 = some true := by
  intro x _
  obtain ⟨x, l, y⟩ := x
  have hf := fuel100
  unfold f5
  rw [f6_true]
  simp only [Option.bind_some]
  rw [if_neg (by simp)]
  rcases f16_spec x with ⟨e, h0, h⟩ | ⟨_, ks, rfl, hk⟩
  · rw [f8_bad h0 h]
    simp [h0]
  · obtain ⟨n, r, k7, k8, n0, n8, r0, r1⟩ := hand_ok hk
    obtain ⟨b, hb, e12⟩ := f12_ok y
    have h5 := hk.2
    have hl5 := l5_all ks hk b hb fuel 0 [] (by omega) (by omega) rfl
    rw [List.drop_zero, List.nil_append] at hl5
    have hl5 : l5_9 fuel (b : Int) (zs ks) (ks.length : Int) 0 [] = _ := hl5
    obtain ⟨t7, t8⟩ := f7_same (hand_turn hk b) hk (fun r _ => rc_turn ks b r) (flush_turn hk b)
    rw [k7] at t7
    rw [k8] at t8
    rw [k8, Option.bind_some, if_neg (by simp), e12, Option.bind_some, length_zs, hl5]
    simp only
    rw [t8, k7, t7]
    simp only [Option.bind_some]
    rw [f9_ok _ (by simp)]
    simp only [Option.bind_some]
    rw [if_pos (by simp), if_pos (by simp), if_neg (by simp)]
    rcases f13_ok hk l with ⟨o, e, h0, h⟩ | ⟨ls, h, hp⟩
    · rw [h]
      simp [h0]
    · obtain ⟨s7, s8⟩ := f7_same (hand_perm hp hk) hk (fun r _ => rc_perm hp r) (flush_perm hp)
      rw [k8] at s8
      rw [h, Option.bind_some, if_neg (by simp), s8, Option.bind_some]
      simp
end Go.Proofs.Ytinkojannlngfaa
