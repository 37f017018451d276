/- The plain law of ReplyEnds. -/
import Derived.Test.YtbcooccafbccdaaGreatDoorWc
import Derived.Test.YtbcooccafbccdaaGreatDoorVmD
namespace Go.Proofs.YtbcooccafbccdaaGreatDoor
open Go Vm

theorem replyFact_true : f_gamehallkeep2_replyFact fuel = some true := by kernel_rfl

theorem range_rt {n : Nat} {R : Nat → Rat} {k : Nat} (h : k < n) : ((List.range n).map fun j => rt (R j)).getD k ByteArray.empty = rt (R k) := by
  rw [getD_eq _ k _ (by rw [List.length_map, List.length_range]; exact h), List.getElem_map, List.getElem_range]

theorem ends_in (n : Nat) (R : Nat → Rat) (L : List Int) (hL : L.length ≤ 6) (hk : ∀ k, k ∈ L → 0 ≤ k ∧ k < (n : Int)) : ∀ (m j : Nat) (acc : List ByteArray), j ≤ L.length → L.length < m + j → acc.length ≤ j →
    ∃ d, l_gamehallkeep2_ReplyEnds_18 m L (L.length : Int) (j : Int) ((List.range n).map fun j => rt (R j)) acc = some (.exit ((List.range n).map fun j => rt (R j), acc ++ ((L.drop j).map fun k => R k.toNat).map rt, d))
  | 0, j, acc, h1, h2, _ => by omega
  | m + 1, j, acc, h1, h2, h3 => by
    simp only [l_gamehallkeep2_ReplyEnds_18]
    by_cases hj : j < L.length
    · have e4 : IntKind.i64.wrap ((j : Int) + 1) = ((j + 1 : Nat) : Int) := by rw [w64 _ (by omega) (by omega)]; omega
      have hmem : L.getD j 0 ∈ L := by rw [getD_eq _ j 0 hj]; exact List.getElem_mem hj
      obtain ⟨k0, k1⟩ := hk _ hmem
      rw [if_pos (by simpa using hj), if_pos (by omega), if_pos (by omega), Int.toNat_natCast, if_pos (by omega), if_pos (by rw [List.length_map, List.length_range]; omega), if_pos (by omega), e4, range_rt (by omega)]
      obtain ⟨d, g⟩ := ends_in n R L hL hk m (j + 1) (acc ++ [rt (R (L.getD j 0).toNat)]) (by omega) (by omega) (by rw [List.length_append, List.length_singleton]; omega)
      refine ⟨d, g.trans ?_⟩
      rw [List.drop_eq_getElem_cons hj, getD_eq _ j 0 hj, List.map_cons, List.map_cons, List.append_assoc, List.singleton_append]
    · rw [if_neg (by simpa using hj), List.drop_of_length_le (by omega)]
      refine ⟨(), ?_⟩
      rw [List.map_nil, List.map_nil, List.append_nil]

/-- The ends among the first nodes. -/
def es (t : List Nd) (R : Nat → Rat) (i : Nat) : List Rat := ((List.range i).filter fun j => decide ((nd t j).1 = 0)).map R
theorem es_succ (t : List Nd) (R : Nat → Rat) (i : Nat) : es t R (i + 1) = es t R i ++ (if (nd t i).1 = 0 then [R i] else []) := by
  unfold es
  rw [List.range_succ, List.filter_append, List.map_append]
  by_cases h : (nd t i).1 = 0
  · rw [if_pos h, List.filter_cons_of_pos (by simpa using h)]; rfl
  · rw [if_neg h, List.filter_cons_of_neg (by simpa using h)]; rfl
theorem es_length (t : List Nd) (R : Nat → Rat) (i : Nat) : (es t R i).length ≤ i := by
  unfold es
  rw [List.length_map]
  exact Nat.le_trans (List.length_filter_le _ _) (by rw [List.length_range]; omega)
theorem es_mem {t : List Nd} {R : Nat → Rat} {i : Nat} {r : Rat} (h : r ∈ es t R i) : ∃ j, j < i ∧ r = R j := by
  unfold es at h
  obtain ⟨j, hj, rfl⟩ := List.mem_map.1 h
  exact ⟨j, List.mem_range.1 (List.mem_filter.1 hj).1, rfl⟩
theorem es_sum (t : List Nd) (R : Nat → Rat) : ∀ i, psum (es t R i) = fs (fun j => if (nd t j).1 = 0 then R j else 0) i
  | 0 => rfl
  | i + 1 => by
    rw [es_succ, fs]
    by_cases h : (nd t i).1 = 0
    · rw [if_pos h, if_pos h, psum_snoc, es_sum t R i]
    · rw [if_neg h, if_neg h, List.append_nil, Rat.add_zero, es_sum t R i]

theorem ends_out {t : List Nd} (hv : V t) (hn : t.length ≤ 40) {ρ : Nat → Nat → Rat} (hp : Prob t ρ) {R : Nat → Rat} (h : RR t ρ t.length R) (ho : ∀ j, j < t.length → OkR (R j)) : ∀ (m i : Nat), i ≤ t.length → t.length + 100 < m + i →
    ∃ d, l_gamehallkeep2_ReplyEnds_12 m t (t.length : Int) (i : Int) ((List.range t.length).map fun j => rt (R j)) ((es t R i).map rt) = some (.exit ((es t R t.length).map rt, d))
  | 0, i, h1, h2 => by omega
  | m + 1, i, h1, h2 => by
    simp only [l_gamehallkeep2_ReplyEnds_12]
    by_cases hj : i < t.length
    · have e4 : IntKind.i64.wrap ((i : Int) + 1) = ((i + 1 : Nat) : Int) := by rw [w64 _ (by omega) (by omega)]; omega
      have hl := es_length t R i
      have hrec := ends_out hv hn hp h ho m (i + 1) (by omega) (by omega)
      rw [if_pos (by simpa using hj), if_pos (by omega), if_pos (by omega), Int.toNat_natCast, e4, show t.getD i (0, (0, (0, ([], ([], ByteArray.empty))))) = nd t i from rfl]
      by_cases c0 : (nd t i).1 = 0
      · rw [if_pos (beq_iff_eq.2 c0), if_pos (by omega), if_pos (by rw [List.length_map, List.length_range]; omega), if_pos (by rw [List.length_map]; omega), range_rt hj]
        rw [es_succ, if_pos c0, List.map_append, List.map_singleton] at hrec
        exact hrec
      · rw [if_neg (fun h => c0 (beq_iff_eq.1 h))]
        have hg := hv.good i hj
        have hk := good_kids hg
        have hne : nx (nd t i) ≠ [] := fun e => c0 ((good_end hg).1 e)
        obtain ⟨d, g⟩ := ends_in t.length R (nx (nd t i)) (good_len hg) (fun k hk' => by have := hk k hk'; omega) m 0 [] (by omega) (by have := good_len hg; omega) (by simp)
        have g : l_gamehallkeep2_ReplyEnds_18 m (nd t i).2.2.2.1 ((nd t i).2.2.2.1.length : Int) 0 ((List.range t.length).map fun j => rt (R j)) [] = _ := g
        rw [g]
        simp only
        rw [List.nil_append, List.drop_zero]
        obtain ⟨D, d1, d2, d3⟩ := rr_zd hv hp.dr h t.length (Nat.le_refl _)
        have hs := kids_sum hp h hj hne
        have hmem : ∀ r, r ∈ (nx (nd t i)).map (fun k => R k.toNat) → ∃ j, j < t.length ∧ r = R j := fun r hr => by
          obtain ⟨k, hk', rfl⟩ := List.mem_map.1 hr
          have := hk k hk'
          exact ⟨k.toNat, by omega, rfl⟩
        have hpk := part_ok d1 (q := 12 * t.length) (by omega) d2 (l := (nx (nd t i)).map fun k => R k.toNat) (fun r hr => by
          obtain ⟨j, hj', rfl⟩ := hmem r hr
          exact ⟨rr_nonneg hv hp h t.length j hj' hj', d3 j hj'⟩) (by rw [hs]; exact rr_le hv hp h t.length i hj hj)
        rcases sum_ok ((nx (nd t i)).map fun k => R k.toNat) (by rw [List.length_map]; have := good_len hg; omega) (fun r hr => by obtain ⟨j, hj', rfl⟩ := hmem r hr; exact ho j hj') with ⟨⟨k, _, hk'⟩, _⟩ | ⟨_, g2⟩
        · exact absurd (hpk k) hk'
        · rw [g2, Option.bind_some]
          simp only
          rw [if_pos (by decide), if_pos (by omega), if_pos (by rw [List.length_map, List.length_range]; omega), range_rt hj, hs, if_neg (by simp)]
          rw [es_succ, if_neg c0, List.append_nil] at hrec
          exact hrec
    · rw [if_neg (by simpa using hj)]
      have : i = t.length := by omega
      subst this
      exact ⟨_, rfl⟩

theorem ends_true (t : List Nd) (a b : List Ch) (ht : WT t) (ha : WS a) (hb : WS b) (hl : (a.length + b.length) * 32 ≤ 140737488351232) : f_gamehallkeep2_ReplyEnds fuel t a b = some true := by
  have hf := fuel_ge (n := 2 ^ 100) (by decide)
  unfold f_gamehallkeep2_ReplyEnds
  rw [replyFact_true, Option.bind_some, if_neg (by decide)]
  obtain ⟨r, hr, hm⟩ := modest_ok ht
  rw [hr, Option.bind_some]
  cases r with
  | false => rfl
  | true =>
    have hm := hm rfl
    rw [if_pos (by decide)]
    obtain ⟨r, hr, hs⟩ := plain_2 ha hb hl
    rw [hr, Option.bind_some]
    cases r with
    | false => rfl
    | true =>
      obtain ⟨sa, sb⟩ := hs rfl
      rw [if_neg (by decide)]
      obtain ⟨e, he, hc⟩ := rpcheck ht ha hb
      by_cases e0 : e = 0
      · subst e0
        obtain ⟨hv, ⟨pa, hpa⟩, pb, hpb⟩ := hc rfl
        have h40 := hm.len
        have hpos := hv.pos
        rcases odds_ok hv hm ⟨hpa, sa⟩ ⟨hpb, sb⟩ he with ⟨e, e0, g⟩ | ⟨R, hR, ho, g⟩
        · rw [g, Option.bind_some, if_pos (by simpa using e0)]; rfl
        · have hp := prob_two hv hm ⟨hpa, sa⟩ ⟨hpb, sb⟩
          rw [g, Option.bind_some, if_neg (by simp)]
          simp only
          have hlen : ((List.range t.length).map fun j => rt (R j)).length = t.length := by rw [List.length_map, List.length_range]
          rw [if_pos (by rw [hlen]; simp), if_pos (by omega), range_rt hpos, hR.root, rt_one, if_neg (by simp)]
          obtain ⟨d, g2⟩ := ends_out hv h40 hp hR ho fuel 0 (by omega) (by omega)
          have g2 : l_gamehallkeep2_ReplyEnds_12 fuel t (t.length : Int) 0 ((List.range t.length).map fun j => rt (R j)) [] = _ := g2
          rw [g2]
          simp only
          obtain ⟨D, d1, d2, d3⟩ := rr_zd hv hp.dr hR t.length (Nat.le_refl _)
          have hone : psum (es t R t.length) = 1 := by rw [es_sum]; exact ends_one hv hp hR
          have hpk := part_ok d1 (q := 12 * t.length) (by omega) d2 (l := es t R t.length) (fun r hr => by
            obtain ⟨j, hj', rfl⟩ := es_mem hr
            exact ⟨rr_nonneg hv hp hR t.length j hj' hj', d3 j hj'⟩) (by rw [hone]; exact Rat.le_refl)
          rw [odds_true (es t R t.length) (by have := es_length t R t.length; omega) (fun r hr => by obtain ⟨j, hj', rfl⟩ := es_mem hr; exact ho j hj') (fun r hr => by
            obtain ⟨j, hj', rfl⟩ := es_mem hr
            exact rr_nonneg hv hp hR t.length j hj' hj') hone (fun k _ => hpk k), Option.bind_some]
          rfl
      · have g : f_reply_Odds fuel t a b = some ([], e) := by
          unfold f_reply_Odds
          rw [he, Option.bind_some, if_pos (by simpa using e0)]
        rw [g, Option.bind_some, if_pos (by simpa using e0)]; rfl

theorem wt_of' {t : List Nd} (h : Wf (.slice (.pair (.int .i64) (.pair (.int .i64) (.pair (.int .i64) (.pair (.slice (.int .i64)) (.pair (.slice .str) .str)))))) t) : WT t := by
  obtain ⟨h1, h2⟩ := h
  have e : ∀ (n b : Nat), 1 ≤ b → n * b ≤ 140737488351232 → n ≤ 140737488351232 := fun n b hb h => Nat.le_trans (Nat.le_mul_of_pos_right n hb) h
  refine ⟨e _ _ (by decide) h1, fun x hx => ?_, fun x hx => ?_, fun x hx s hs => ?_, fun x hx => ?_⟩
  · exact e _ _ (by decide) (h2 x hx).2.2.2.1.1
  · exact e _ _ (by decide) (h2 x hx).2.2.2.2.1.1
  · exact Nat.le_trans ((h2 x hx).2.2.2.2.1.2 s hs) (by decide)
  · exact Nat.le_trans (h2 x hx).2.2.2.2.2 (by decide)

theorem ws_of' {s : List Ch} (h : Wf (.slice (.pair (.int .i64) (.slice .str))) s) : WS s := by
  obtain ⟨h1, h2⟩ := h
  have e : ∀ (n b : Nat), 1 ≤ b → n * b ≤ 140737488351232 → n ≤ 140737488351232 := fun n b hb h => Nat.le_trans (Nat.le_mul_of_pos_right n hb) h
  refine ⟨?_, fun c hc => e _ _ (by decide) (h2 c hc).2.1, fun c hc x hx => Nat.le_trans ((h2 c hc).2.2 x hx) (by decide)⟩
  have h1 : s.length * 32 ≤ 140737488351232 := h1
  omega

theorem replyEnds_upto : ∀ x : List Nd × (List Ch × List Ch), WfL [.slice (.pair (.int .i64) (.pair (.int .i64) (.pair (.int .i64) (.pair (.slice (.int .i64)) (.pair (.slice .str) .str))))), .slice (.pair (.int .i64) (.slice .str)), .slice (.pair (.int .i64) (.slice .str))] x →
    Small 1048576 [.slice (.pair (.int .i64) (.pair (.int .i64) (.pair (.int .i64) (.pair (.slice (.int .i64)) (.pair (.slice .str) .str))))), .slice (.pair (.int .i64) (.slice .str)), .slice (.pair (.int .i64) (.slice .str))] x → f_gamehallkeep2_ReplyEnds fuel x.1 x.2.1 x.2.2 = some true :=
  fun x h hs => ends_true x.1 x.2.1 x.2.2 (wt_of' h.1) (ws_of' h.2.1) (ws_of' h.2.2) (by
    have h1 : x.2.1.length ≤ 1048576 := hs.2.1
    have h2 : x.2.2.length ≤ 1048576 := hs.2.2
    omega)

end Go.Proofs.YtbcooccafbccdaaGreatDoor
