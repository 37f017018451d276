/- Class and value of a hand; the plain law of RanksClassed. -/
import Derived.Test.YtinkojannlngfaaG
import Derived.Test.YtinkojannlngfaaVmD
namespace Go.Proofs.Ytinkojannlngfaa
open Go Vm

def Hand (ks : List Nat) : Prop := Deck ks ∧ ks.length = 5

theorem f16_spec (l : List Int) : (∃ e : Int, e ≠ 0 ∧ f16 fuel l = some e) ∨ (f16 fuel l = some 0 ∧ ∃ ks, l = zs ks ∧ Hand ks) := by
  unfold f16
  rcases f22_spec l with ⟨e, h0, h⟩ | ⟨h, ks, rfl, hd⟩
  · rw [h, Option.bind_some, if_pos (by simpa using h0)]
    exact .inl ⟨e, h0, rfl⟩
  · rw [h, Option.bind_some, if_neg (by simp), length_zs]
    by_cases hl : ks.length = 5
    · rw [if_neg (by simp; omega)]
      exact .inr ⟨rfl, ks, rfl, hd, hl⟩
    · rw [if_pos (by simp; omega)]
      exact .inl ⟨3, by decide, rfl⟩
theorem f16_ok {ks : List Nat} (h : Hand ks) : f16 fuel (zs ks) = some 0 := by
  unfold f16
  rw [f22_ok h.1, Option.bind_some, if_neg (by simp), length_zs, if_neg (by simp; have := h.2; omega)]

theorem sum_rc {ks : List Nat} : sumTo 13 (rc ks) = ks.length := by
  unfold rc
  rw [sum_cnt _ _ fun c hc => by
    obtain ⟨d, _, rfl⟩ := List.mem_map.1 hc
    exact Nat.mod_lt _ (by decide), List.length_map]

/-- What holds of the groups of five cards. -/
structure Groups (g : List (Int × Int)) : Prop where
  pos : 0 < g.length
  two : 1 < g.length ∨ (g.getD 0 (0, 0)).1 = 5
  rank : ∀ i, 0 ≤ (g.getD i (0, 0)).2 ∧ (g.getD i (0, 0)).2 < 13

theorem perm_sum1 {a b : List (Int × Int)} (h : a.Perm b) : sum1 a = sum1 b := by
  unfold sum1
  induction h with
  | nil => rfl
  | cons x _ ih => simp only [List.map_cons, List.sum_cons, ih]
  | swap x y l => simp only [List.map_cons, List.sum_cons]; omega
  | trans _ _ i1 i2 => rw [i1, i2]

theorem groups_ok {ks : List Nat} (h : ks.length = 5) : ∃ g, f18 fuel (zs ks) = some g ∧ Groups g := by
  rw [f18_ok (by omega)]
  obtain ⟨g, hg, hp⟩ := grp_ok (rc ks)
  have hs : sum1 g = 5 := by rw [perm_sum1 hp, gl_sum, sum_rc, h]; rfl
  refine ⟨g, hg, ?_, ?_, ?_⟩
  · match g, hs with
    | [], hs => exact absurd hs (by decide)
    | x :: l, _ => simp
  · match g, hs with
    | [], hs => exact absurd hs (by decide)
    | [x], hs => right; simpa [sum1] using hs
    | x :: y :: l, _ => left; simp
  · intro i
    by_cases hi : i < g.length
    · rw [getD_eq _ _ _ hi]
      obtain ⟨j, hj, e, _⟩ := gl_mem (hp.mem_iff.1 (List.getElem_mem hi))
      rw [e]
      exact ⟨by simp, by simp; omega⟩
    · rw [List.getD_eq_getElem?_getD, List.getElem?_eq_none (by omega)]
      exact ⟨by simp, by simp⟩

/-! Flush. -/
def flush (ks : List Nat) : Bool := decide (∀ c, c ∈ ks → ∀ d, d ∈ ks → c / 13 = d / 13)

theorem f27_ok {c : Nat} (h : c < 52) : f27 fuel (c : Int) = some ((c / 13 : Nat) : Int) := by
  unfold f27
  rw [show ((c : Int).tdiv 13) = ((c / 13 : Nat) : Int) from (Int.ofNat_tdiv c 13).symm, w64 _ (by omega) (by omega)]

theorem l17_all (ks : List Nat) (h : Hand ks) : ∀ (m i : Nat) (b : Bool), i ≤ ks.length → ks.length < m + i →
    l17_3 m (zs ks) b (zs ks) (ks.length : Int) (i : Int) = some (.exit (b && decide (∀ c, c ∈ ks.drop i → c / 13 = ks.getD 0 0 / 13), ()))
  | 0, i, b, h1, h2 => by omega
  | m + 1, i, b, h1, h2 => by
    simp only [l17_3]
    have hl := h.2
    by_cases hi : i < ks.length
    · have hc := h.1.2.1 ks[i] (List.getElem_mem hi)
      have h0 := h.1.2.1 ks[0] (List.getElem_mem (by omega))
      rw [if_pos (by simpa using hi), if_pos (by omega), length_zs, if_pos (by omega), w64 _ (by omega) (by omega), show ((i : Int) + 1) = ((i + 1 : Nat) : Int) by omega]
      cases b with
      | true =>
        rw [if_pos rfl, if_pos (by omega), Int.toNat_natCast, getD_zs, getD_zs, getD_eq ks i 0 hi, getD_eq ks 0 0 (by omega), f27_ok hc, f27_ok h0, Option.bind_some, Option.bind_some, l17_all ks h m (i + 1) _ (by omega) (by omega), List.drop_eq_getElem_cons hi,
          getD_eq ks 0 0 (by omega)]
        congr 3
        rw [Bool.true_and]
        have hb : (((ks[i] / 13 : Nat) : Int) == ((ks[0] / 13 : Nat) : Int)) = decide (ks[i] / 13 = ks[0] / 13) := by
          by_cases e : ks[i] / 13 = ks[0] / 13
          · rw [e]; simp
          · rw [decide_eq_false e]
            simp only [beq_eq_false_iff_ne, ne_eq]
            intro hh; exact e (by omega)
        rw [hb, ← Bool.decide_and]
        congr 1
        simp only [List.mem_cons, forall_eq_or_imp]
      | false =>
        rw [if_neg (by simp), l17_all ks h m (i + 1) _ (by omega) (by omega)]
        simp
    · rw [if_neg (by simpa using hi), List.drop_of_length_le (by omega)]
      simp

theorem l17_ok {ks : List Nat} (h : Hand ks) : l17_3 fuel (zs ks) true (zs ks) ((zs ks).length : Int) 0 = some (.exit (flush ks, ())) := by
  have hf := fuel100
  have hl := h.2
  have k := l17_all ks h fuel 0 true (by omega) (by omega)
  rw [List.drop_zero, Bool.true_and] at k
  rw [length_zs]
  have k : l17_3 fuel (zs ks) true (zs ks) (ks.length : Int) 0 = _ := k
  rw [k]
  congr 3
  unfold flush
  have hm : ks.getD 0 0 ∈ ks := by rw [getD_eq ks 0 0 (by omega)]; exact List.getElem_mem _
  exact decide_eq_decide.2 ⟨fun q c hc d hd => (q c hc).trans (q d hd).symm, fun q c hc => q c hc _ hm⟩

theorem f28_ok {g : List (Int × Int)} (h : Groups g) : ∃ t : Int, f28 fuel g = some t ∧ -1 ≤ t ∧ t < 13 := by
  unfold f28
  have r0 := h.rank 0
  by_cases hl : g.length = 5
  · have c0 : (0 : Int) < g.length := by omega
    have c1 : (1 : Int) < g.length := by omega
    have c4 : (4 : Int) < g.length := by omega
    rw [if_neg (by simp; omega)]
    simp only [if_pos c0, if_pos c1, if_pos c4]
    repeat' split
    · exact ⟨_, rfl, by omega, by omega⟩
    all_goals exact ⟨_, rfl, by decide, by decide⟩
  · rw [if_pos (by simp; omega)]
    exact ⟨_, rfl, by decide, by decide⟩

theorem f17_ok {ks : List Nat} (hk : Hand ks) {g : List (Int × Int)} (h : Groups g) : ∃ n : Int, f17 fuel (zs ks) g = some n ∧ 0 ≤ n ∧ n ≤ 8 := by
  unfold f17
  rw [l17_ok hk]
  obtain ⟨t, ht, _⟩ := f28_ok h
  have h0 : (0 : Int) < g.length := by have := h.pos; omega
  simp only [ht, Option.bind_some, if_pos h0]
  by_cases h1 : (1 : Int) < g.length
  · simp only [if_pos h1]
    repeat' split
    all_goals exact ⟨_, rfl, by decide, by decide⟩
  · have h5 : (g.getD 0 (0, 0)).1 = 5 := h.two.resolve_left (by omega)
    simp only [h5]
    repeat' split
    all_goals first | exact ⟨_, rfl, by decide, by decide⟩ | (rename_i q; exact absurd q (by decide))

theorem f17_congr {ks ls : List Nat} (hk : Hand ks) (hl : Hand ls) (e : flush ks = flush ls) (g : List (Int × Int)) : f17 fuel (zs ks) g = f17 fuel (zs ls) g := by
  unfold f17
  rw [l17_ok hk, l17_ok hl, e]

/-! The value. -/
theorem l19_step {b : List (Int × Int)} (hb : ∀ i, 0 ≤ (b.getD i (0, 0)).2 ∧ (b.getD i (0, 0)).2 < 13) (m i : Nat) (acc : Int) (hi : i < 5) (h0 : 0 ≤ acc) (h1 : acc ≤ 100000000) :
    ∃ d : Int, 0 ≤ d ∧ d < 13 ∧ l19_7 (m + 1) acc (i : Int) b = l19_7 m (acc * 13 + d) ((i + 1 : Nat) : Int) b := by
  simp only [l19_7]
  have := hb i
  rw [if_pos (by simp; omega), w64 ((i : Int) + 1) (by omega) (by omega), w64 (acc * 13) (by omega) (by omega), show ((i : Int) + 1) = ((i + 1 : Nat) : Int) by omega]
  by_cases hl : i < b.length
  · refine ⟨(b.getD i (0, 0)).2, this.1, this.2, ?_⟩
    rw [if_pos (by simpa using hl), if_pos (by omega), if_pos (by omega), Int.toNat_natCast, w64 _ (by omega) (by omega)]
  · refine ⟨0, by decide, by decide, ?_⟩
    rw [if_neg (by simpa using hl), Int.add_zero]

theorem l19_ok {b : List (Int × Int)} (hb : ∀ i, 0 ≤ (b.getD i (0, 0)).2 ∧ (b.getD i (0, 0)).2 < 13) (n : Int) (h0 : 0 ≤ n) (h8 : n ≤ 8) :
    ∃ r : Int, 0 ≤ r ∧ r < 371293 ∧ l19_7 fuel n 0 b = some (.exit (n * 371293 + r, b, ())) := by
  obtain ⟨m, hm⟩ := fuel_split (n := 6) (by decide)
  rw [hm]
  obtain ⟨d0, a0, b0, e0⟩ := l19_step hb (m + 5) 0 n (by omega) h0 (by omega)
  obtain ⟨d1, a1, b1, e1⟩ := l19_step hb (m + 4) 1 (n * 13 + d0) (by omega) (by omega) (by omega)
  obtain ⟨d2, a2, b2, e2⟩ := l19_step hb (m + 3) 2 ((n * 13 + d0) * 13 + d1) (by omega) (by omega) (by omega)
  obtain ⟨d3, a3, b3, e3⟩ := l19_step hb (m + 2) 3 (((n * 13 + d0) * 13 + d1) * 13 + d2) (by omega) (by omega) (by omega)
  obtain ⟨d4, a4, b4, e4⟩ := l19_step hb (m + 1) 4 ((((n * 13 + d0) * 13 + d1) * 13 + d2) * 13 + d3) (by omega) (by omega) (by omega)
  refine ⟨d0 * 28561 + d1 * 2197 + d2 * 169 + d3 * 13 + d4, by omega, by omega, ?_⟩
  have ee : ((((n * 13 + d0) * 13 + d1) * 13 + d2) * 13 + d3) * 13 + d4 = n * 371293 + (d0 * 28561 + d1 * 2197 + d2 * 169 + d3 * 13 + d4) := by omega
  have e0 : l19_7 (m + 6) n 0 b = _ := e0
  rw [e0, e1, e2, e3, e4]
  simp only [l19_7]
  rw [if_neg (by simp), ee]

theorem f19_ok {ks : List Nat} (h : Hand ks) : ∃ g n r : _, f18 fuel (zs ks) = some g ∧ f17 fuel (zs ks) g = some n ∧ 0 ≤ n ∧ n ≤ 8 ∧ 0 ≤ r ∧ r < 371293 ∧ f19 fuel (zs ks) = some (n * 371293 + r) := by
  obtain ⟨g, hg, G⟩ := groups_ok h.2
  obtain ⟨n, hn, n0, n8⟩ := f17_ok h G
  obtain ⟨t, ht, t1, t2⟩ := f28_ok G
  unfold f19
  rw [hg, Option.bind_some, hn, Option.bind_some, ht, Option.bind_some]
  by_cases h0 : 0 ≤ t
  · have hb : ∀ i, 0 ≤ (([(1, t)] : List (Int × Int)).getD i (0, 0)).2 ∧ (([(1, t)] : List (Int × Int)).getD i (0, 0)).2 < 13 := by
      intro i
      match i with
      | 0 => exact ⟨h0, t2⟩
      | i + 1 => exact ⟨by simp, by simp⟩
    obtain ⟨r, r0, r1, e⟩ := l19_ok hb n n0 n8
    rw [if_pos (by simpa using h0), e]
    exact ⟨g, n, r, rfl, hn, n0, n8, r0, r1, rfl⟩
  · obtain ⟨r, r0, r1, e⟩ := l19_ok G.rank n n0 n8
    rw [if_neg (by simpa using h0), e]
    exact ⟨g, n, r, rfl, hn, n0, n8, r0, r1, rfl⟩

theorem hand_ok {ks : List Nat} (h : Hand ks) : ∃ n r : Int, f7 fuel (zs ks) = some (n, 0) ∧ f8 fuel (zs ks) = some (n * 371293 + r, 0) ∧ 0 ≤ n ∧ n ≤ 8 ∧ 0 ≤ r ∧ r < 371293 := by
  obtain ⟨g, n, r, hg, hn, n0, n8, r0, r1, hv⟩ := f19_ok h
  refine ⟨n, r, ?_, ?_, n0, n8, r0, r1⟩
  · unfold f7
    rw [f16_ok h, Option.bind_some, if_neg (by simp), hg, Option.bind_some, hn, Option.bind_some]
  · unfold f8
    rw [f16_ok h, Option.bind_some, if_neg (by simp), hv, Option.bind_some]
theorem f7_bad {l : List Int} {e : Int} (h0 : e ≠ 0) (h : f16 fuel l = some e) : f7 fuel l = some (0, e) := by
  unfold f7
  rw [h, Option.bind_some, if_pos (by simpa using h0)]
theorem f8_bad {l : List Int} {e : Int} (h0 : e ≠ 0) (h : f16 fuel l = some e) : f8 fuel l = some (0, e) := by
  unfold f8
  rw [h, Option.bind_some, if_pos (by simpa using h0)]

theorem f6_true : f6 fuel = some true := by kernel_rfl

theorem ranksClassed_plain : ∀ x : List Int × List Int, WfL [.slice (.int .i64), .slice (.int .i64)] x → f3 fuel x.1 x.2 = some true := by
  intro x _
  obtain ⟨x, y⟩ := x
  unfold f3
  rw [f6_true]
  simp only [Option.bind_some]
  rw [if_neg (by simp)]
  rcases f16_spec x with ⟨e, h0, h⟩ | ⟨_, a, rfl, h⟩
  · rw [f7_bad h0 h, f8_bad h0 h]
    rcases f16_spec y with ⟨e', h0', h'⟩ | ⟨_, b, rfl, h'⟩
    · rw [f7_bad h0' h', f8_bad h0' h']
      simp only [Option.bind_some]
      rw [f9_ok _ (by simp)]
      simp [h0]
    · obtain ⟨n, r, k7, k8, _⟩ := hand_ok h'
      rw [k7, k8]
      simp only [Option.bind_some]
      rw [f9_ok _ (by simp)]
      simp [h0]
  · obtain ⟨n, r, k7, k8, n0, n8, r0, r1⟩ := hand_ok h
    rw [k7, k8]
    rcases f16_spec y with ⟨e', h0', h'⟩ | ⟨_, b, rfl, h'⟩
    · rw [f7_bad h0' h', f8_bad h0' h']
      simp only [Option.bind_some]
      rw [f9_ok _ (by simp)]
      simp [h0']
    · obtain ⟨n', r', k7', k8', n0', n8', r0', r1'⟩ := hand_ok h'
      rw [k7', k8']
      simp only [Option.bind_some]
      rw [f9_ok _ (by simp)]
      simp only [Option.bind_some]
      rw [if_neg (by simp), if_pos (by simp)]
      by_cases c1 : n ≤ n'
      · rw [if_neg (by simp [c1])]
        by_cases c2 : n' ≤ n
        · rw [if_neg (by simp [c2])]
        · rw [if_pos (by simpa using c2)]
          simp; omega
      · rw [if_pos (by simpa using c1), if_pos (by simp; omega), if_neg (by simp; omega)]
end Go.Proofs.Ytinkojannlngfaa
