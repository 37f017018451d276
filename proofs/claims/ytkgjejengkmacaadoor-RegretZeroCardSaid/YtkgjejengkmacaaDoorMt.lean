/- The plain law of RegretMatched. -/
import Derived.Test.YtkgjejengkmacaaDoorQf
import Derived.Test.YtkgjejengkmacaaDoorVmD
namespace Go.Proofs.YtkgjejengkmacaaDoor
open Go Vm

theorem regretFact_true : f_gamehallkeep2_regretFact fuel = some true := by kernel_rfl

def neg0 (r : Rat) : Rat := if r < 0 then 0 else r
theorem neg0_nonneg (r : Rat) : 0 ≤ neg0 r := by unfold neg0; split <;> grind
theorem neg0_dr {r : Rat} {k : Nat} (h : Dr k r) (hk : 1 ≤ k) : Dr k (neg0 r) := by unfold neg0; split; exact dr_zero hk; exact h

/-- Is nothing regretted? -/
def allNeg (r : Nat → Rat) (i : Nat) : Bool := (List.range i).all fun j => decide (r j ≤ 0)
theorem allNeg_succ (r : Nat → Rat) (i : Nat) : allNeg r (i + 1) = (allNeg r i && decide (r i ≤ 0)) := by
  unfold allNeg; rw [List.range_succ, List.all_append]; simp
theorem allNeg_true {r : Nat → Rat} {n : Nat} : allNeg r n = true ↔ ∀ i, i < n → r i ≤ 0 := by
  unfold allNeg; simp [List.all_eq_true]

theorem match11 (n : Nat) (hn : n ≤ 100) (r : Nat → Rat) : ∀ (m i : Nat) (qs : List Qd), i ≤ n → n < m + i → QF n (fun j => if j < i then neg0 (r j) else r j) qs →
    ∃ qs', l_regret_Match_11 m (allNeg r i) (n : Int) (i : Int) qs = some (.exit (allNeg r n, qs', ())) ∧ QF n (fun j => neg0 (r j)) qs'
  | 0, i, qs, h1, h2, _ => by omega
  | m + 1, i, qs, h1, h2, hq => by
    simp only [l_regret_Match_11]
    by_cases hi : i < n
    · have e4 : IntKind.i64.wrap ((i : Int) + 1) = ((i + 1 : Nat) : Int) := by rw [w64 _ (by omega) (by omega)]; omega
      have hqi := hq.at hi
      simp only [Nat.lt_irrefl, if_false] at hqi
      have hs := qsign_ok hqi
      have hl := hq.1
      rw [if_pos (by simpa using hi), if_pos (by omega), if_pos (by omega), Int.toNat_natCast, hs, Option.bind_some, e4]
      by_cases c : r i < 0
      · have c0 : neg0 (r i) = 0 := if_pos c
        have hq2 : QF n (fun j => if j < i + 1 then neg0 (r j) else r j) (qs.set i (false, ([], []))) := (hq.set hi qr_zero).ext fun j hj => by
          by_cases e : j = i
          · subst e; simp [c0]
          · by_cases e2 : j < i
            · rw [if_neg e, if_pos e2, if_pos (by omega)]
            · rw [if_neg e, if_neg e2, if_neg (by omega)]
        rw [if_pos (decide_eq_true (Classical.byContradiction fun h => absurd (nonneg_num.1 h) (by grind))), if_pos (by omega), if_pos (by omega)]
        have ih := match11 n hn r m (i + 1) _ (by omega) (by omega) hq2
        rw [allNeg_succ] at ih
        cases hb : allNeg r i with
        | true =>
          rw [hb, Bool.true_and] at ih
          have e : decide ((r i).num.sign ≤ 0) = decide (r i ≤ 0) := decide_eq_decide.2 npos_num
          rw [if_pos rfl, Option.bind_some, e]
          exact ih
        | false =>
          rw [hb, Bool.false_and] at ih
          rw [if_neg (by decide)]
          exact ih
      · have c0 : neg0 (r i) = r i := if_neg c
        have hq2 : QF n (fun j => if j < i + 1 then neg0 (r j) else r j) qs := hq.ext fun j hj => by
          by_cases e : j = i
          · subst e; simp [c0]
          · by_cases e2 : j < i
            · rw [if_pos e2, if_pos (by omega)]
            · rw [if_neg e2, if_neg (by omega)]
        rw [if_neg (fun h => absurd (of_decide_eq_true h) (nonneg_num.2 (by grind)))]
        have ih := match11 n hn r m (i + 1) _ (by omega) (by omega) hq2
        rw [allNeg_succ] at ih
        cases hb : allNeg r i with
        | true =>
          rw [hb, Bool.true_and] at ih
          have e : decide ((r i).num.sign ≤ 0) = decide (r i ≤ 0) := decide_eq_decide.2 npos_num
          rw [if_pos rfl, Option.bind_some, e]
          exact ih
        | false =>
          rw [hb, Bool.false_and] at ih
          rw [if_neg (by decide)]
          exact ih
    · rw [if_neg (by simpa using hi)]
      have : i = n := by omega
      subst this
      exact ⟨qs, rfl, hq.ext fun j hj => if_pos hj⟩

theorem qr_one' : QR 1 (false, (zs (cn 1), zs (cn 1))) := ⟨by decide, by rfl, .inl (by rfl)⟩
theorem int_one' : f_rat_Int fuel 1 = some (false, (zs (cn 1), zs (cn 1))) := by
  unfold f_rat_Int
  rw [if_neg (by decide), of_one]; rfl
theorem dr_one' : Dr 1 1 := dr_nat (n := 1) (by decide) (by decide)

theorem match19 (n : Nat) (hn : n ≤ 100) (b : Bool) (g : Nat → Rat) (f : Nat → Rat) (hg : ∀ j, g j = if b = true then 1 else f j) {k : Nat} (hk : 1 ≤ k ∧ k ≤ 2000) (hd : ∀ j, j < n → Dr k (f j)) : ∀ (m i : Nat) (qs : List Qd) (x : Qd), i ≤ n → n < m + i →
    QF n (fun j => if j < i then g j else f j) qs → QR (fs g i) x →
    ∃ qs' y, l_regret_Match_19 m b (n : Int) (i : Int) qs x.1 x.2.1 x.2.2 = some (.exit (qs', y.1, y.2.1, y.2.2, ())) ∧ QF n g qs' ∧ QR (fs g n) y
  | 0, i, qs, x, h1, h2, _, _ => by omega
  | m + 1, i, qs, x, h1, h2, hq, hx => by
    simp only [l_regret_Match_19]
    have hdg : ∀ j, j < n → Dr k (g j) := fun j hj => by
      rw [hg j]
      split
      · exact dr_mono hk.1 dr_one'
      · exact hd j hj
    by_cases hi : i < n
    · have e4 : IntKind.i64.wrap ((i : Int) + 1) = ((i + 1 : Nat) : Int) := by rw [w64 _ (by omega) (by omega)]; omega
      have hl := hq.1
      have hfs : Dr (2001 * 100 + 1) (fs g i) := dr_mono (by
        have : (k + 1) * i ≤ 2001 * 100 := Nat.mul_le_mul (by omega) (by omega)
        omega) (dr_fs (n := i) fun j hj => hdg j (by omega))
      have hdi := hdg i hi
      have hx' : QR (fs g i) (x.1, (x.2.1, x.2.2)) := hx
      rw [if_pos (by simpa using hi), e4, Int.toNat_natCast]
      cases b with
      | true =>
        have g1 : g i = 1 := by rw [hg i, if_pos rfl]
        have hq2 := hq.set hi qr_one'
        have hqi := hq2.at hi
        rw [if_pos rfl] at hqi
        rw [g1] at hdi
        obtain ⟨y, hy, hyq⟩ := qadd_ok hx' hqi hfs hdi (by omega)
        rw [if_pos rfl, int_one', Option.bind_some, if_pos (by omega), if_pos (by omega), if_pos (by omega), if_pos (by rw [List.length_set]; omega), hy, Option.bind_some]
        refine match19 n hn true g f hg hk hd m (i + 1) _ y (by omega) (by omega) (hq2.ext fun j hj => ?_) (by rw [fs, g1]; exact hyq)
        by_cases e : j = i
        · subst e; rw [if_pos rfl, if_pos (by omega), g1]
        · by_cases e2 : j < i
          · rw [if_neg e, if_pos e2, if_pos (by omega)]
          · rw [if_neg e, if_neg e2, if_neg (by omega)]
      | false =>
        have g1 : g i = f i := by rw [hg i, if_neg (by decide)]
        have hqi := hq.at hi
        rw [if_neg (by omega), ← g1] at hqi
        obtain ⟨y, hy, hyq⟩ := qadd_ok hx' hqi hfs hdi (by omega)
        rw [if_neg (by decide), if_pos (by omega), if_pos (by omega), hy, Option.bind_some]
        refine match19 n hn false g f hg hk hd m (i + 1) _ y (by omega) (by omega) (hq.ext fun j hj => ?_) (by rw [fs]; exact hyq)
        by_cases e : j = i
        · subst e; rw [if_neg (by omega), if_pos (by omega), g1]
        · by_cases e2 : j < i
          · rw [if_pos e2, if_pos (by omega)]
          · rw [if_neg e2, if_neg (by omega)]
    · rw [if_neg (by simpa using hi)]
      have : i = n := by omega
      subst this
      exact ⟨qs, x, rfl, hq.ext fun j hj => if_pos hj, hx⟩

theorem match26 (n : Nat) (hn : n ≤ 100) (g : Nat → Rat) (s : Rat) (hs0 : s ≠ 0) (x : Qd) (hx : QR s x) {k : Nat} (hk : k ≤ 2000000) (hd : ∀ j, j < n → Dr k (g j)) (hs : Dr k s) : ∀ (m i : Nat) (qs : List Qd), i ≤ n → n < m + i →
    QF n (fun j => if j < i then g j / s else g j) qs →
    ∃ qs' d, l_regret_Match_26 m (n : Int) (i : Int) qs x.1 x.2.1 x.2.2 = some (.exit (qs', d)) ∧ QF n (fun j => g j / s) qs'
  | 0, i, qs, h1, h2, _ => by omega
  | m + 1, i, qs, h1, h2, hq => by
    simp only [l_regret_Match_26]
    by_cases hi : i < n
    · have e4 : IntKind.i64.wrap ((i : Int) + 1) = ((i + 1 : Nat) : Int) := by rw [w64 _ (by omega) (by omega)]; omega
      have hl := hq.1
      have hqi := hq.at hi
      rw [if_neg (by omega)] at hqi
      obtain ⟨y, hy, hyq⟩ := qquo_ok hqi hx (hd i hi) hs (by omega) hs0
      have hy : f_rat_Q_Quo fuel ((qs.getD i (false, ([], []))).1, ((qs.getD i (false, ([], []))).2)) (x.1, (x.2.1, x.2.2)) = some y := hy
      rw [if_pos (by simpa using hi), if_pos (by omega), if_pos (by omega), Int.toNat_natCast, hy, Option.bind_some, if_pos (by omega), if_pos (by omega), e4]
      refine match26 n hn g s hs0 x hx hk hd hs m (i + 1) _ (by omega) (by omega) ((hq.set hi hyq).ext fun j hj => ?_)
      by_cases e : j = i
      · subst e; rw [if_pos rfl, if_pos (by omega)]
      · by_cases e2 : j < i
        · rw [if_neg e, if_pos e2, if_pos (by omega)]
        · rw [if_neg e, if_neg e2, if_neg (by omega)]
    · rw [if_neg (by simpa using hi)]
      have : i = n := by omega
      subst this
      exact ⟨qs, _, rfl, hq.ext fun j hj => if_pos hj⟩

/-- What is played where something is regretted, and where nothing is. -/
def gm (r : Nat → Rat) (n : Nat) (j : Nat) : Rat := if allNeg r n = true then 1 else neg0 (r j)
theorem gm_nonneg (r : Nat → Rat) (n j : Nat) : 0 ≤ gm r n j := by unfold gm; split; decide; exact neg0_nonneg _
theorem gm_pos {r : Nat → Rat} {n : Nat} (hn : 0 < n) : 0 < fs (gm r n) n := by
  have h0 : ∀ i, i < n → 0 ≤ gm r n i := fun i _ => gm_nonneg r n i
  cases hb : allNeg r n with
  | true =>
    have h1 := fs_ge h0 hn
    have : gm r n 0 = 1 := by unfold gm; rw [if_pos hb]
    rw [this] at h1
    grind
  | false =>
    have : ¬ ∀ i, i < n → r i ≤ 0 := fun h => by rw [allNeg_true.2 h] at hb; cases hb
    obtain ⟨i, hi⟩ := Classical.not_forall.1 this
    obtain ⟨hin, hri⟩ := Classical.not_imp.1 hi
    have h1 := fs_ge h0 hin
    have : gm r n i = r i := by
      unfold gm neg0
      rw [if_neg (by rw [hb]; decide), if_neg (by grind)]
    rw [this] at h1
    grind

theorem match_spec {l : List ByteArray} (hl : l.length ≤ 4611686018427387904) (hb : ∀ s, s ∈ l → s.size ≤ 900000000000000) :
    (∃ e : Int, e ≠ 0 ∧ f_regret_Match fuel l = some ([], e)) ∨
    ∃ rs : List Rat, l = rs.map rt ∧ 0 < rs.length ∧ rs.length ≤ 12 ∧ (∀ r, r ∈ rs → OkR r) ∧
      (∀ j, j < rs.length → OkR (gm (fun i => rs.getD i 0) rs.length j / fs (gm (fun i => rs.getD i 0) rs.length) rs.length)) ∧
      f_regret_Match fuel l = some (((List.range rs.length).map fun j => gm (fun i => rs.getD i 0) rs.length j / fs (gm (fun i => rs.getD i 0) rs.length) rs.length).map rt, 0) := by
  have hf := fuel_ge (n := 2 ^ 100) (by decide)
  unfold f_regret_Match
  by_cases h0 : l.length = 0
  · rw [if_pos (by rw [beq_iff_eq]; omega)]
    exact .inl ⟨8, by decide, rfl⟩
  rw [if_neg (by rw [beq_iff_eq]; omega)]
  by_cases h12 : l.length ≤ 12
  · rw [if_neg (by rw [decide_eq_true_eq]; omega)]
    rcases checkVec_spec l hl hb with ⟨e, e0, g⟩ | ⟨g, _, rs, rfl, hok⟩
    · rw [g, Option.bind_some, if_pos (by simpa using e0)]
      exact .inl ⟨e, e0, rfl⟩
    · rw [List.length_map] at h0 h12
      rw [g, Option.bind_some, if_neg (by decide)]
      obtain ⟨qs, gr, hq⟩ := row_ok rs (by omega) hok
      rw [gr, Option.bind_some]
      have hqf := QF.of hq
      obtain ⟨q1, g1, h1⟩ := match11 rs.length (by omega) (fun i => rs.getD i 0) fuel 0 qs (by omega) (by omega) (hqf.ext fun j hj => (if_neg (by omega)).symm)
      have g1 : l_regret_Match_11 fuel true (rs.length : Int) 0 qs = _ := g1
      rw [hqf.1, g1]
      simp only
      have hrd : ∀ j, j < rs.length → Dr 2000 (rs.getD j 0) := fun j hj => okr_dr (hok _ (by rw [getD_eq rs j 0 hj]; exact List.getElem_mem hj))
      obtain ⟨q2, y, g2, h2, hy⟩ := match19 rs.length (by omega) (allNeg (fun i => rs.getD i 0) rs.length) (gm (fun i => rs.getD i 0) rs.length) (fun j => neg0 (rs.getD j 0)) (fun j => rfl) (k := 2000) (by omega)
        (fun j hj => neg0_dr (hrd j hj) (by omega)) fuel 0 q1 (false, [], []) (by omega) (by omega) (h1.ext fun j hj => (if_neg (by omega)).symm) qr_zero
      have g2 : l_regret_Match_19 fuel (allNeg (fun i => rs.getD i 0) rs.length) (rs.length : Int) 0 q1 false [] [] = _ := g2
      rw [h1.1, g2]
      simp only
      have hgd : ∀ j, j < rs.length → Dr 2000 (gm (fun i => rs.getD i 0) rs.length j) := fun j hj => by
        unfold gm
        split
        · exact dr_mono (by decide) dr_one'
        · exact neg0_dr (hrd j hj) (by omega)
      have hsd : Dr 30000 (fs (gm (fun i => rs.getD i 0) rs.length) rs.length) := dr_mono (by
        have : (2000 + 1) * rs.length ≤ 2001 * 12 := Nat.mul_le_mul (by omega) (by omega)
        omega) (dr_fs hgd)
      have hpos := gm_pos (r := fun i => rs.getD i 0) (n := rs.length) (by omega)
      obtain ⟨q3, d, g3, h3⟩ := match26 rs.length (by omega) (gm (fun i => rs.getD i 0) rs.length) _ (by grind) y hy (k := 30000) (by omega) (fun j hj => dr_mono (by omega) (hgd j hj)) hsd fuel 0 q2 (by omega) (by omega) (h2.ext fun j hj => (if_neg (by omega)).symm)
      have g3 : l_regret_Match_26 fuel (rs.length : Int) 0 q2 y.1 y.2.1 y.2.2 = _ := g3
      rw [h2.1, g3]
      simp only
      have hlen : ((List.range rs.length).map fun j => gm (fun i => rs.getD i 0) rs.length j / fs (gm (fun i => rs.getD i 0) rs.length) rs.length).length = rs.length := by rw [List.length_map, List.length_range]
      rcases out_list h3.list (K := 60000) (by omega) (by rw [hlen]; omega) (fun i hi => by
          rw [hlen] at hi
          rw [range_getD hi]
          exact dr_mono (by omega) (dr_div (hgd i hi) hsd (by grind))) with ⟨_, e, e0, go⟩ | ⟨ho, go⟩
      · rw [go]; exact .inl ⟨e, e0, rfl⟩
      · rw [go]
        refine .inr ⟨rs, rfl, by omega, by omega, hok, fun j hj => ?_, rfl⟩
        have := ho j (by rw [hlen]; exact hj)
        rw [range_getD hj] at this
        exact this
  · rw [if_pos (by rw [decide_eq_true_eq]; omega)]
    exact .inl ⟨2, by decide, rfl⟩

end Go.Proofs.YtkgjejengkmacaaDoor
