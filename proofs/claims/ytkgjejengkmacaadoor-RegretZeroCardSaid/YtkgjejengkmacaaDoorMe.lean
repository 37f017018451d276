/- The plain law of RegretZero. -/
import Derived.Test.YtkgjejengkmacaaDoorMd
namespace Go.Proofs.YtkgjejengkmacaaDoor
open Go Vm

theorem pickMax_shift (f : Nat → Rat) (c : Rat) : ∀ n, pickMax (fun i => f i - c) n = pickMax f n
  | 0 => rfl
  | n + 1 => by
    rw [pickMax, pickMax, pickMax_shift f c n]
    by_cases h : f n > f (pickMax f n)
    · rw [if_pos h, if_pos (by grind)]
    · rw [if_neg h, if_neg (by grind)]
theorem pickMax_turn (f : Nat → Rat) (c : Rat) : ∀ n, pickMax (fun i => c - f i) n = pickMin f n
  | 0 => rfl
  | n + 1 => by
    rw [pickMax, pickMin, pickMax_turn f c n]
    by_cases h : f n < f (pickMin f n)
    · rw [if_pos h, if_pos (by grind)]
    · rw [if_neg h, if_neg (by grind)]
theorem pickMax_ext {f g : Nat → Rat} : ∀ {n N : Nat}, n ≤ N → 0 < N → (∀ i, i < N → f i = g i) → pickMax f n = pickMax g n
  | 0, _, _, _, _ => rfl
  | n + 1, N, hn, h0, h => by
    have ih := pickMax_ext (n := n) (by omega) h0 h
    rw [pickMax, pickMax, ih, h n (by omega), h _ (pickMax_lt g h0 n (by omega))]

theorem paid_loop {R C : Nat} {M : Nat → Nat → Rat} {g : List (List Qd)} (hg : QG R C M g) (hR2 : R ≤ 12) (hC2 : C ≤ 12) (hM : ∀ i j, i < R → j < C → Dr 2000 (M i j)) (l : List (List Int)) (hl : l.length ≤ 200) (x y : Nat → Nat) (h : Rounds R C l x y) :
    ∀ (m k : Nat) (q : Qd), k ≤ l.length → l.length < m + k → QR (fs (fun t => M (x t) (y t)) k) q →
    ∃ q', l_regret_Regrets_7 m l (l.length : Int) (k : Int) g q.1 q.2.1 q.2.2 = some (.exit (g, q'.1, q'.2.1, q'.2.2, ())) ∧ QR (fs (fun t => M (x t) (y t)) l.length) q'
  | 0, k, q, h1, h2, _ => by omega
  | m + 1, k, q, h1, h2, hq => by
    simp only [l_regret_Regrets_7]
    by_cases hk : k < l.length
    · have e4 : IntKind.i64.wrap ((k : Int) + 1) = ((k + 1 : Nat) : Int) := by rw [w64 _ (by omega) (by omega)]; omega
      obtain ⟨hx, hy, ex, ey⟩ := h k hk
      have hgl := hg.1
      have hgx := hg.2 (x k) hx
      have hgxl := hgx.1
      have d1 : Dr ((2000 + 1) * k + 1) (fs (fun t => M (x t) (y t)) k) := dr_fs (n := k) fun t ht => hM (x t) (y t) (h t (by omega)).1 (h t (by omega)).2.1
      have hq' : QR (fs (fun t => M (x t) (y t)) k) (q.1, (q.2.1, q.2.2)) := hq
      obtain ⟨z, hz, hzq⟩ := qadd_ok hq' (hgx.at hy) d1 (hM _ _ hx hy) (by omega)
      rw [if_pos (by simpa using hk), if_pos (by omega), if_pos (by omega), Int.toNat_natCast, ex, ey, if_pos (by omega), if_pos (by omega), if_pos (by omega), Int.toNat_natCast, if_pos (by omega), Int.toNat_natCast, hz, Option.bind_some, e4]
      exact paid_loop hg hR2 hC2 hM l hl x y h m (k + 1) z (by omega) (by omega) hzq
    · rw [if_neg (by simpa using hk)]
      have : k = l.length := by omega
      subst this
      exact ⟨q, rfl, hq⟩

theorem minus_rows (n : Nat) (hn : n ≤ 100) (f : Nat → Rat) (c : Rat) (q : Qd) (hc : QR c q) {k : Nat} (hk : k ≤ 2000000) (hd : ∀ i, i < n → Dr k (f i)) (hcd : Dr k c) : ∀ (m i : Nat) (qs : List Qd), i ≤ n → n < m + i → QF n (fun j => if j < i then f j - c else f j) qs →
    ∃ qs', l_regret_Regrets_13 m (n : Int) (i : Int) q.1 q.2.1 q.2.2 qs = some (.exit (q.1, q.2.1, q.2.2, qs', ())) ∧ QF n (fun j => f j - c) qs'
  | 0, i, qs, h1, h2, _ => by omega
  | m + 1, i, qs, h1, h2, hq => by
    simp only [l_regret_Regrets_13]
    by_cases hi : i < n
    · have e4 : IntKind.i64.wrap ((i : Int) + 1) = ((i + 1 : Nat) : Int) := by rw [w64 _ (by omega) (by omega)]; omega
      have hl := hq.1
      have hqi := hq.at hi
      rw [if_neg (by omega)] at hqi
      have hc' : QR c (q.1, (q.2.1, q.2.2)) := hc
      obtain ⟨z, hz, hzq⟩ := qsub_ok hqi hc' (hd i hi) hcd (by omega)
      rw [if_pos (by simpa using hi), if_pos (by omega), if_pos (by omega), Int.toNat_natCast, hz, Option.bind_some, if_pos (by omega), if_pos (by omega), e4]
      refine minus_rows n hn f c q hc hk hd hcd m (i + 1) _ (by omega) (by omega) ((hq.set hi hzq).ext fun j hj => ?_)
      by_cases e : j = i
      · subst e; rw [if_pos rfl, if_pos (by omega)]
      · by_cases e2 : j < i
        · rw [if_neg e, if_pos e2, if_pos (by omega)]
        · rw [if_neg e, if_neg e2, if_neg (by omega)]
    · rw [if_neg (by simpa using hi)]
      have : i = n := by omega
      subst this
      exact ⟨qs, rfl, hq.ext fun j hj => if_pos hj⟩
theorem minus_cols (n : Nat) (hn : n ≤ 100) (f : Nat → Rat) (c : Rat) (q : Qd) (hc : QR c q) {k : Nat} (hk : k ≤ 2000000) (hd : ∀ i, i < n → Dr k (f i)) (hcd : Dr k c) : ∀ (m i : Nat) (qs : List Qd), i ≤ n → n < m + i → QF n (fun j => if j < i then c - f j else f j) qs →
    ∃ qs' d, l_regret_Regrets_18 m (n : Int) (i : Int) q.1 q.2.1 q.2.2 qs = some (.exit (qs', d)) ∧ QF n (fun j => c - f j) qs'
  | 0, i, qs, h1, h2, _ => by omega
  | m + 1, i, qs, h1, h2, hq => by
    simp only [l_regret_Regrets_18]
    by_cases hi : i < n
    · have e4 : IntKind.i64.wrap ((i : Int) + 1) = ((i + 1 : Nat) : Int) := by rw [w64 _ (by omega) (by omega)]; omega
      have hl := hq.1
      have hqi := hq.at hi
      rw [if_neg (by omega)] at hqi
      have hc' : QR c (q.1, (q.2.1, q.2.2)) := hc
      obtain ⟨z, hz, hzq⟩ := qsub_ok hc' hqi hcd (hd i hi) (by omega)
      rw [if_pos (by simpa using hi), if_pos (by omega), if_pos (by omega), Int.toNat_natCast, hz, Option.bind_some, if_pos (by omega), if_pos (by omega), e4]
      refine minus_cols n hn f c q hc hk hd hcd m (i + 1) _ (by omega) (by omega) ((hq.set hi hzq).ext fun j hj => ?_)
      by_cases e : j = i
      · subst e; rw [if_pos rfl, if_pos (by omega)]
      · by_cases e2 : j < i
        · rw [if_neg e, if_pos e2, if_pos (by omega)]
        · rw [if_neg e, if_neg e2, if_neg (by omega)]
    · rw [if_neg (by simpa using hi)]
      have : i = n := by omega
      subst this
      exact ⟨qs, _, rfl, hq.ext fun j hj => if_pos hj⟩

theorem high_loop (n : Nat) (hn0 : 0 < n) (hn : n ≤ 100) (f : Nat → Rat) {k : Nat} (hk : k ≤ 2000000) (hd : ∀ i, i < n → Dr k (f i)) (qs : List Qd) (hq : QF n f qs) : ∀ (m i : Nat) (q : Qd), i ≤ n → n < m + i → QR (f (pickMax f i)) q →
    ∃ q', l_regret_Bounds_9 m qs (n : Int) (i : Int) q.1 q.2.1 q.2.2 = some (.exit (q'.1, q'.2.1, q'.2.2, ())) ∧ QR (f (pickMax f n)) q'
  | 0, i, q, h1, h2, _ => by omega
  | m + 1, i, q, h1, h2, hqr => by
    simp only [l_regret_Bounds_9]
    by_cases hi : i < n
    · have e4 : IntKind.i64.wrap ((i : Int) + 1) = ((i + 1 : Nat) : Int) := by rw [w64 _ (by omega) (by omega)]; omega
      have hl := hq.1
      have hp := pickMax_lt f hn0 i (by omega)
      have hqr' : QR (f (pickMax f i)) (q.1, (q.2.1, q.2.2)) := hqr
      rw [if_pos (by simpa using hi), if_pos (by omega), if_pos (by omega), Int.toNat_natCast, qcmp_ok (hq.at hi) hqr' (hd i hi) (hd _ hp) (by omega), Option.bind_some, e4]
      by_cases c : f i > f (pickMax f i)
      · rw [if_pos (decide_eq_true (sgn_gt.2 c))]
        exact high_loop n hn0 hn f hk hd qs hq m (i + 1) (qs.getD i (false, ([], []))) (by omega) (by omega) (by rw [pickMax, if_pos c]; exact hq.2 i hi)
      · rw [if_neg (fun h => c (sgn_gt.1 (of_decide_eq_true h)))]
        exact high_loop n hn0 hn f hk hd qs hq m (i + 1) q (by omega) (by omega) (by rw [pickMax, if_neg c]; exact hqr)
    · rw [if_neg (by simpa using hi)]
      have : i = n := by omega
      subst this
      exact ⟨q, rfl, hqr⟩
theorem low_loop (n : Nat) (hn0 : 0 < n) (hn : n ≤ 100) (f : Nat → Rat) {k : Nat} (hk : k ≤ 2000000) (hd : ∀ i, i < n → Dr k (f i)) (qs : List Qd) (hq : QF n f qs) : ∀ (m i : Nat) (q : Qd), i ≤ n → n < m + i → QR (f (pickMin f i)) q →
    ∃ q', l_regret_Bounds_15 m qs (n : Int) (i : Int) q.1 q.2.1 q.2.2 = some (.exit (q'.1, q'.2.1, q'.2.2, ())) ∧ QR (f (pickMin f n)) q'
  | 0, i, q, h1, h2, _ => by omega
  | m + 1, i, q, h1, h2, hqr => by
    simp only [l_regret_Bounds_15]
    by_cases hi : i < n
    · have e4 : IntKind.i64.wrap ((i : Int) + 1) = ((i + 1 : Nat) : Int) := by rw [w64 _ (by omega) (by omega)]; omega
      have hl := hq.1
      have hp := pickMin_lt f hn0 i (by omega)
      have hqr' : QR (f (pickMin f i)) (q.1, (q.2.1, q.2.2)) := hqr
      rw [if_pos (by simpa using hi), if_pos (by omega), if_pos (by omega), Int.toNat_natCast, qcmp_ok (hq.at hi) hqr' (hd i hi) (hd _ hp) (by omega), Option.bind_some, e4]
      by_cases c : f i < f (pickMin f i)
      · rw [if_pos (decide_eq_true (sgn_lt.2 c))]
        exact low_loop n hn0 hn f hk hd qs hq m (i + 1) (qs.getD i (false, ([], []))) (by omega) (by omega) (by rw [pickMin, if_pos c]; exact hq.2 i hi)
      · rw [if_neg (fun h => c (sgn_lt.1 (of_decide_eq_true h)))]
        exact low_loop n hn0 hn f hk hd qs hq m (i + 1) q (by omega) (by omega) (by rw [pickMin, if_neg c]; exact hqr)
    · rw [if_neg (by simpa using hi)]
      have : i = n := by omega
      subst this
      exact ⟨q, rfl, hqr⟩

/-! Numbers, and the greatest of a list. -/
theorem qr_nat (n : Nat) : QR ((n : Int) : Rat) (false, (zs (cn n), zs (cn 1))) := ⟨by simp only [Rat.num_intCast]; exact (decide_eq_false (by omega)).symm, by simp, .inl (by simp)⟩
theorem int_nat {n : Nat} (h : n < 9223372036854775808) : f_rat_Int fuel (n : Int) = some (false, (zs (cn n), zs (cn 1))) := by
  unfold f_rat_Int
  rw [if_neg (by rw [decide_eq_true_eq]; omega), of_ok h, Option.bind_some, of_one]; rfl
theorem dr_int {n k : Nat} (h : n < 10 ^ k) (hk : 1 ≤ k) : Dr k ((n : Int) : Rat) := by
  refine ⟨by simpa using h, ?_⟩
  simp only [Rat.den_intCast]
  exact Nat.one_lt_pow (by omega) (by decide)
theorem of_nat {n : Nat} (h : n ≤ 200) : f_rat_Of fuel (n : Int) 1 = some (rt ((n : Int) : Rat), 0) := by
  have hz : Sz n := len_of (k := 1) ((dig_length n 9 (by decide)).2 (by omega)) (by decide)
  have h1 : Sz 1 := len_of (k := 1) ((dig_length 1 9 (by decide)).2 (by decide)) (by decide)
  have s1 : ∀ {m : Nat}, m < 9223372036854775808 → f_rat_size fuel (m : Int) = some (zs (cn m)) := fun {m} hm => by
    unfold f_rat_size
    rw [if_pos (decide_eq_true (by omega)), of_ok hm]; rfl
  have e1 : f_rat_size fuel 1 = some (zs (cn 1)) := s1 (m := 1) (by decide)
  obtain ⟨q, e, hq⟩ := low_int false hz h1
  have hn : (!(decide ((n : Int) < 0) == decide ((1 : Int) < 0))) = false := by
    rw [decide_eq_false (by omega)]; rfl
  have hdr : Dr 3 ((n : Int) : Rat) := dr_int (by omega) (by decide)
  have hq : QR ((n : Int) : Rat) q := hq
  unfold f_rat_Of
  rw [if_neg (by decide), s1 (by omega), Option.bind_some, e1, Option.bind_some, hn, e, Option.bind_some, told_ok hq hdr (by decide), if_pos (dr_okr hdr (by decide) (by decide))]
  rfl

theorem best_loop' (vs : List Rat) (h0 : 0 < vs.length) (hl : vs.length ≤ 256) (hok : ∀ r, r ∈ vs → OkR r) : ∀ (m i : Nat), i ≤ vs.length → vs.length < m + i →
    l_rat_Best_10 m (vs.map rt) ((pickMax (fun j => vs.getD j 0) i : Nat) : Int) (vs.map rt) (vs.length : Int) (i : Int) = some (.exit (((pickMax (fun j => vs.getD j 0) vs.length : Nat) : Int), ()))
  | 0, i, h1, h2 => by omega
  | m + 1, i, h1, h2 => by
    simp only [l_rat_Best_10, List.length_map]
    by_cases hi : i < vs.length
    · have e4 : IntKind.i64.wrap ((i : Int) + 1) = ((i + 1 : Nat) : Int) := by rw [w64 _ (by omega) (by omega)]; omega
      have hp := pickMax_lt (fun j => vs.getD j 0) h0 i (by omega)
      have ho : ∀ j, j < vs.length → OkR (vs.getD j 0) := fun j hj => hok _ (by rw [getD_eq vs j 0 hj]; exact List.getElem_mem hj)
      obtain ⟨z1, e1, q1⟩ := in_ok (ho i hi)
      obtain ⟨z2, e2, q2⟩ := in_ok (ho _ hp)
      have ih := best_loop' vs h0 hl hok m (i + 1) (by omega) (by omega)
      rw [if_pos (by simpa using hi), if_pos (by omega), if_pos (by omega), if_pos (by omega), if_pos (by omega), Int.toNat_natCast, Int.toNat_natCast, getD_mapR vs i hi, getD_mapR vs _ hp, e1, Option.bind_some, e2, Option.bind_some,
        qcmp_ok q1 q2 (okr_dr (ho i hi)) (okr_dr (ho _ hp)) (by decide), Option.bind_some, e4]
      rw [pickMax] at ih
      by_cases c : vs.getD i 0 > vs.getD (pickMax (fun j => vs.getD j 0) i) 0
      · rw [if_pos c] at ih
        rw [if_pos (decide_eq_true (sgn_gt.2 c))]
        exact ih
      · rw [if_neg c] at ih
        rw [if_neg (fun h => c (sgn_gt.1 (of_decide_eq_true h)))]
        exact ih
    · rw [if_neg (by simpa using hi)]
      have : i = vs.length := by omega
      subst this
      rfl
theorem best_ok' (vs : List Rat) (h0 : 0 < vs.length) (hl : vs.length ≤ 256) (hok : ∀ r, r ∈ vs → OkR r) : f_rat_Best fuel (vs.map rt) = some (((pickMax (fun j => vs.getD j 0) vs.length : Nat) : Int), 0) := by
  have hf := fuel_ge (n := 2 ^ 100) (by decide)
  have g := best_loop' vs h0 hl hok fuel 0 (by omega) (by omega)
  have g : l_rat_Best_10 fuel (vs.map rt) 0 (vs.map rt) (vs.length : Int) 0 = _ := g
  unfold f_rat_Best
  rw [List.length_map, if_neg (by rw [decide_eq_true_eq]; omega), if_neg (by rw [beq_iff_eq]; omega), checkAll_ok vs (by omega) hok, Option.bind_some, if_neg (by decide), g]

theorem fine00 : f_gamehallkeep2_fine fuel [0, 0] = some true := by kernel_rfl

/-! The joint law. -/
theorem regrets_ok {a : List (List ByteArray)} {R C : Nat} {M : Nat → Nat → Rat} (hM : Txt a R C M) (hR : 0 < R) (hR2 : R ≤ 12) (hC2 : C ≤ 12) (l : List (List Int)) (hl : l.length ≤ 200) (x y : Nat → Nat) (h : Rounds R C l x y) (hc : f_regret_Check fuel a l = some 0) :
    (∃ e : Int, e ≠ 0 ∧ f_regret_Regrets fuel a l = some ([], [], e)) ∨
    (let us := (List.range R).map (fun i => fs (fun t => M i (y t)) l.length - fs (fun t => M (x t) (y t)) l.length); let vs := (List.range C).map (fun j => fs (fun t => M (x t) (y t)) l.length - fs (fun t => M (x t) j) l.length)
     (∀ r, r ∈ us → OkR r) ∧ (∀ r, r ∈ vs → OkR r) ∧ f_regret_Regrets fuel a l = some (us.map rt, vs.map rt, 0)) := by
  have hf := fuel_ge (n := 2 ^ 100) (by decide)
  have hMd : ∀ i j, i < R → j < C → Dr 2000 (M i j) := fun i j hi hj => okr_dr ((hM.2 i hi).2 j hj)
  obtain ⟨g, eg, hg⟩ := in_all hM (by omega) (by omega)
  obtain ⟨q, e7, hq⟩ := paid_loop hg hR2 hC2 hMd l hl x y h fuel 0 (false, [], []) (by omega) (by omega) qr_zero
  have e7 : l_regret_Regrets_7 fuel l (l.length : Int) 0 g false [] [] = _ := e7
  obtain ⟨rows, cols, es, h1, h2⟩ := sums_ok hg hR hR2 hC2 hMd l hl x y h
  have hb : (2000 + 1) * l.length + 1 ≤ 2000000 := by omega
  have d0 : Dr ((2000 + 1) * l.length + 1) (fs (fun t => M (x t) (y t)) l.length) := dr_fs (n := l.length) fun t ht => hMd (x t) (y t) (h t ht).1 (h t ht).2.1
  have d1 : ∀ i, i < R → Dr ((2000 + 1) * l.length + 1) (fs (fun t => M i (y t)) l.length) := fun i hi => dr_fs (n := l.length) fun t ht => hMd i (y t) hi (h t ht).2.1
  have d2 : ∀ j, j < C → Dr ((2000 + 1) * l.length + 1) (fs (fun t => M (x t) j) l.length) := fun j hj => dr_fs (n := l.length) fun t ht => hMd (x t) j (h t ht).1 hj
  obtain ⟨q13, e13, h13⟩ := minus_rows R (by omega) (fun i => fs (fun t => M i (y t)) l.length) _ q hq hb d1 d0 fuel 0 rows (by omega) (by omega) (h1.ext fun j hj => (if_neg (by omega)).symm)
  have e13 : l_regret_Regrets_13 fuel (R : Int) 0 q.1 q.2.1 q.2.2 rows = _ := e13
  obtain ⟨q18, d18, e18, h18⟩ := minus_cols C (by omega) (fun j => fs (fun t => M (x t) j) l.length) _ q hq hb d2 d0 fuel 0 cols (by omega) (by omega) (h2.ext fun j hj => (if_neg (by omega)).symm)
  have e18 : l_regret_Regrets_18 fuel (C : Int) 0 q.1 q.2.1 q.2.2 cols = _ := e18
  have hrun : f_regret_Regrets fuel a l = ((f_matrix_Out fuel q13).bind fun r7 =>
          if (r7.2 != 0) = true then
            some ([], [], r7.2)
          else
            (f_matrix_Out fuel q18).bind fun r8 =>
            if (r8.2 != 0) = true then
              some ([], [], r8.2)
            else
              some (r7.1, r8.1, 0)) := by
    unfold f_regret_Regrets
    rw [hc, Option.bind_some, if_neg (by decide), eg, Option.bind_some, e7]
    simp only
    rw [es, Option.bind_some]
    simp only
    rw [h1.1, e13]
    simp only
    rw [h2.1, e18]
  rw [hrun]
  have ol : ∀ n (f : Nat → Rat), ((List.range n).map f).length = n := fun n f => by rw [List.length_map, List.length_range]
  have mem_of : ∀ {n : Nat} {f : Nat → Rat}, (∀ j, j < ((List.range n).map f).length → OkR (((List.range n).map f).getD j 0)) → ∀ r, r ∈ (List.range n).map f → OkR r := fun {n f} hh r hr => by
    obtain ⟨j, hj, rfl⟩ := List.getElem_of_mem hr
    rw [← getD_eq _ j 0 hj]; exact hh j hj
  rcases out_list h13.list (K := 1000000) (by decide) (by rw [ol]; omega) (fun i hi => by
      rw [ol] at hi; rw [range_getD hi]; exact dr_mono (by omega) (dr_sub (d1 i hi) d0)) with ⟨_, e, e0, g1⟩ | ⟨o1, g1⟩
  · rw [g1, Option.bind_some, if_pos (by simpa using e0)]
    exact .inl ⟨e, e0, rfl⟩
  · rw [g1, Option.bind_some, if_neg (by simp)]
    rcases out_list h18.list (K := 1000000) (by decide) (by rw [ol]; omega) (fun i hi => by
        rw [ol] at hi; rw [range_getD hi]; exact dr_mono (by omega) (dr_sub d0 (d2 i hi))) with ⟨_, e, e0, g2⟩ | ⟨o2, g2⟩
    · rw [g2, Option.bind_some, if_pos (by simpa using e0)]
      exact .inl ⟨e, e0, rfl⟩
    · rw [g2, Option.bind_some, if_neg (by simp)]
      exact .inr ⟨mem_of o1, mem_of o2, rfl⟩

theorem bounds_ok {a : List (List ByteArray)} {R C : Nat} {M : Nat → Nat → Rat} (hM : Txt a R C M) (hR : 0 < R) (hR2 : R ≤ 12) (hC : 0 < C) (hC2 : C ≤ 12) (l : List (List Int)) (hl : l.length ≤ 200) (x y : Nat → Nat) (h : Rounds R C l x y) (hc : f_regret_Check fuel a l = some 0) :
    (∃ e : Int, e ≠ 0 ∧ f_regret_Bounds fuel a l = some ((⟨#[]⟩ : ByteArray), (⟨#[]⟩ : ByteArray), e)) ∨
    (0 < l.length ∧ let S := fun i => fs (fun t => M i (y t)) l.length; let T := fun j => fs (fun t => M (x t) j) l.length; let lo := T (pickMin T C) / ((l.length : Int) : Rat); let hi := S (pickMax S R) / ((l.length : Int) : Rat)
     OkR lo ∧ OkR hi ∧ f_regret_Bounds fuel a l = some (rt lo, rt hi, 0)) := by
  have hf := fuel_ge (n := 2 ^ 100) (by decide)
  have hMd : ∀ i j, i < R → j < C → Dr 2000 (M i j) := fun i j hi hj => okr_dr ((hM.2 i hi).2 j hj)
  unfold f_regret_Bounds
  rw [hc, Option.bind_some, if_neg (by decide)]
  by_cases h0 : l.length = 0
  · rw [if_pos (by rw [beq_iff_eq]; omega)]
    exact .inl ⟨8, by decide, rfl⟩
  rw [if_neg (by rw [beq_iff_eq]; omega)]
  obtain ⟨g, eg, hg⟩ := in_all hM (by omega) (by omega)
  obtain ⟨rows, cols, es, h1, h2⟩ := sumsI_ok hg hR hR2 hC2 hMd l hl x y h
  have hb : (2000 + 1) * l.length + 1 ≤ 2000000 := by omega
  have d1 : ∀ i, i < R → Dr ((2000 + 1) * l.length + 1) (fs (fun t => M i (y t)) l.length) := fun i hi => dr_fs (n := l.length) fun t ht => hMd i (y t) hi (h t ht).2.1
  have d2 : ∀ j, j < C → Dr ((2000 + 1) * l.length + 1) (fs (fun t => M (x t) j) l.length) := fun j hj => dr_fs (n := l.length) fun t ht => hMd (x t) j (h t ht).1 hj
  obtain ⟨qh, eh, hh⟩ := high_loop R hR (by omega) (fun i => fs (fun t => M i (y t)) l.length) hb d1 rows h1 fuel 0 (rows.getD 0 (false, ([], []))) (by omega) (by omega) (h1.2 0 hR)
  have eh : l_regret_Bounds_9 fuel rows (R : Int) 0 ((rows.getD 0 (false, ([], []))).1) (((rows.getD 0 (false, ([], []))).2).1) (((rows.getD 0 (false, ([], []))).2).2) = _ := eh
  obtain ⟨ql, el, hlo⟩ := low_loop C hC (by omega) (fun j => fs (fun t => M (x t) j) l.length) hb d2 cols h2 fuel 0 (cols.getD 0 (false, ([], []))) (by omega) (by omega) (h2.2 0 hC)
  have el : l_regret_Bounds_15 fuel cols (C : Int) 0 ((cols.getD 0 (false, ([], []))).1) (((cols.getD 0 (false, ([], []))).2).1) (((cols.getD 0 (false, ([], []))).2).2) = _ := el
  have hpR := pickMax_lt (fun i => fs (fun t => M i (y t)) l.length) hR R (Nat.le_refl _)
  have hpC := pickMin_lt (fun j => fs (fun t => M (x t) j) l.length) hC C (Nat.le_refl _)
  have dl : Dr 3 ((l.length : Int) : Rat) := dr_int (by omega) (by decide)
  have hn0 : ((l.length : Int) : Rat) ≠ 0 := by
    intro e
    have : (l.length : Int) = 0 := by exact_mod_cast e
    omega
  have hh' : QR _ (qh.1, (qh.2.1, qh.2.2)) := hh
  have hlo' : QR _ (ql.1, (ql.2.1, ql.2.2)) := hlo
  obtain ⟨z1, ez1, hz1⟩ := qquo_ok hlo' (qr_nat l.length) (d2 _ hpC) dl (by omega) hn0
  obtain ⟨z2, ez2, hz2⟩ := qquo_ok hh' (qr_nat l.length) (d1 _ hpR) dl (by omega) hn0
  have t1 := told_ok hz1 (dr_div (d2 _ hpC) dl hn0) (by omega)
  have t2 := told_ok hz2 (dr_div (d1 _ hpR) dl hn0) (by omega)
  rw [eg, Option.bind_some, es, Option.bind_some]
  simp only
  rw [h1.1, h2.1, if_pos (by omega), if_pos (by omega), eh]
  simp only
  rw [el]
  simp only
  rw [int_nat (by omega), Option.bind_some, ez1, Option.bind_some, t1, Option.bind_some]
  by_cases c1 : OkR ((fun j => fs (fun t => M (x t) j) l.length) (pickMin (fun j => fs (fun t => M (x t) j) l.length) C) / ((l.length : Int) : Rat))
  · rw [if_pos c1, if_neg (by simp), ez2, Option.bind_some, t2, Option.bind_some]
    by_cases c2 : OkR ((fun i => fs (fun t => M i (y t)) l.length) (pickMax (fun i => fs (fun t => M i (y t)) l.length) R) / ((l.length : Int) : Rat))
    · rw [if_pos c2, if_neg (by simp)]
      exact .inr ⟨by omega, c1, c2, rfl⟩
    · rw [if_neg c2, if_pos (by simp)]
      exact .inl ⟨2, by decide, rfl⟩
  · rw [if_neg c1, if_pos (by simp)]
    exact .inl ⟨2, by decide, rfl⟩

theorem zero_true (a : List (List ByteArray)) (l : List (List Int)) (ha : WM a) (hll : l.length ≤ 140737488351232) : f_gamehallkeep2_RegretZero fuel a l = some true := by
  unfold f_gamehallkeep2_RegretZero
  obtain ⟨r, hr, hsm⟩ := small_spec ha 4
  have hr : f_gamehallkeep2_small fuel 4 [a] = some r := hr
  rw [regretFact_true, Option.bind_some, if_neg (by decide), hr, Option.bind_some]
  cases r with
  | false => rfl
  | true =>
    have hsm := hsm rfl
    rw [if_pos (by rfl)]
    by_cases h40 : l.length ≤ 40
    · rw [if_neg (by rw [decide_eq_true_eq]; omega)]
      -- what both functions return where they fail
      have bad1 : ∀ e : Int, e ≠ 0 → f_regret_Regrets fuel a l = some ([], [], e) → ∀ b, f_regret_Bounds fuel a l = some b → ((f_regret_Regrets fuel a l).bind fun r3 => (f_regret_Bounds fuel a l).bind fun r4 =>
          if (r3.2.2 != 0) = false then none else if (r3.2.2 == 0) = false then some (IntKind.i64.wrap ((r3.1.length : Int) + (r3.2.1.length : Int)) == 0) else some true) = some true := fun e e0 h1 b h2 => by
        rw [h1, Option.bind_some, h2, Option.bind_some, if_neg (by simpa using e0), if_pos (by simpa using e0)]
        rfl
      rcases rcheck_rounds ha l hll with ⟨e, e0, g⟩ | ⟨g, h200, R, C, M, x, y, hR, hR2, hC, hC2, hM, h⟩
      · have h1 : f_regret_Regrets fuel a l = some ([], [], e) := by
          unfold f_regret_Regrets
          rw [g, Option.bind_some, if_pos (by simpa using e0)]
        have h2 : f_regret_Bounds fuel a l = some ((⟨#[]⟩ : ByteArray), (⟨#[]⟩ : ByteArray), e) := by
          unfold f_regret_Bounds
          rw [g, Option.bind_some, if_pos (by simpa using e0)]
        rw [h1, Option.bind_some, h2, Option.bind_some, if_neg (by simpa using e0), if_pos (by simpa using e0)]
        rfl
      · rcases regrets_ok hM hR hR2 hC2 l h200 x y h g with ⟨e, e0, h1⟩ | ⟨o1, o2, h1⟩
        · rcases bounds_ok hM hR hR2 hC hC2 l h200 x y h g with ⟨e', e0', h2⟩ | ⟨_, _, _, h2⟩
          · rw [h1, Option.bind_some, h2, Option.bind_some, if_neg (by simpa using e0), if_pos (by simpa using e0)]
            rfl
          · rw [h1, Option.bind_some, h2, Option.bind_some, if_neg (by simpa using e0), if_pos (by simpa using e0)]
            rfl
        · rcases bounds_ok hM hR hR2 hC hC2 l h200 x y h g with ⟨e', e0', h2⟩ | ⟨hl0, o3, o4, h2⟩
          · rw [h1, Option.bind_some, h2, Option.bind_some, if_pos (by simp), if_pos (by simpa using e0'), if_neg (by simp)]
          · generalize hn : l.length = n at *
            generalize hS : (fun i => fs (fun t => M i (y t)) n) = S at *
            generalize hT : (fun j => fs (fun t => M (x t) j) n) = T at *
            generalize hp : fs (fun t => M (x t) (y t)) n = p at *
            have hSi : ∀ i, fs (fun t => M i (y t)) n = S i := fun i => by rw [← hS]
            have hTj : ∀ j, fs (fun t => M (x t) j) n = T j := fun j => by rw [← hT]
            simp only [hSi, hTj] at h1 o1 o2
            rw [h1, Option.bind_some, h2, Option.bind_some, if_pos (by simp), if_neg (by simp)]
            simp only
            have l1 : ((List.range R).map fun i => S i - p).length = R := by rw [List.length_map, List.length_range]
            have l2 : ((List.range C).map fun j => p - T j).length = C := by rw [List.length_map, List.length_range]
            rw [best_ok' _ (by omega) (by omega) o1, Option.bind_some, best_ok' _ (by omega) (by omega) o2, Option.bind_some]
            simp only
            have e1 : pickMax (fun j => ((List.range R).map fun i => S i - p).getD j 0) ((List.range R).map fun i => S i - p).length = pickMax S R := by
              rw [l1, pickMax_ext (Nat.le_refl R) hR (g := fun i => S i - p) fun i hi => range_getD hi, pickMax_shift]
            have e2 : pickMax (fun j => ((List.range C).map fun j => p - T j).getD j 0) ((List.range C).map fun j => p - T j).length = pickMin T C := by
              rw [l2, pickMax_ext (Nat.le_refl C) hC (g := fun j => p - T j) fun i hi => range_getD hi, pickMax_turn]
            have hpR := pickMax_lt S hR R (Nat.le_refl _)
            have hpC := pickMin_lt T hC C (Nat.le_refl _)
            rw [e1, e2, fine00, Option.bind_some, if_neg (by decide), if_pos (by omega), if_pos (by rw [List.length_map, l1]; omega), if_pos (by omega), if_pos (by rw [List.length_map, l2]; omega), Int.toNat_natCast, Int.toNat_natCast,
              getD_mapR _ _ (by rw [l1]; exact hpR), getD_mapR _ _ (by rw [l2]; exact hpC), range_getD hpR, range_getD hpC]
            -- the sizes
            have hM12 : ∀ i j, i < R → j < C → Dr 12 (M i j) := fun i j hi hj => by
              have hk := hsm.2 i (by rw [hM.1]; exact hi)
              have hm : rt (M i j) ∈ a.getD i [] := by
                rw [(hM.2 i hi).1]
                exact List.mem_map_of_mem (List.mem_map_of_mem (List.mem_range.2 hj))
              have := hk.2 _ hm
              rw [rt_size] at this
              exact dr_mono this (dr_len _)
            have dS : ∀ i, i < R → Dr 530 (S i) := fun i hi => by
              rw [← hSi]
              refine dr_mono ?_ (dr_fs (n := n) (k := 12) fun t ht => hM12 i (y t) hi (h t (by omega)).2.1)
              have : (12 + 1) * n ≤ 13 * 40 := Nat.mul_le_mul_left _ (by omega)
              omega
            have dT : ∀ j, j < C → Dr 530 (T j) := fun j hj => by
              rw [← hTj]
              refine dr_mono ?_ (dr_fs (n := n) (k := 12) fun t ht => hM12 (x t) j (h t (by omega)).1 hj)
              have : (12 + 1) * n ≤ 13 * 40 := Nat.mul_le_mul_left _ (by omega)
              omega
            have dl : Dr 3 ((n : Int) : Rat) := dr_int (by omega) (by decide)
            have hn0 : ((n : Int) : Rat) ≠ 0 := by
              intro e
              have : (n : Int) = 0 := by exact_mod_cast e
              omega
            have hd : S (pickMax S R) - p + (p - T (pickMin T C)) = S (pickMax S R) - T (pickMin T C) := by grind
            have dD : Dr (530 + 530 + 1) (S (pickMax S R) - T (pickMin T C)) := dr_sub (dS _ hpR) (dT _ hpC)
            have oD := dr_okr dD (by decide) (by decide)
            have oa : OkR (S (pickMax S R) - p) := o1 _ (List.mem_map.2 ⟨_, List.mem_range.2 hpR, rfl⟩)
            have ob : OkR (p - T (pickMin T C)) := o2 _ (List.mem_map.2 ⟨_, List.mem_range.2 hpC, rfl⟩)
            have on := dr_okr dl (by decide) (by decide)
            have oq := dr_okr (dr_div dD dl hn0) (by decide) (by decide)
            have hq : S (pickMax S R) / ((n : Int) : Rat) - T (pickMin T C) / ((n : Int) : Rat) = (S (pickMax S R) - T (pickMin T C)) / ((n : Int) : Rat) := by
              rw [Rat.div_def, Rat.div_def, Rat.div_def]; grind
            rw [rat_add oa ob (by rw [hd]; exact oD), Option.bind_some, of_nat (by omega), Option.bind_some, hd]
            simp only
            rw [fine00, Option.bind_some, if_neg (by decide), rat_div oD on hn0 oq, Option.bind_some, rat_sub o4 o3 (by rw [hq]; exact oq), Option.bind_some]
            simp only
            rw [fine00, Option.bind_some, if_pos rfl, hq, beq_self_eq_true]
    · rw [if_pos (by rw [decide_eq_true_eq]; omega)]

theorem regretZero_plain : ∀ x : List (List ByteArray) × List (List Int), WfL [.slice (.slice .str), .slice (.arr 2 (.int .i64))] x → f_gamehallkeep2_RegretZero fuel x.1 x.2 = some true :=
  fun x h => zero_true x.1 x.2 (wm_of h.1) (by
    have h1 : x.2.length * 16 ≤ 140737488351232 := h.2.1
    omega)

end Go.Proofs.YtkgjejengkmacaaDoor
