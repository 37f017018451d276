/- What Play does in each round. -/
import Derived.Test.YtkgjejengkmacaaDoorMb
import Derived.Test.YtkgjejengkmacaaDoorMt
namespace Go.Proofs.YtkgjejengkmacaaDoor
open Go Vm

theorem sgn_gt {r s : Rat} : (r - s).num.sign > 0 ↔ s < r := by
  have h := npos_num (r := r - s)
  constructor
  · intro h1
    have : ¬ r - s ≤ 0 := fun h2 => by have := h.2 h2; omega
    grind
  · intro h1
    have : ¬ (r - s).num.sign ≤ 0 := fun h2 => by have := h.1 h2; grind
    omega
theorem sgn_lt {r s : Rat} : (r - s).num.sign < 0 ↔ r < s := by
  have h := nonneg_num (r := r - s)
  constructor
  · intro h1
    have : ¬ 0 ≤ r - s := fun h2 => h.2 h2 h1
    grind
  · intro h1
    exact Classical.byContradiction fun h2 => by have := h.1 h2; grind

/-- The first best place, and the first least one. -/
def pickMax (f : Nat → Rat) : Nat → Nat
  | 0 => 0
  | i + 1 => if f i > f (pickMax f i) then i else pickMax f i
def pickMin (f : Nat → Rat) : Nat → Nat
  | 0 => 0
  | i + 1 => if f i < f (pickMin f i) then i else pickMin f i
theorem pickMax_lt (f : Nat → Rat) {n : Nat} (hn : 0 < n) : ∀ i, i ≤ n → pickMax f i < n
  | 0, _ => hn
  | i + 1, h => by rw [pickMax]; split; omega; exact pickMax_lt f hn i (by omega)
theorem pickMin_lt (f : Nat → Rat) {n : Nat} (hn : 0 < n) : ∀ i, i ≤ n → pickMin f i < n
  | 0, _ => hn
  | i + 1, h => by rw [pickMin]; split; omega; exact pickMin_lt f hn i (by omega)

theorem play13 (R : Nat) (hR : 0 < R) (hR2 : R ≤ 100) (f : Nat → Rat) {k : Nat} (hk : k ≤ 2000000) (hd : ∀ i, i < R → Dr k (f i)) (qs : List Qd) (hq : QF R f qs) (y : Nat) : ∀ (m i : Nat), i ≤ R → R < m + i →
    l_regret_Play_13 m (R : Int) (i : Int) qs [((pickMax f i : Nat) : Int), (y : Int)] = some (.exit (qs, [((pickMax f R : Nat) : Int), (y : Int)], ()))
  | 0, i, h1, h2 => by omega
  | m + 1, i, h1, h2 => by
    simp only [l_regret_Play_13]
    by_cases hi : i < R
    · have e4 : IntKind.i64.wrap ((i : Int) + 1) = ((i + 1 : Nat) : Int) := by rw [w64 _ (by omega) (by omega)]; omega
      have hl := hq.1
      have hp := pickMax_lt f hR i (by omega)
      have e0 : ([((pickMax f i : Nat) : Int), (y : Int)] : List Int).getD 0 0 = ((pickMax f i : Nat) : Int) := rfl
      have ih := play13 R hR hR2 f hk hd qs hq y m (i + 1) (by omega) (by omega)
      rw [e0, if_pos (by simpa using hi), if_pos (by omega), if_pos (by omega), if_pos (by omega), if_pos (by omega), Int.toNat_natCast, Int.toNat_natCast, qcmp_ok (hq.at hi) (hq.at hp) (hd i hi) (hd _ hp) (by omega), Option.bind_some, e4]
      rw [pickMax] at ih
      by_cases c : f i > f (pickMax f i)
      · rw [if_pos c] at ih
        rw [if_pos (decide_eq_true (sgn_gt.2 c))]
        exact ih
      · rw [if_neg c] at ih
        rw [if_neg (fun h => c (sgn_gt.1 (of_decide_eq_true h)))]
        exact ih
    · rw [if_neg (by simpa using hi)]
      have : i = R := by omega
      subst this
      rfl
theorem play19 (C : Nat) (hC : 0 < C) (hC2 : C ≤ 100) (f : Nat → Rat) {k : Nat} (hk : k ≤ 2000000) (hd : ∀ i, i < C → Dr k (f i)) (qs : List Qd) (hq : QF C f qs) (x : Nat) : ∀ (m i : Nat), i ≤ C → C < m + i →
    l_regret_Play_19 m (C : Int) (i : Int) qs [(x : Int), ((pickMin f i : Nat) : Int)] = some (.exit (qs, [(x : Int), ((pickMin f C : Nat) : Int)], ()))
  | 0, i, h1, h2 => by omega
  | m + 1, i, h1, h2 => by
    simp only [l_regret_Play_19]
    by_cases hi : i < C
    · have e4 : IntKind.i64.wrap ((i : Int) + 1) = ((i + 1 : Nat) : Int) := by rw [w64 _ (by omega) (by omega)]; omega
      have hl := hq.1
      have hp := pickMin_lt f hC i (by omega)
      have e0 : ([(x : Int), ((pickMin f i : Nat) : Int)] : List Int).getD 1 0 = ((pickMin f i : Nat) : Int) := rfl
      have ih := play19 C hC hC2 f hk hd qs hq x m (i + 1) (by omega) (by omega)
      rw [e0, if_pos (by simpa using hi), if_pos (by omega), if_pos (by omega), if_pos (by omega), if_pos (by omega), Int.toNat_natCast, Int.toNat_natCast, qcmp_ok (hq.at hi) (hq.at hp) (hd i hi) (hd _ hp) (by omega), Option.bind_some, e4]
      rw [pickMin] at ih
      by_cases c : f i < f (pickMin f i)
      · rw [if_pos c] at ih
        rw [if_pos (decide_eq_true (sgn_lt.2 c))]
        exact ih
      · rw [if_neg c] at ih
        rw [if_neg (fun h => c (sgn_lt.1 (of_decide_eq_true h)))]
        exact ih
    · rw [if_neg (by simpa using hi)]
      have : i = C := by omega
      subst this
      rfl

theorem play25 {R C : Nat} {M : Nat → Nat → Rat} {g : List (List Qd)} (hg : QG R C M g) (hR2 : R ≤ 100) (f : Nat → Rat) {k : Nat} (hk : k ≤ 2000000) (hd : ∀ i, i < R → Dr k (f i)) (hM : ∀ i j, i < R → j < C → Dr 2000 (M i j)) (x y : Nat) (hy : y < C) :
    ∀ (m i : Nat) (qs : List Qd), i ≤ R → R < m + i → QF R (fun j => if j < i then f j + M j y else f j) qs →
    ∃ qs', l_regret_Play_25 m (R : Int) (i : Int) g qs [(x : Int), (y : Int)] = some (.exit (g, qs', [(x : Int), (y : Int)], ())) ∧ QF R (fun j => f j + M j y) qs'
  | 0, i, qs, h1, h2, _ => by omega
  | m + 1, i, qs, h1, h2, hq => by
    simp only [l_regret_Play_25]
    by_cases hi : i < R
    · have e4 : IntKind.i64.wrap ((i : Int) + 1) = ((i + 1 : Nat) : Int) := by rw [w64 _ (by omega) (by omega)]; omega
      have hl := hq.1
      have hgl := hg.1
      have hgi := hg.2 i hi
      have hgil := hgi.1
      have e0 : ([(x : Int), (y : Int)] : List Int).getD 1 0 = (y : Int) := rfl
      have hqi := hq.at hi
      rw [if_neg (by omega)] at hqi
      obtain ⟨z, hz, hzq⟩ := qadd_ok hqi (hgi.at hy) (hd i hi) (hM i y hi hy) (by omega)
      rw [e0, if_pos (by simpa using hi), if_pos (by omega), if_pos (by omega), if_pos (by omega), if_pos (by omega), if_pos (by omega), Int.toNat_natCast, if_pos (by omega), Int.toNat_natCast, hz, Option.bind_some, if_pos (by omega), if_pos (by omega), e4]
      refine play25 hg hR2 f hk hd hM x y hy m (i + 1) _ (by omega) (by omega) ((hq.set hi hzq).ext fun j hj => ?_)
      by_cases e : j = i
      · subst e; rw [if_pos rfl, if_pos (by omega)]
      · by_cases e2 : j < i
        · rw [if_neg e, if_pos e2, if_pos (by omega)]
        · rw [if_neg e, if_neg e2, if_neg (by omega)]
    · rw [if_neg (by simpa using hi)]
      have : i = R := by omega
      subst this
      exact ⟨qs, rfl, hq.ext fun j hj => if_pos hj⟩
theorem play30 {R C : Nat} {M : Nat → Nat → Rat} {g : List (List Qd)} (hg : QG R C M g) (hC2 : C ≤ 100) (f : Nat → Rat) {k : Nat} (hk : k ≤ 2000000) (hd : ∀ i, i < C → Dr k (f i)) (hM : ∀ i j, i < R → j < C → Dr 2000 (M i j)) (x y : Nat) (hx : x < R) :
    ∀ (m i : Nat) (qs : List Qd), i ≤ C → C < m + i → QF C (fun j => if j < i then f j + M x j else f j) qs →
    ∃ qs', l_regret_Play_30 m (C : Int) (i : Int) g qs [(x : Int), (y : Int)] = some (.exit (g, qs', [(x : Int), (y : Int)], ())) ∧ QF C (fun j => f j + M x j) qs'
  | 0, i, qs, h1, h2, _ => by omega
  | m + 1, i, qs, h1, h2, hq => by
    simp only [l_regret_Play_30]
    by_cases hi : i < C
    · have e4 : IntKind.i64.wrap ((i : Int) + 1) = ((i + 1 : Nat) : Int) := by rw [w64 _ (by omega) (by omega)]; omega
      have hl := hq.1
      have hgl := hg.1
      have hgi := hg.2 x hx
      have hgil := hgi.1
      have e0 : ([(x : Int), (y : Int)] : List Int).getD 0 0 = (x : Int) := rfl
      have hqi := hq.at hi
      rw [if_neg (by omega)] at hqi
      obtain ⟨z, hz, hzq⟩ := qadd_ok hqi (hgi.at hi) (hd i hi) (hM x i hx hi) (by omega)
      rw [e0, if_pos (by simpa using hi), if_pos (by omega), if_pos (by omega), if_pos (by omega), if_pos (by omega), if_pos (by omega), Int.toNat_natCast, if_pos (by omega), Int.toNat_natCast, hz, Option.bind_some, if_pos (by omega), if_pos (by omega), e4]
      refine play30 hg hC2 f hk hd hM x y hx m (i + 1) _ (by omega) (by omega) ((hq.set hi hzq).ext fun j hj => ?_)
      by_cases e : j = i
      · subst e; rw [if_pos rfl, if_pos (by omega)]
      · by_cases e2 : j < i
        · rw [if_neg e, if_pos e2, if_pos (by omega)]
        · rw [if_neg e, if_neg e2, if_neg (by omega)]
    · rw [if_neg (by simpa using hi)]
      have : i = C := by omega
      subst this
      exact ⟨qs, rfl, hq.ext fun j hj => if_pos hj⟩

/-- What the rows and columns have behind k rounds. -/
def st (M : Nat → Nat → Rat) (R C : Nat) : Nat → (Nat → Rat) × (Nat → Rat)
  | 0 => (fun _ => 0, fun _ => 0)
  | k + 1 => (fun i => (st M R C k).1 i + M i (pickMin (st M R C k).2 C), fun j => (st M R C k).2 j + M (pickMax (st M R C k).1 R) j)
def px (M : Nat → Nat → Rat) (R C k : Nat) : Nat := pickMax (st M R C k).1 R
def py (M : Nat → Nat → Rat) (R C k : Nat) : Nat := pickMin (st M R C k).2 C
def played (M : Nat → Nat → Rat) (R C n : Nat) : List (List Int) := (List.range n).map fun k => [((px M R C k : Nat) : Int), ((py M R C k : Nat) : Int)]

theorem st_dr {M : Nat → Nat → Rat} {R C : Nat} (hR : 0 < R) (hC : 0 < C) (hM : ∀ i j, i < R → j < C → Dr 2000 (M i j)) : ∀ k, (∀ i, i < R → Dr (2001 * k + 1) ((st M R C k).1 i)) ∧ ∀ j, j < C → Dr (2001 * k + 1) ((st M R C k).2 j)
  | 0 => ⟨fun _ _ => dr_zero (by omega), fun _ _ => dr_zero (by omega)⟩
  | k + 1 => by
    obtain ⟨h1, h2⟩ := st_dr hR hC hM k
    exact ⟨fun i hi => dr_mono (by omega) (dr_add (h1 i hi) (hM i _ hi (pickMin_lt _ hC C (Nat.le_refl _)))), fun j hj => dr_mono (by omega) (dr_add (h2 j hj) (hM _ j (pickMax_lt _ hR R (Nat.le_refl _)) hj))⟩

theorem play10 {R C : Nat} {M : Nat → Nat → Rat} {g : List (List Qd)} (hg : QG R C M g) (hR : 0 < R) (hR2 : R ≤ 12) (hC : 0 < C) (hC2 : C ≤ 12) (hM : ∀ i j, i < R → j < C → Dr 2000 (M i j)) (n : Nat) (hn : n ≤ 200) :
    ∀ (m k : Nat) (rows cols : List Qd), k ≤ n → n + 100 < m + k → QF R (st M R C k).1 rows → QF C (st M R C k).2 cols → ∃ d, l_regret_Play_10 m (n : Int) (k : Int) g rows cols (played M R C k) = some (.exit (played M R C n, d))
  | 0, k, rows, cols, h1, h2, _, _ => by omega
  | m + 1, k, rows, cols, h1, h2, hr, hc => by
    simp only [l_regret_Play_10]
    by_cases hk : k < n
    · have e4 : IntKind.i64.wrap ((k : Int) + 1) = ((k + 1 : Nat) : Int) := by rw [w64 _ (by omega) (by omega)]; omega
      obtain ⟨d1, d2⟩ := st_dr hR hC hM k
      have g1 := play13 R hR (by omega) (st M R C k).1 (k := 2001 * k + 1) (by omega) d1 rows hr 0 m 0 (by omega) (by omega)
      have g1 : l_regret_Play_13 m (R : Int) 0 rows (List.replicate 2 0) = _ := g1
      have g2 := play19 C hC (by omega) (st M R C k).2 (k := 2001 * k + 1) (by omega) d2 cols hc (px M R C k) m 0 (by omega) (by omega)
      have g2 : l_regret_Play_19 m (C : Int) 0 cols [((pickMax (st M R C k).1 R : Nat) : Int), ((0 : Nat) : Int)] = _ := g2
      have hx : px M R C k < R := pickMax_lt _ hR R (Nat.le_refl _)
      have hy : py M R C k < C := pickMin_lt _ hC C (Nat.le_refl _)
      obtain ⟨q3, g3, h3⟩ := play25 hg (by omega) (st M R C k).1 (k := 2001 * k + 1) (by omega) d1 hM (px M R C k) (py M R C k) hy m 0 rows (by omega) (by omega) (hr.ext fun j hj => (if_neg (by omega)).symm)
      have g3 : l_regret_Play_25 m (R : Int) 0 g rows [((px M R C k : Nat) : Int), ((pickMin (st M R C k).2 C : Nat) : Int)] = _ := g3
      obtain ⟨q4, g4, h4⟩ := play30 hg (by omega) (st M R C k).2 (k := 2001 * k + 1) (by omega) d2 hM (px M R C k) (py M R C k) hx m 0 cols (by omega) (by omega) (hc.ext fun j hj => (if_neg (by omega)).symm)
      have g4 : l_regret_Play_30 m (C : Int) 0 g cols [((px M R C k : Nat) : Int), ((py M R C k : Nat) : Int)] = _ := g4
      rw [if_pos (by simpa using hk), hr.1, g1]
      simp only
      rw [hc.1, g2]
      simp only
      rw [hr.1, g3]
      simp only
      rw [hc.1, g4]
      simp only
      have hlen : (played M R C k).length = k := by unfold played; rw [List.length_map, List.length_range]
      rw [if_pos (by omega), e4]
      have e : played M R C k ++ [[((px M R C k : Nat) : Int), ((py M R C k : Nat) : Int)]] = played M R C (k + 1) := by
        unfold played; rw [List.range_succ, List.map_append]; rfl
      rw [e]
      exact play10 hg hR hR2 hC hC2 hM n hn m (k + 1) _ _ (by omega) (by omega) h3 h4
    · rw [if_neg (by simpa using hk)]
      have : k = n := by omega
      subst this
      exact ⟨_, rfl⟩

theorem play_ok {a : List (List ByteArray)} {R C : Nat} {M : Nat → Nat → Rat} (h : Txt a R C M) (hc : f_matgame_Check fuel a = some 0) (hR : 0 < R) (hR2 : R ≤ 12) (hC : 0 < C) (hC2 : C ≤ 12) (n : Nat) (hn : n ≤ 200) :
    f_regret_Play fuel a (n : Int) = some (played M R C n, 0) := by
  have hf := fuel_ge (n := 2 ^ 100) (by decide)
  obtain ⟨g, eg, hg⟩ := in_all h (by omega) (by omega)
  have hgl := hg.1
  have hg0 := (hg.2 0 hR).1
  unfold f_regret_Play
  rw [hc, Option.bind_some, if_neg (by decide), if_pos (by rw [decide_eq_false_iff_not]; omega), if_neg (by rw [decide_eq_true_eq]; omega), eg, Option.bind_some, hgl, hg0]
  have c1 : decide ((0 : Int) ≤ (R : Int) ∧ (R : Int) ≤ (R : Int) ∧ (R : Int) * 56 ≤ 281474976710656) = true := decide_eq_true (by omega)
  have c2 : decide ((0 : Int) ≤ (C : Int) ∧ (C : Int) ≤ (C : Int) ∧ (C : Int) * 56 ≤ 281474976710656) = true := decide_eq_true (by omega)
  rw [if_pos (by omega), if_pos c1, if_pos c2, if_pos c1, if_pos c2, if_pos c2, Int.toNat_natCast, Int.toNat_natCast]
  obtain ⟨d, e⟩ := play10 hg hR hR2 hC hC2 (fun i j hi hj => okr_dr ((h.2 i hi).2 j hj)) n hn fuel 0 _ _ (by omega) (by omega) (QF.rep R) (QF.rep C)
  have e : l_regret_Play_10 fuel (n : Int) 0 g (List.replicate R (false, ([], []))) (List.replicate C (false, ([], []))) [] = _ := e
  rw [e]

theorem pick30 (x : Int) : ∃ b : Nat, b < 30 ∧ f_gamehallkeep2_pick fuel x 30 = some (b : Int) := by
  unfold f_gamehallkeep2_pick
  have h4 : IntKind.u64.wrap (30 : Int) = 30 := by decide
  rw [h4, if_neg (by decide)]
  have hz : 0 ≤ IntKind.u64.wrap x := by
    unfold IntKind.wrap
    have e1 : IntKind.u64.bits = 64 := rfl
    have e2 : IntKind.u64.signed = false := rfl
    simp only [e1, e2, Bool.false_and, Bool.false_eq_true, if_false]
    exact Int.emod_nonneg _ (by decide)
  obtain ⟨m, hm⟩ : ∃ m : Nat, IntKind.u64.wrap x = (m : Int) := ⟨(IntKind.u64.wrap x).toNat, by omega⟩
  have hlt := Nat.mod_lt m (show 30 > 0 by omega)
  rw [hm, show ((m : Int).tmod (30 : Int)) = ((m % 30 : Nat) : Int) from (Int.ofNat_tmod m 30).symm, w64 _ (by omega) (by omega)]
  exact ⟨m % 30, hlt, rfl⟩

theorem equal2_loop (l : List (List Int)) (hl : l.length ≤ 1000000) : ∀ (m i : Nat), i ≤ l.length → l.length < m + i → l_slices_Equal_2int_4 m l l (l.length : Int) (i : Int) = some (.exit ())
  | 0, i, h1, h2 => by omega
  | m + 1, i, h1, h2 => by
    simp only [l_slices_Equal_2int_4]
    by_cases hi : i < l.length
    · have e4 : IntKind.i64.wrap ((i : Int) + 1) = ((i + 1 : Nat) : Int) := by rw [w64 _ (by omega) (by omega)]; omega
      rw [if_pos (by simpa using hi), if_pos (by omega), if_pos (by omega), if_pos (by omega), if_pos (by omega), if_neg (by simp), e4]
      exact equal2_loop l hl m (i + 1) (by omega) (by omega)
    · rw [if_neg (by simpa using hi)]
theorem equal2_self (l : List (List Int)) (hl : l.length ≤ 1000000) : f_slices_Equal_2int fuel l l = some true := by
  have hf := fuel_ge (n := 2 ^ 100) (by decide)
  have g := equal2_loop l hl fuel 0 (by omega) (by omega)
  have g : l_slices_Equal_2int_4 fuel l l (l.length : Int) 0 = _ := g
  unfold f_slices_Equal_2int
  rw [if_neg (by simp), g]

theorem rounds_loop {a : List (List ByteArray)} {R C : Nat} (ha : a.length = R) (ha0 : (a.getD 0 []).length = C) (hR : 0 < R) (hR2 : R ≤ 12) (hC2 : C ≤ 12) (l : List (List Int)) (hl : l.length ≤ 200)
    (h : ∀ k, k < l.length → ∃ x y : Nat, x < R ∧ y < C ∧ l.getD k (List.replicate 2 0) = [(x : Int), (y : Int)]) : ∀ (m i : Nat), i ≤ l.length → l.length < m + i → l_regret_Check_7 m a l (l.length : Int) (i : Int) = some (.exit ())
  | 0, i, h1, h2 => by omega
  | m + 1, i, h1, h2 => by
    simp only [l_regret_Check_7]
    by_cases hi : i < l.length
    · have e4 : IntKind.i64.wrap ((i : Int) + 1) = ((i + 1 : Nat) : Int) := by rw [w64 _ (by omega) (by omega)]; omega
      obtain ⟨x, y, hx, hy, e⟩ := h i hi
      have e0 : ([(x : Int), (y : Int)] : List Int).getD 0 0 = (x : Int) := rfl
      have e1 : ([(x : Int), (y : Int)] : List Int).getD 1 0 = (y : Int) := rfl
      rw [if_pos (by simpa using hi), if_pos (by omega), if_pos (by omega), Int.toNat_natCast, e, e0, e1, if_pos (by rw [decide_eq_false_iff_not]; omega), if_pos (by rw [decide_eq_false_iff_not]; omega), if_pos (by rw [decide_eq_false_iff_not]; omega), if_pos (by omega),
        if_neg (by rw [decide_eq_true_eq]; omega), e4]
      exact rounds_loop ha ha0 hR hR2 hC2 l hl h m (i + 1) (by omega) (by omega)
    · rw [if_neg (by simpa using hi)]

end Go.Proofs.YtkgjejengkmacaaDoor
