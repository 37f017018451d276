/- Sums over rounds: what rows and columns would have had. -/
import Derived.Test.YtkgjejengkmacaaDoorMc
namespace Go.Proofs.YtkgjejengkmacaaDoor
open Go Vm

/-- The rounds of a list. -/
def Rounds (R C : Nat) (l : List (List Int)) (x y : Nat → Nat) : Prop := ∀ k, k < l.length → x k < R ∧ y k < C ∧ (l.getD k (List.replicate 2 0)).getD 0 0 = (x k : Int) ∧ (l.getD k (List.replicate 2 0)).getD 1 0 = (y k : Int)

theorem sums6 {R C : Nat} {M : Nat → Nat → Rat} {g : List (List Qd)} (hg : QG R C M g) (hR2 : R ≤ 100) (f : Nat → Rat) {k : Nat} (hk : k ≤ 2000000) (hd : ∀ i, i < R → Dr k (f i)) (hM : ∀ i j, i < R → j < C → Dr 2000 (M i j)) (p : List Int) (y : Nat) (hp : p.getD 1 0 = (y : Int)) (hy : y < C) :
    ∀ (m i : Nat) (qs : List Qd), i ≤ R → R < m + i → QF R (fun j => if j < i then f j + M j y else f j) qs →
    ∃ qs', l_regret_sums_6 m g (R : Int) (i : Int) qs p = some (.exit (qs', p, ())) ∧ QF R (fun j => f j + M j y) qs'
  | 0, i, qs, h1, h2, _ => by omega
  | m + 1, i, qs, h1, h2, hq => by
    simp only [l_regret_sums_6]
    by_cases hi : i < R
    · have e4 : IntKind.i64.wrap ((i : Int) + 1) = ((i + 1 : Nat) : Int) := by rw [w64 _ (by omega) (by omega)]; omega
      have hl := hq.1
      have hgl := hg.1
      have hgi := hg.2 i hi
      have hgil := hgi.1
      have hqi := hq.at hi
      rw [if_neg (by omega)] at hqi
      obtain ⟨z, hz, hzq⟩ := qadd_ok hqi (hgi.at hy) (hd i hi) (hM i y hi hy) (by omega)
      rw [hp, if_pos (by simpa using hi), if_pos (by omega), if_pos (by omega), if_pos (by omega), if_pos (by omega), if_pos (by omega), Int.toNat_natCast, if_pos (by omega), Int.toNat_natCast, hz, Option.bind_some, if_pos (by omega), if_pos (by omega), e4]
      refine sums6 hg hR2 f hk hd hM p y hp hy m (i + 1) _ (by omega) (by omega) ((hq.set hi hzq).ext fun j hj => ?_)
      by_cases e : j = i
      · subst e; rw [if_pos rfl, if_pos (by omega)]
      · by_cases e2 : j < i
        · rw [if_neg e, if_pos e2, if_pos (by omega)]
        · rw [if_neg e, if_neg e2, if_neg (by omega)]
    · rw [if_neg (by simpa using hi)]
      have : i = R := by omega
      subst this
      exact ⟨qs, rfl, hq.ext fun j hj => if_pos hj⟩
theorem sums11 {R C : Nat} {M : Nat → Nat → Rat} {g : List (List Qd)} (hg : QG R C M g) (hC2 : C ≤ 100) (f : Nat → Rat) {k : Nat} (hk : k ≤ 2000000) (hd : ∀ i, i < C → Dr k (f i)) (hM : ∀ i j, i < R → j < C → Dr 2000 (M i j)) (p : List Int) (x : Nat) (hp : p.getD 0 0 = (x : Int)) (hx : x < R) :
    ∀ (m i : Nat) (qs : List Qd), i ≤ C → C < m + i → QF C (fun j => if j < i then f j + M x j else f j) qs →
    ∃ qs', l_regret_sums_11 m g (C : Int) (i : Int) qs p = some (.exit (qs', p, ())) ∧ QF C (fun j => f j + M x j) qs'
  | 0, i, qs, h1, h2, _ => by omega
  | m + 1, i, qs, h1, h2, hq => by
    simp only [l_regret_sums_11]
    by_cases hi : i < C
    · have e4 : IntKind.i64.wrap ((i : Int) + 1) = ((i + 1 : Nat) : Int) := by rw [w64 _ (by omega) (by omega)]; omega
      have hl := hq.1
      have hgl := hg.1
      have hgi := hg.2 x hx
      have hgil := hgi.1
      have hqi := hq.at hi
      rw [if_neg (by omega)] at hqi
      obtain ⟨z, hz, hzq⟩ := qadd_ok hqi (hgi.at hi) (hd i hi) (hM x i hx hi) (by omega)
      rw [hp, if_pos (by simpa using hi), if_pos (by omega), if_pos (by omega), if_pos (by omega), if_pos (by omega), if_pos (by omega), Int.toNat_natCast, if_pos (by omega), Int.toNat_natCast, hz, Option.bind_some, if_pos (by omega), if_pos (by omega), e4]
      refine sums11 hg hC2 f hk hd hM p x hp hx m (i + 1) _ (by omega) (by omega) ((hq.set hi hzq).ext fun j hj => ?_)
      by_cases e : j = i
      · subst e; rw [if_pos rfl, if_pos (by omega)]
      · by_cases e2 : j < i
        · rw [if_neg e, if_pos e2, if_pos (by omega)]
        · rw [if_neg e, if_neg e2, if_neg (by omega)]
    · rw [if_neg (by simpa using hi)]
      have : i = C := by omega
      subst this
      exact ⟨qs, rfl, hq.ext fun j hj => if_pos hj⟩

theorem sums3 {R C : Nat} {M : Nat → Nat → Rat} {g : List (List Qd)} (hg : QG R C M g) (hR2 : R ≤ 12) (hC2 : C ≤ 12) (hM : ∀ i j, i < R → j < C → Dr 2000 (M i j)) (l : List (List Int)) (hl : l.length ≤ 200) (x y : Nat → Nat) (h : Rounds R C l x y) :
    ∀ (m k : Nat) (rows cols : List Qd), k ≤ l.length → l.length + 100 < m + k → QF R (fun i => fs (fun t => M i (y t)) k) rows → QF C (fun j => fs (fun t => M (x t) j) k) cols →
    ∃ rows' cols', l_regret_sums_3 m g l (l.length : Int) (k : Int) rows cols = some (.exit (rows', cols', ())) ∧ QF R (fun i => fs (fun t => M i (y t)) l.length) rows' ∧ QF C (fun j => fs (fun t => M (x t) j) l.length) cols'
  | 0, k, rows, cols, h1, h2, _, _ => by omega
  | m + 1, k, rows, cols, h1, h2, hr, hc => by
    simp only [l_regret_sums_3]
    by_cases hk : k < l.length
    · have e4 : IntKind.i64.wrap ((k : Int) + 1) = ((k + 1 : Nat) : Int) := by rw [w64 _ (by omega) (by omega)]; omega
      obtain ⟨hx, hy, ex, ey⟩ := h k hk
      have hb : (2000 + 1) * k + 1 ≤ 2000000 := by omega
      have d1 : ∀ i, i < R → Dr ((2000 + 1) * k + 1) (fs (fun t => M i (y t)) k) := fun i hi => dr_fs (n := k) fun t ht => hM i (y t) hi (h t (by omega)).2.1
      have d2 : ∀ j, j < C → Dr ((2000 + 1) * k + 1) (fs (fun t => M (x t) j) k) := fun j hj => dr_fs (n := k) fun t ht => hM (x t) j (h t (by omega)).1 hj
      obtain ⟨q1, g1, h3⟩ := sums6 hg (by omega) (fun i => fs (fun t => M i (y t)) k) hb d1 hM _ (y k) ey hy m 0 rows (by omega) (by omega) (hr.ext fun j hj => (if_neg (by omega)).symm)
      have g1 : l_regret_sums_6 m g (R : Int) 0 rows (l.getD k (List.replicate 2 0)) = _ := g1
      obtain ⟨q2, g2, h4⟩ := sums11 hg (by omega) (fun j => fs (fun t => M (x t) j) k) hb d2 hM _ (x k) ex hx m 0 cols (by omega) (by omega) (hc.ext fun j hj => (if_neg (by omega)).symm)
      have g2 : l_regret_sums_11 m g (C : Int) 0 cols (l.getD k (List.replicate 2 0)) = _ := g2
      rw [if_pos (by simpa using hk), if_pos (by omega), if_pos (by omega), Int.toNat_natCast, hr.1, g1]
      simp only
      rw [hc.1, g2]
      simp only
      rw [e4]
      exact sums3 hg hR2 hC2 hM l hl x y h m (k + 1) _ _ (by omega) (by omega) h3 h4
    · rw [if_neg (by simpa using hk)]
      have : k = l.length := by omega
      subst this
      exact ⟨_, _, rfl, hr, hc⟩

theorem sums_ok {R C : Nat} {M : Nat → Nat → Rat} {g : List (List Qd)} (hg : QG R C M g) (hR : 0 < R) (hR2 : R ≤ 12) (hC2 : C ≤ 12) (hM : ∀ i j, i < R → j < C → Dr 2000 (M i j)) (l : List (List Int)) (hl : l.length ≤ 200) (x y : Nat → Nat) (h : Rounds R C l x y) :
    ∃ rows cols, f_regret_sums fuel g l = some (rows, cols) ∧ QF R (fun i => fs (fun t => M i (y t)) l.length) rows ∧ QF C (fun j => fs (fun t => M (x t) j) l.length) cols := by
  have hf := fuel_ge (n := 2 ^ 100) (by decide)
  have hgl := hg.1
  have hg0 := (hg.2 0 hR).1
  have c1 : decide ((0 : Int) ≤ (R : Int) ∧ (R : Int) ≤ (R : Int) ∧ (R : Int) * 56 ≤ 281474976710656) = true := decide_eq_true (by omega)
  have c2 : decide ((0 : Int) ≤ (C : Int) ∧ (C : Int) ≤ (C : Int) ∧ (C : Int) * 56 ≤ 281474976710656) = true := decide_eq_true (by omega)
  obtain ⟨rows, cols, e, h1, h2⟩ := sums3 hg hR2 hC2 hM l hl x y h fuel 0 _ _ (by omega) (by omega) (QF.rep R) (QF.rep C)
  have e : l_regret_sums_3 fuel g l (l.length : Int) 0 (List.replicate R (false, ([], []))) (List.replicate C (false, ([], []))) = _ := e
  unfold f_regret_sums
  rw [hgl, hg0, if_pos (by omega), if_pos c1, if_pos c2, if_pos c1, if_pos c2, if_pos c2, Int.toNat_natCast, Int.toNat_natCast, e]
  exact ⟨rows, cols, rfl, h1, h2⟩

theorem sumsI6 {R C : Nat} {M : Nat → Nat → Rat} {g : List (List Qd)} (hg : QG R C M g) (hR2 : R ≤ 100) (f : Nat → Rat) {k : Nat} (hk : k ≤ 2000000) (hd : ∀ i, i < R → Dr k (f i)) (hM : ∀ i j, i < R → j < C → Dr 2000 (M i j)) (p : List Int) (y : Nat) (hp : p.getD 1 0 = (y : Int)) (hy : y < C) :
    ∀ (m i : Nat) (qs : List Qd), i ≤ R → R < m + i → QF R (fun j => if j < i then f j + M j y else f j) qs →
    ∃ qs', l_regret_sumsI_6 m g (R : Int) (i : Int) qs p = some (.exit (qs', p, ())) ∧ QF R (fun j => f j + M j y) qs'
  | 0, i, qs, h1, h2, _ => by omega
  | m + 1, i, qs, h1, h2, hq => by
    simp only [l_regret_sumsI_6]
    by_cases hi : i < R
    · have e4 : IntKind.i64.wrap ((i : Int) + 1) = ((i + 1 : Nat) : Int) := by rw [w64 _ (by omega) (by omega)]; omega
      have hl := hq.1
      have hgl := hg.1
      have hgi := hg.2 i hi
      have hgil := hgi.1
      have hqi := hq.at hi
      rw [if_neg (by omega)] at hqi
      obtain ⟨z, hz, hzq⟩ := qadd_ok hqi (hgi.at hy) (hd i hi) (hM i y hi hy) (by omega)
      rw [hp, if_pos (by simpa using hi), if_pos (by omega), if_pos (by omega), if_pos (by omega), if_pos (by omega), if_pos (by omega), Int.toNat_natCast, if_pos (by omega), Int.toNat_natCast, hz, Option.bind_some, if_pos (by omega), if_pos (by omega), e4]
      refine sumsI6 hg hR2 f hk hd hM p y hp hy m (i + 1) _ (by omega) (by omega) ((hq.set hi hzq).ext fun j hj => ?_)
      by_cases e : j = i
      · subst e; rw [if_pos rfl, if_pos (by omega)]
      · by_cases e2 : j < i
        · rw [if_neg e, if_pos e2, if_pos (by omega)]
        · rw [if_neg e, if_neg e2, if_neg (by omega)]
    · rw [if_neg (by simpa using hi)]
      have : i = R := by omega
      subst this
      exact ⟨qs, rfl, hq.ext fun j hj => if_pos hj⟩
theorem sumsI11 {R C : Nat} {M : Nat → Nat → Rat} {g : List (List Qd)} (hg : QG R C M g) (hC2 : C ≤ 100) (f : Nat → Rat) {k : Nat} (hk : k ≤ 2000000) (hd : ∀ i, i < C → Dr k (f i)) (hM : ∀ i j, i < R → j < C → Dr 2000 (M i j)) (p : List Int) (x : Nat) (hp : p.getD 0 0 = (x : Int)) (hx : x < R) :
    ∀ (m i : Nat) (qs : List Qd), i ≤ C → C < m + i → QF C (fun j => if j < i then f j + M x j else f j) qs →
    ∃ qs', l_regret_sumsI_11 m g (C : Int) (i : Int) qs p = some (.exit (qs', p, ())) ∧ QF C (fun j => f j + M x j) qs'
  | 0, i, qs, h1, h2, _ => by omega
  | m + 1, i, qs, h1, h2, hq => by
    simp only [l_regret_sumsI_11]
    by_cases hi : i < C
    · have e4 : IntKind.i64.wrap ((i : Int) + 1) = ((i + 1 : Nat) : Int) := by rw [w64 _ (by omega) (by omega)]; omega
      have hl := hq.1
      have hgl := hg.1
      have hgi := hg.2 x hx
      have hgil := hgi.1
      have hqi := hq.at hi
      rw [if_neg (by omega)] at hqi
      obtain ⟨z, hz, hzq⟩ := qadd_ok hqi (hgi.at hi) (hd i hi) (hM x i hx hi) (by omega)
      rw [hp, if_pos (by simpa using hi), if_pos (by omega), if_pos (by omega), if_pos (by omega), if_pos (by omega), if_pos (by omega), Int.toNat_natCast, if_pos (by omega), Int.toNat_natCast, hz, Option.bind_some, if_pos (by omega), if_pos (by omega), e4]
      refine sumsI11 hg hC2 f hk hd hM p x hp hx m (i + 1) _ (by omega) (by omega) ((hq.set hi hzq).ext fun j hj => ?_)
      by_cases e : j = i
      · subst e; rw [if_pos rfl, if_pos (by omega)]
      · by_cases e2 : j < i
        · rw [if_neg e, if_pos e2, if_pos (by omega)]
        · rw [if_neg e, if_neg e2, if_neg (by omega)]
    · rw [if_neg (by simpa using hi)]
      have : i = C := by omega
      subst this
      exact ⟨qs, rfl, hq.ext fun j hj => if_pos hj⟩

theorem sumsI3 {R C : Nat} {M : Nat → Nat → Rat} {g : List (List Qd)} (hg : QG R C M g) (hR2 : R ≤ 12) (hC2 : C ≤ 12) (hM : ∀ i j, i < R → j < C → Dr 2000 (M i j)) (l : List (List Int)) (hl : l.length ≤ 200) (x y : Nat → Nat) (h : Rounds R C l x y) :
    ∀ (m k : Nat) (rows cols : List Qd), k ≤ l.length → l.length + 100 < m + k → QF R (fun i => fs (fun t => M i (y t)) k) rows → QF C (fun j => fs (fun t => M (x t) j) k) cols →
    ∃ rows' cols', l_regret_sumsI_3 m g l (l.length : Int) (k : Int) rows cols = some (.exit (rows', cols', ())) ∧ QF R (fun i => fs (fun t => M i (y t)) l.length) rows' ∧ QF C (fun j => fs (fun t => M (x t) j) l.length) cols'
  | 0, k, rows, cols, h1, h2, _, _ => by omega
  | m + 1, k, rows, cols, h1, h2, hr, hc => by
    simp only [l_regret_sumsI_3]
    by_cases hk : k < l.length
    · have e4 : IntKind.i64.wrap ((k : Int) + 1) = ((k + 1 : Nat) : Int) := by rw [w64 _ (by omega) (by omega)]; omega
      obtain ⟨hx, hy, ex, ey⟩ := h k hk
      have hb : (2000 + 1) * k + 1 ≤ 2000000 := by omega
      have d1 : ∀ i, i < R → Dr ((2000 + 1) * k + 1) (fs (fun t => M i (y t)) k) := fun i hi => dr_fs (n := k) fun t ht => hM i (y t) hi (h t (by omega)).2.1
      have d2 : ∀ j, j < C → Dr ((2000 + 1) * k + 1) (fs (fun t => M (x t) j) k) := fun j hj => dr_fs (n := k) fun t ht => hM (x t) j (h t (by omega)).1 hj
      obtain ⟨q1, g1, h3⟩ := sumsI6 hg (by omega) (fun i => fs (fun t => M i (y t)) k) hb d1 hM _ (y k) ey hy m 0 rows (by omega) (by omega) (hr.ext fun j hj => (if_neg (by omega)).symm)
      have g1 : l_regret_sumsI_6 m g (R : Int) 0 rows (l.getD k (List.replicate 2 0)) = _ := g1
      obtain ⟨q2, g2, h4⟩ := sumsI11 hg (by omega) (fun j => fs (fun t => M (x t) j) k) hb d2 hM _ (x k) ex hx m 0 cols (by omega) (by omega) (hc.ext fun j hj => (if_neg (by omega)).symm)
      have g2 : l_regret_sumsI_11 m g (C : Int) 0 cols (l.getD k (List.replicate 2 0)) = _ := g2
      rw [if_pos (by simpa using hk), if_pos (by omega), if_pos (by omega), Int.toNat_natCast, hr.1, g1]
      simp only
      rw [hc.1, g2]
      simp only
      rw [e4]
      exact sumsI3 hg hR2 hC2 hM l hl x y h m (k + 1) _ _ (by omega) (by omega) h3 h4
    · rw [if_neg (by simpa using hk)]
      have : k = l.length := by omega
      subst this
      exact ⟨_, _, rfl, hr, hc⟩

theorem sumsI_ok {R C : Nat} {M : Nat → Nat → Rat} {g : List (List Qd)} (hg : QG R C M g) (hR : 0 < R) (hR2 : R ≤ 12) (hC2 : C ≤ 12) (hM : ∀ i j, i < R → j < C → Dr 2000 (M i j)) (l : List (List Int)) (hl : l.length ≤ 200) (x y : Nat → Nat) (h : Rounds R C l x y) :
    ∃ rows cols, f_regret_sumsI fuel g l = some (rows, cols) ∧ QF R (fun i => fs (fun t => M i (y t)) l.length) rows ∧ QF C (fun j => fs (fun t => M (x t) j) l.length) cols := by
  have hf := fuel_ge (n := 2 ^ 100) (by decide)
  have hgl := hg.1
  have hg0 := (hg.2 0 hR).1
  have c1 : decide ((0 : Int) ≤ (R : Int) ∧ (R : Int) ≤ (R : Int) ∧ (R : Int) * 56 ≤ 281474976710656) = true := decide_eq_true (by omega)
  have c2 : decide ((0 : Int) ≤ (C : Int) ∧ (C : Int) ≤ (C : Int) ∧ (C : Int) * 56 ≤ 281474976710656) = true := decide_eq_true (by omega)
  obtain ⟨rows, cols, e, h1, h2⟩ := sumsI3 hg hR2 hC2 hM l hl x y h fuel 0 _ _ (by omega) (by omega) (QF.rep R) (QF.rep C)
  have e : l_regret_sumsI_3 fuel g l (l.length : Int) 0 (List.replicate R (false, ([], []))) (List.replicate C (false, ([], []))) = _ := e
  unfold f_regret_sumsI
  rw [hgl, hg0, if_pos (by omega), if_pos c1, if_pos c2, if_pos c1, if_pos c2, if_pos c2, Int.toNat_natCast, Int.toNat_natCast, e]
  exact ⟨rows, cols, rfl, h1, h2⟩

theorem rounds_spec {a : List (List ByteArray)} {R C : Nat} (ha : a.length = R) (ha0 : (a.getD 0 []).length = C) (hR : 0 < R) (hR2 : R ≤ 12) (hC2 : C ≤ 12) (l : List (List Int)) (hl : l.length ≤ 200) : ∀ (m i : Nat), i ≤ l.length → l.length < m + i →
    (∀ k, k < i → ∃ x y : Nat, x < R ∧ y < C ∧ (l.getD k (List.replicate 2 0)).getD 0 0 = (x : Int) ∧ (l.getD k (List.replicate 2 0)).getD 1 0 = (y : Int)) →
    (l_regret_Check_7 m a l (l.length : Int) (i : Int) = some (.ret (4, ()))) ∨
    ((∀ k, k < l.length → ∃ x y : Nat, x < R ∧ y < C ∧ (l.getD k (List.replicate 2 0)).getD 0 0 = (x : Int) ∧ (l.getD k (List.replicate 2 0)).getD 1 0 = (y : Int)) ∧ l_regret_Check_7 m a l (l.length : Int) (i : Int) = some (.exit ()))
  | 0, i, h1, h2, _ => by omega
  | m + 1, i, h1, h2, h3 => by
    simp only [l_regret_Check_7]
    by_cases hi : i < l.length
    · have e4 : IntKind.i64.wrap ((i : Int) + 1) = ((i + 1 : Nat) : Int) := by rw [w64 _ (by omega) (by omega)]; omega
      rw [if_pos (by simpa using hi), if_pos (by omega), if_pos (by omega), Int.toNat_natCast]
      generalize hX : (l.getD i (List.replicate 2 0)).getD 0 0 = X
      generalize hY : (l.getD i (List.replicate 2 0)).getD 1 0 = Y
      by_cases c1 : 0 ≤ X
      · rw [if_pos (by rw [decide_eq_false_iff_not]; omega)]
        by_cases c2 : X < (a.length : Int)
        · rw [if_pos (by rw [decide_eq_false_iff_not]; omega)]
          by_cases c3 : 0 ≤ Y
          · rw [if_pos (by rw [decide_eq_false_iff_not]; omega), if_pos (by omega)]
            by_cases c4 : Y < ((a.getD 0 []).length : Int)
            · rw [if_neg (by rw [decide_eq_true_eq]; omega), e4]
              refine rounds_spec ha ha0 hR hR2 hC2 l hl m (i + 1) (by omega) (by omega) fun k hk => ?_
              by_cases e : k = i
              · rw [e, hX, hY]; exact ⟨X.toNat, Y.toNat, by omega, by omega, by omega, by omega⟩
              · exact h3 k (by omega)
            · rw [if_pos (by rw [decide_eq_true_eq]; omega)]; exact .inl rfl
          · rw [if_neg (by rw [decide_eq_false_iff_not]; omega)]; exact .inl rfl
        · rw [if_neg (by rw [decide_eq_false_iff_not]; omega)]; exact .inl rfl
      · rw [if_neg (by rw [decide_eq_false_iff_not]; omega)]; exact .inl rfl
    · rw [if_neg (by simpa using hi)]
      exact .inr ⟨fun k hk => h3 k (by omega), rfl⟩

theorem rcheck_rounds {a : List (List ByteArray)} (ha : WM a) (l : List (List Int)) (hll : l.length ≤ 140737488351232) : (∃ e : Int, e ≠ 0 ∧ f_regret_Check fuel a l = some e) ∨
    (f_regret_Check fuel a l = some 0 ∧ l.length ≤ 200 ∧ ∃ R C M x y, 0 < R ∧ R ≤ 12 ∧ 0 < C ∧ C ≤ 12 ∧ Txt a R C M ∧ Rounds R C l x y) := by
  have hf := fuel_ge (n := 2 ^ 100) (by decide)
  unfold f_regret_Check
  rcases gcheck_spec ha with ⟨e, e0, g⟩ | ⟨g, R, C, M, hR, hR2, hC, hC2, hw, hM⟩
  · rw [g, Option.bind_some, if_pos (by simpa using e0)]
    exact .inl ⟨e, e0, rfl⟩
  · rw [g, Option.bind_some, if_neg (by decide)]
    by_cases h200 : l.length ≤ 200
    · rw [if_neg (by rw [decide_eq_true_eq]; omega)]
      rcases rounds_spec hM.1 hw hR hR2 hC2 l h200 fuel 0 (by omega) (by omega) (fun k hk => by omega) with h | ⟨h, g2⟩
      · have h : l_regret_Check_7 fuel a l (l.length : Int) 0 = _ := h
        rw [h]; exact .inl ⟨4, by decide, rfl⟩
      · have g2 : l_regret_Check_7 fuel a l (l.length : Int) 0 = _ := g2
        rw [g2]
        have h' : ∀ k, ∃ p : Nat × Nat, k < l.length → p.1 < R ∧ p.2 < C ∧ (l.getD k (List.replicate 2 0)).getD 0 0 = (p.1 : Int) ∧ (l.getD k (List.replicate 2 0)).getD 1 0 = (p.2 : Int) := fun k => by
          by_cases hk : k < l.length
          · obtain ⟨x, y, q⟩ := h k hk
            exact ⟨(x, y), fun _ => q⟩
          · exact ⟨(0, 0), fun hh => absurd hh hk⟩
        obtain ⟨F, hF⟩ := Classical.axiomOfChoice h'
        exact .inr ⟨rfl, h200, R, C, M, fun k => (F k).1, fun k => (F k).2, hR, hR2, hC, hC2, hM, fun k hk => hF k hk⟩
    · rw [if_pos (by rw [decide_eq_true_eq]; omega)]
      exact .inl ⟨2, by decide, rfl⟩

end Go.Proofs.YtkgjejengkmacaaDoor
