/- The simplex method: steps until nothing improves, or there is no bound; its two copies. -/
import Derived.Test.YtcdcoeofhnfjdaaDoorSb
namespace Go.Proofs.YtcdcoeofhnfjdaaDoor
open Go Vm
theorem Chain.snoc {m n N cols side L : Nat} {M : Nat → Nat → Rat} {c : Nat → Rat} {β : Nat → Nat → Nat} {T : Nat → Nat → Nat → Rat} {k p : Nat → Nat} (h : Chain m n N cols side M c L β T k p)
  (hn : n + m ≤ N) (hM : ∀ i, i < m → ∀ j, j < m → M i (n + j) = one i j) (hcN : cols ≤ N) {q r : Nat} (he : Ent m cols (T L) q) (hl : Lvs m side (β L) (T L) q r) :
  ∃ β' T' k' p', Chain m n N cols side M c (L + 1) β' T' k' p' ∧ β' (L + 1) = ub r q (β L) ∧ T' (L + 1) = piv r q (T L) := by
 have hq : q < N := Nat.lt_of_lt_of_le he.1 hcN
 have h0 : T L r q ≠ 0 := by have := hl.2.1; grind
 have ht := (h.tab L (Nat.le_refl _)).pivot hn hM hl.1 hq h0
 have hs := w2l (h.pos L (Nat.le_refl _)) hl
 refine ⟨fun j => if j ≤ L then β j else ub r q (β L), fun j => if j ≤ L then T j else piv r q (T L), fun j => if j < L then k j else q, fun j => if j < L then p j else r, ⟨fun j hj => ?_, fun j hj i hi => ?_, fun j hj i hi => ?_, fun j hj => ?_, fun j hj => ?_, fun j hj => ?_, fun j hj => ?_⟩, ?_, ?_⟩
 ·show Tab m n N M c (if j ≤ L then β j else ub r q (β L)) (if j ≤ L then T j else piv r q (T L))
  by_cases e : j ≤ L
  ·rw [if_pos e, if_pos e]; exact h.tab j e
  ·rw [if_neg e, if_neg e]; exact ht
 ·show 0 ≤ (if j ≤ L then T j else piv r q (T L)) i side
  by_cases e : j ≤ L
  ·rw [if_pos e]; exact h.pos j e i hi
  ·rw [if_neg e]; exact hs i hi
 ·show (if j ≤ L then β j else ub r q (β L)) i < cols
  by_cases e : j ≤ L
  ·rw [if_pos e]; exact h.lt j e i hi
  ·rw [if_neg e]; unfold ub
   by_cases e2 : i = r
   ·rw [if_pos e2]; exact he.1
   ·rw [if_neg e2]; exact h.lt L (Nat.le_refl _) i hi
 ·show Ent m cols (if j ≤ L then T j else piv r q (T L)) (if j < L then k j else q)
  rw [if_pos (show j ≤ L by omega)]
  by_cases e : j < L
  ·rw [if_pos e]; exact h.ent j e
  ·rw [if_neg e, show j = L by omega]; exact he
 ·show Lvs m side (if j ≤ L then β j else ub r q (β L)) (if j ≤ L then T j else piv r q (T L)) (if j < L then k j else q) (if j < L then p j else r)
  rw [if_pos (show j ≤ L by omega), if_pos (show j ≤ L by omega)]
  by_cases e : j < L
  ·rw [if_pos e, if_pos e]; exact h.lvs j e
  ·rw [if_neg e, if_neg e, show j = L by omega]; exact hl
 ·show (if j + 1 ≤ L then β (j + 1) else ub r q (β L)) = ub (if j < L then p j else r) (if j < L then k j else q) (if j ≤ L then β j else ub r q (β L))
  rw [if_pos (show j ≤ L by omega)]
  by_cases e : j < L
  ·rw [if_pos e, if_pos e, if_pos (show j + 1 ≤ L by omega)]; exact h.bs j e
  ·rw [if_neg e, if_neg e, if_neg (show ¬ j + 1 ≤ L by omega), show j = L by omega]
 ·show (if j + 1 ≤ L then T (j + 1) else piv r q (T L)) = piv (if j < L then p j else r) (if j < L then k j else q) (if j ≤ L then T j else piv r q (T L))
  rw [if_pos (show j ≤ L by omega)]
  by_cases e : j < L
  ·rw [if_pos e, if_pos e, if_pos (show j + 1 ≤ L by omega)]; exact h.ts j e
  ·rw [if_neg e, if_neg e, if_neg (show ¬ j + 1 ≤ L by omega), show j = L by omega]
 ·show (if L + 1 ≤ L then β (L + 1) else ub r q (β L)) = _
  rw [if_neg (by omega)]
 ·show (if L + 1 ≤ L then T (L + 1) else piv r q (T L)) = _
  rw [if_neg (by omega)]
theorem rsA {R C m n cols : Nat} (hC : C ≤ 100) (hR : m < R) (hR' : R ≤ 100) (hcs : cols ≤ C) {T : Nat → Nat → Rat} {g : List (List Qd)} (hg : QG R C T g) {bl : List Int} : ∀ (f k : Nat), k ≤ cols → cols < f + k → (∀ q, q < k → 0 ≤ T m q) →
  ∃ k' : Nat, z1e f (cols : Int) (k : Int) (n : Int) (m : Int) g bl = some (.exit ((k' : Int), (n : Int), (m : Int), g, bl, ())) ∧ ((k' = cols ∧ ∀ q, q < cols → 0 ≤ T m q) ∨ Ent m cols T k')
 | 0, k, h1, h2, _ => by omega
 | f + 1, k, h1, h2, hk => by
  have lg := hg.1
  simp only [z1e]
  by_cases hc : k < cols
  ·have e4 : IntKind.i64.wrap ((k : Int) + 1) = ((k + 1 : Nat) : Int) := by rw [w64 _ (by omega) (by omega)]; omega
   have hr := hg.2 m hR
   have lr := hr.1
   have hq := hr.at (i := k) (by omega)
   rw [if_pos (by simpa using hc), if_pos (by omega), if_pos (by omega), if_pos (by omega), Int.toNat_natCast, if_pos (by omega), Int.toNat_natCast, z8f hq, Option.bind_some, e4]
   by_cases c : 0 ≤ T m k
   ·have := y5q.2 c
    rw [if_pos (by rw [decide_eq_true_eq]; omega)]
    refine rsA hC hR hR' hcs hg f (k + 1) (by omega) (by omega) fun q hq => ?_
    by_cases e : q = k
    ·subst e; exact c
    ·exact hk q (by omega)
   ·have : (T m k).num.sign < 0 := zc4.2 (by grind)
    rw [if_neg (by rw [decide_eq_true_eq]; omega)]
    exact ⟨k, rfl, .inr ⟨hc, by grind, hk⟩⟩
  ·rw [if_neg (by simpa using hc)]
   have : k = cols := by omega
   subst this
   exact ⟨k, rfl, .inl ⟨rfl, hk⟩⟩
theorem runA {K m n cols : Nat} (hm : m ≤ 20) (hn : n ≤ 20) (hK : K ≤ 4000000) {M : Nat → Nat → Rat} {c : Nat → Rat} (hM : ∀ i, i < m → ∀ j, j < m → M i (n + j) = one i j) (hgood : Good (m + 1) (n + m + 2 + 1) K (gM m (n + m + 2) M c)) (hcs : cols ≤ n + m + 1) :
  ∀ (f L : Nat) (β : Nat → Nat → Nat) (T : Nat → Nat → Nat → Rat) (k p : Nat → Nat), Chain m n (n + m + 2) cols (n + m + 1) M c L β T k p → 2 ^ cols + 1000 ≤ f + L → ∀ g : List (List Qd), QG (m + 1) (n + m + 2) (T L) g →
  ∃ (r : Int) (β' : Nat → Nat) (T' : Nat → Nat → Rat) (g' : List (List Qd)), z11 f (cols : Int) (n : Int) (m : Int) g (bL m (β L)) = some (.ret (r, (n : Int), (m : Int), g', bL m β', ())) ∧ Tab m n (n + m + 2) M c β' T' ∧
   (∀ i, i < m → 0 ≤ T' i (n + m + 1)) ∧ (∀ i, i < m → β' i < cols) ∧ QG (m + 1) (n + m + 2) T' g' ∧ ((r = -1 ∧ ∀ q, q < cols → 0 ≤ T' m q) ∨ ∃ q : Nat, r = (q : Int) ∧ q < cols ∧ T' m q < 0 ∧ ∀ i, i < m → ¬ 0 < T' i q)
 | 0, L, β, T, k, p, hch, hf, g, hg => by have := w6i hcs (by omega) hch; omega
 | f + 1, L, β, T, k, p, hch, hf, g, hg => by
  have hL := w6i hcs (by omega) hch
  have lg := hg.1
  have htab := hch.tab L (Nat.le_refl _)
  have hdr := htab.dr hgood
  have lb := z5a (m := m) (β := β L)
  have e2 : cols < 2 ^ cols := Nat.lt_two_pow_self
  obtain ⟨q, s1, s2⟩ := rsA (n := n) (m := m) (cols := cols) (bl := bL m (β L)) (by omega) (by omega) (by omega) (by omega) hg f 0 (by omega) (by omega) (fun q hq => by omega)
  have s1 : z1e f (cols : Int) 0 (n : Int) (m : Int) g (bL m (β L)) = _ := s1
  simp only [z11]
  rw [s1]
  simp only
  rcases s2 with ⟨rfl, s2⟩ | he
  ·rw [if_pos (by simp)]
   exact ⟨-1, β L, T L, g, rfl, htab, hch.pos L (Nat.le_refl _), hch.lt L (Nat.le_refl _), hg, .inl ⟨rfl, s2⟩⟩
  ·have hq := he.1
   rw [if_neg (show ¬ (((q : Nat) : Int) == ((cols : Nat) : Int)) = true by rw [beq_iff_eq]; omega)]
   rcases yc1 (β := β L) (m := m) (n := n) (k := q) (by omega) (by omega) (by omega) rfl hK hg (by omega) hdr with ⟨l1, l2⟩ | ⟨r, l1, hl⟩
   ·rw [l1, Option.bind_some, if_pos (by decide)]
    exact ⟨(q : Int), β L, T L, g, rfl, htab, hch.pos L (Nat.le_refl _), hch.lt L (Nat.le_refl _), hg, .inr ⟨q, rfl, hq, he.2.1, l2⟩⟩
   ·have hr := hl.1
    have lr := (hg.2 r (by omega)).1
    have h0 : T L r q ≠ 0 := by have := hl.2.1; grind
    obtain ⟨β', T', k', p', c1, c2, c3⟩ := hch.snoc (by omega) hM (by omega) he hl
    have hdr' := (c1.tab (L + 1) (Nat.le_refl _)).dr hgood
    rw [c3] at hdr'
    obtain ⟨g1, g2, v1, v2, v3⟩ := pvA (u := (n : Int)) (v := (m : Int)) (bl := bL m (β L)) (p := r) (k := q) (R := m + 1) (C := n + m + 2) (by omega) (by omega) hK (by omega) (by omega) h0 hdr hdr' hg (m := f) (by omega)
    rw [l1, Option.bind_some, if_neg (show ¬ decide (((r : Nat) : Int) < 0) = true by rw [decide_eq_true_eq]; omega), if_pos (by omega), if_pos (by omega), if_pos (by omega)]
    simp only [Int.toNat_natCast]
    rw [if_pos (show ((q : Nat) : Int) < (((g.getD r ([] : List Qd)).length : Nat) : Int) by omega), if_pos (by omega), if_pos (by omega), v1]
    simp only
    rw [v2]
    simp only
    rw [if_pos (by omega), if_pos (by omega), yz0 hr, ← c2]
    exact runA hm hn hK hM hgood hcs f (L + 1) β' T' k' p' c1 (by omega) g2 (by rw [c3]; exact v3)
theorem rsC {R C m n cols : Nat} (hC : C ≤ 100) (hR : m < R) (hR' : R ≤ 100) (hcs : cols ≤ C) {T : Nat → Nat → Rat} {g : List (List Qd)} (hg : QG R C T g) {bl : List Int} : ∀ (f k : Nat), k ≤ cols → cols < f + k → (∀ q, q < k → 0 ≤ T m q) →
  ∃ k' : Nat, z0g f (cols : Int) (k : Int) (n : Int) (m : Int) g bl = some (.exit ((k' : Int), (n : Int), (m : Int), g, bl, ())) ∧ ((k' = cols ∧ ∀ q, q < cols → 0 ≤ T m q) ∨ Ent m cols T k')
 | 0, k, h1, h2, _ => by omega
 | f + 1, k, h1, h2, hk => by
  have lg := hg.1
  simp only [z0g]
  by_cases hc : k < cols
  ·have e4 : IntKind.i64.wrap ((k : Int) + 1) = ((k + 1 : Nat) : Int) := by rw [w64 _ (by omega) (by omega)]; omega
   have hr := hg.2 m hR
   have lr := hr.1
   have hq := hr.at (i := k) (by omega)
   rw [if_pos (by simpa using hc), if_pos (by omega), if_pos (by omega), if_pos (by omega), Int.toNat_natCast, if_pos (by omega), Int.toNat_natCast, z8f hq, Option.bind_some, e4]
   by_cases c : 0 ≤ T m k
   ·have := y5q.2 c
    rw [if_pos (by rw [decide_eq_true_eq]; omega)]
    refine rsC hC hR hR' hcs hg f (k + 1) (by omega) (by omega) fun q hq => ?_
    by_cases e : q = k
    ·subst e; exact c
    ·exact hk q (by omega)
   ·have : (T m k).num.sign < 0 := zc4.2 (by grind)
    rw [if_neg (by rw [decide_eq_true_eq]; omega)]
    exact ⟨k, rfl, .inr ⟨hc, by grind, hk⟩⟩
  ·rw [if_neg (by simpa using hc)]
   have : k = cols := by omega
   subst this
   exact ⟨k, rfl, .inl ⟨rfl, hk⟩⟩
theorem runC {K m n cols : Nat} (hm : m ≤ 20) (hn : n ≤ 20) (hK : K ≤ 4000000) {M : Nat → Nat → Rat} {c : Nat → Rat} (hM : ∀ i, i < m → ∀ j, j < m → M i (n + j) = one i j) (hgood : Good (m + 1) (n + m + 2 + 1) K (gM m (n + m + 2) M c)) (hcs : cols ≤ n + m + 1) :
  ∀ (f L : Nat) (β : Nat → Nat → Nat) (T : Nat → Nat → Nat → Rat) (k p : Nat → Nat), Chain m n (n + m + 2) cols (n + m + 1) M c L β T k p → 2 ^ cols + 1000 ≤ f + L → ∀ g : List (List Qd), QG (m + 1) (n + m + 2) (T L) g →
  ∃ (r : Int) (β' : Nat → Nat) (T' : Nat → Nat → Rat) (g' : List (List Qd)), z0m f (cols : Int) (n : Int) (m : Int) g (bL m (β L)) = some (.ret (r, (n : Int), (m : Int), g', bL m β', ())) ∧ Tab m n (n + m + 2) M c β' T' ∧
   (∀ i, i < m → 0 ≤ T' i (n + m + 1)) ∧ (∀ i, i < m → β' i < cols) ∧ QG (m + 1) (n + m + 2) T' g' ∧ ((r = -1 ∧ ∀ q, q < cols → 0 ≤ T' m q) ∨ ∃ q : Nat, r = (q : Int) ∧ q < cols ∧ T' m q < 0 ∧ ∀ i, i < m → ¬ 0 < T' i q)
 | 0, L, β, T, k, p, hch, hf, g, hg => by have := w6i hcs (by omega) hch; omega
 | f + 1, L, β, T, k, p, hch, hf, g, hg => by
  have hL := w6i hcs (by omega) hch
  have lg := hg.1
  have htab := hch.tab L (Nat.le_refl _)
  have hdr := htab.dr hgood
  have lb := z5a (m := m) (β := β L)
  have e2 : cols < 2 ^ cols := Nat.lt_two_pow_self
  obtain ⟨q, s1, s2⟩ := rsC (n := n) (m := m) (cols := cols) (bl := bL m (β L)) (by omega) (by omega) (by omega) (by omega) hg f 0 (by omega) (by omega) (fun q hq => by omega)
  have s1 : z0g f (cols : Int) 0 (n : Int) (m : Int) g (bL m (β L)) = _ := s1
  simp only [z0m]
  rw [s1]
  simp only
  rcases s2 with ⟨rfl, s2⟩ | he
  ·rw [if_pos (by simp)]
   exact ⟨-1, β L, T L, g, rfl, htab, hch.pos L (Nat.le_refl _), hch.lt L (Nat.le_refl _), hg, .inl ⟨rfl, s2⟩⟩
  ·have hq := he.1
   rw [if_neg (show ¬ (((q : Nat) : Int) == ((cols : Nat) : Int)) = true by rw [beq_iff_eq]; omega)]
   rcases yc1 (β := β L) (m := m) (n := n) (k := q) (by omega) (by omega) (by omega) rfl hK hg (by omega) hdr with ⟨l1, l2⟩ | ⟨r, l1, hl⟩
   ·rw [l1, Option.bind_some, if_pos (by decide)]
    exact ⟨(q : Int), β L, T L, g, rfl, htab, hch.pos L (Nat.le_refl _), hch.lt L (Nat.le_refl _), hg, .inr ⟨q, rfl, hq, he.2.1, l2⟩⟩
   ·have hr := hl.1
    have lr := (hg.2 r (by omega)).1
    have h0 : T L r q ≠ 0 := by have := hl.2.1; grind
    obtain ⟨β', T', k', p', c1, c2, c3⟩ := hch.snoc (by omega) hM (by omega) he hl
    have hdr' := (c1.tab (L + 1) (Nat.le_refl _)).dr hgood
    rw [c3] at hdr'
    obtain ⟨g1, g2, v1, v2, v3⟩ := pvC (u := (n : Int)) (v := (m : Int)) (bl := bL m (β L)) (p := r) (k := q) (R := m + 1) (C := n + m + 2) (by omega) (by omega) hK (by omega) (by omega) h0 hdr hdr' hg (m := f) (by omega)
    rw [l1, Option.bind_some, if_neg (show ¬ decide (((r : Nat) : Int) < 0) = true by rw [decide_eq_true_eq]; omega), if_pos (by omega), if_pos (by omega), if_pos (by omega)]
    simp only [Int.toNat_natCast]
    rw [if_pos (show ((q : Nat) : Int) < (((g.getD r ([] : List Qd)).length : Nat) : Int) by omega), if_pos (by omega), if_pos (by omega), v1]
    simp only
    rw [v2]
    simp only
    rw [if_pos (by omega), if_pos (by omega), yz0 hr, ← c2]
    exact runC hm hn hK hM hgood hcs f (L + 1) β' T' k' p' c1 (by omega) g2 (by rw [c3]; exact v3)
end Go.Proofs.YtcdcoeofhnfjdaaDoor
