/- Bland's rule: no basis comes again. -/
import Derived.Test.YtcdcoeofhnfjdaaDoorYa
namespace Go.Proofs.YtcdcoeofhnfjdaaDoor
open Go Vm
theorem w8l : ∀ (L : Nat) (f : Nat → Nat), (∀ j, j ≤ L → f j < L) → ∃ a b, a < b ∧ b ≤ L ∧ f a = f b
 | 0, f, h => by have := h 0 (Nat.le_refl _); omega
 | L + 1, f, h => by
  by_cases c : ∃ a, a ≤ L ∧ f a = f (L + 1)
  ·obtain ⟨a, ha, e⟩ := c
   exact ⟨a, L + 1, by omega, by omega, e⟩
  ·have hne : ∀ a, a ≤ L → f a ≠ f (L + 1) := fun a ha e => c ⟨a, ha, e⟩
   obtain ⟨a, b, hab, hb, e⟩ := w8l L (fun j => if f j = L then f (L + 1) else f j) fun j hj => by
    have h1 := h j (by omega)
    have h2 := h (L + 1) (by omega)
    have h3 := hne j hj
    show (if f j = L then f (L + 1) else f j) < L
    split <;> omega
   refine ⟨a, b, hab, by omega, ?_⟩
   have e : (if f a = L then f (L + 1) else f a) = if f b = L then f (L + 1) else f b := e
   have h1 := hne a (by omega)
   have h2 := hne b (by omega)
   by_cases c1 : f a = L <;> by_cases c2 : f b = L
   ·omega
   ·rw [if_pos c1, if_neg c2] at e; omega
   ·rw [if_neg c1, if_pos c2] at e; omega
   ·rw [if_neg c1, if_neg c2] at e; exact e
def code (f : Nat → Bool) : Nat → Nat
 | 0 => 0
 | n + 1 => 2 * code f n + if f n then 1 else 0
theorem w3l (f : Nat → Bool) : ∀ n : Nat, code f n < 2 ^ n
 | 0 => Nat.zero_lt_one
 | n + 1 => by
  have := w3l f n
  rw [code, Nat.pow_succ]
  split <;> omega
theorem code_inj {f g : Nat → Bool} : ∀ {n : Nat}, code f n = code g n → ∀ v, v < n → f v = g v
 | 0, _, v, h => by omega
 | n + 1, h, v, hv => by
  rw [code, code] at h
  have h1 : code f n = code g n ∧ f n = g n := by
   cases hf : f n <;> cases hg : g n <;> rw [hf, hg] at h <;> simp only [Bool.false_eq_true, if_false, if_true] at h
   ·exact ⟨by omega, rfl⟩
   ·omega
   ·omega
   ·exact ⟨by omega, rfl⟩
  by_cases e : v = n
  ·rw [e]; exact h1.2
  ·exact code_inj h1.1 v (by omega)
def isb (β : Nat → Nat) : Nat → Nat → Bool
 | 0, _ => false
 | m + 1, v => isb β m v || β m == v
theorem zf7 {β : Nat → Nat} {v : Nat} : ∀ {m : Nat}, isb β m v = true ↔ ∃ i, i < m ∧ β i = v
 | 0 => by simp [isb]
 | m + 1 => by
  rw [isb, Bool.or_eq_true, zf7, beq_iff_eq]
  constructor
  ·rintro (⟨i, hi, e⟩ | e)
   ·exact ⟨i, by omega, e⟩
   ·exact ⟨m, by omega, e⟩
  ·rintro ⟨i, hi, e⟩
   by_cases h : i = m
   ·subst h; exact .inr e
   ·exact .inl ⟨i, by omega, e⟩
theorem change {f : Nat → Bool} {a b : Nat} (ha : f a = true) (hb : f b = false) : ∀ d, b = a + d → ∃ j, a ≤ j ∧ j < b ∧ f j = true ∧ f (j + 1) = false
 | 0, e => by rw [show b = a by omega, ha] at hb; cases hb
 | d + 1, e => by
  by_cases c : f (a + d) = true
  ·exact ⟨a + d, by omega, by omega, c, by rw [show a + d + 1 = b by omega]; exact hb⟩
  ·obtain ⟨j, h1, h2, h3⟩ := change (b := a + d) ha (by simpa using c) d rfl
   exact ⟨j, h1, by omega, h3⟩
theorem y7i {P : Nat → Prop} : ∀ n : Nat, (∃ v, v < n ∧ P v) → ∃ t, t < n ∧ P t ∧ ∀ v, v < n → P v → v ≤ t
 | 0, ⟨v, h, _⟩ => by omega
 | n + 1, h => by
  by_cases c : P n
  ·exact ⟨n, by omega, c, fun v hv _ => by omega⟩
  ·obtain ⟨v, hv, hp⟩ := h
   have : v ≠ n := fun e => c (e ▸ hp)
   obtain ⟨t, h1, h2, h3⟩ := y7i n ⟨v, by omega, hp⟩
   refine ⟨t, by omega, h2, fun v hv hp => ?_⟩
   have : v ≠ n := fun e => c (e ▸ hp)
   exact h3 v (by omega) hp
def Ent (m cols : Nat) (T : Nat → Nat → Rat) (k : Nat) : Prop := k < cols ∧ T m k < 0 ∧ ∀ q, q < k → 0 ≤ T m q
def Lvs (m side : Nat) (β : Nat → Nat) (T : Nat → Nat → Rat) (k p : Nat) : Prop :=
 p < m ∧ 0 < T p k ∧ ∀ i, i < m → 0 < T i k → T p side / T p k ≤ T i side / T i k ∧ (T p side / T p k = T i side / T i k → β p ≤ β i)
theorem yb5 {a b : Rat} (ha : 0 ≤ a) (hb : 0 < b) : 0 ≤ a / b := by
 rw [Rat.div_def]
 exact Rat.mul_nonneg ha (Rat.le_of_lt (Rat.inv_pos.2 hb))
theorem yz8 {a b : Rat} (hb : b ≠ 0) : b * (a / b) = a := by
 have := Rat.mul_inv_cancel b hb
 rw [Rat.div_def]; grind
theorem w2l {m side : Nat} {β : Nat → Nat} {T : Nat → Nat → Rat} (h : ∀ i, i < m → 0 ≤ T i side) {k p : Nat} (hl : Lvs m side β T k p) : ∀ i, i < m → 0 ≤ piv p k T i side := fun i hi => by
 obtain ⟨hp, hpos, hmin⟩ := hl
 have hq := yb5 (h p hp) hpos
 unfold piv
 by_cases e : i = p
 ·rw [if_pos e]; exact hq
 ·rw [if_neg e]
  have h1 := h i hi
  by_cases c : 0 < T i k
  ·have h2 := (hmin i hi c).1
   have h3 := Rat.mul_le_mul_of_nonneg_left h2 (Rat.le_of_lt c)
   rw [yz8 (a := T i side) (by grind)] at h3
   grind
  ·have c' : 0 ≤ -(T i k) := by have := Rat.not_lt.1 c; grind
   have h2 := Rat.mul_nonneg c' hq
   grind
section
variable {m n N cols side : Nat} {M : Nat → Nat → Rat} {c : Nat → Rat}
structure Chain (m n N cols side : Nat) (M : Nat → Nat → Rat) (c : Nat → Rat) (L : Nat) (β : Nat → Nat → Nat) (T : Nat → Nat → Nat → Rat) (k p : Nat → Nat) : Prop where
 tab : ∀ j, j ≤ L → Tab m n N M c (β j) (T j)
 pos : ∀ j, j ≤ L → ∀ i, i < m → 0 ≤ T j i side
 lt : ∀ j, j ≤ L → ∀ i, i < m → β j i < cols
 ent : ∀ j, j < L → Ent m cols (T j) (k j)
 lvs : ∀ j, j < L → Lvs m side (β j) (T j) (k j) (p j)
 bs : ∀ j, j < L → β (j + 1) = ub (p j) (k j) (β j)
 ts : ∀ j, j < L → T (j + 1) = piv (p j) (k j) (T j)
theorem w9k {f g : Nat → Rat} {n : Nat} (h : ∀ i, i < n → f i ≤ g i) : fs f n ≤ fs g n := by
 have := zr0 (f := fun i => g i - f i) (n := n) fun i hi => by have := h i hi; grind
 rw [w07] at this
 grind
theorem w6i (hcs : cols ≤ side) (hsN : side < N) {L : Nat} {β : Nat → Nat → Nat} {T : Nat → Nat → Nat → Rat} {k p : Nat → Nat} (h : Chain m n N cols side M c L β T k p) : L < 2 ^ cols := by
 apply Decidable.byContradiction
 intro hL
 obtain ⟨a, b, hab, hb, hcode⟩ := w8l (2 ^ cols) (fun j => code (isb (β j) m) cols) fun j _ => w3l _ _
 have hsame : ∀ v, v < cols → isb (β a) m v = isb (β b) m v := code_inj hcode
 have hbL : b ≤ L := by omega
 -- values do not fall
 have hval : ∀ j, j < L → T j m side ≤ T (j + 1) m side ∧ (T j m side = T (j + 1) m side → T j (p j) side = 0) := fun j hj => by
  obtain ⟨hp, hpos, _⟩ := h.lvs j hj
  obtain ⟨_, hneg, _⟩ := h.ent j hj
  have hq := yb5 (h.pos j (by omega) (p j) hp) hpos
  have e : T (j + 1) m side = T j m side - T j m (k j) * (T j (p j) side / T j (p j) (k j)) := by
   rw [h.ts j hj]
   unfold piv
   rw [if_neg (by omega)]
  have h1 : 0 ≤ -(T j m (k j)) := by grind
  have h2 := Rat.mul_nonneg h1 hq
  refine ⟨by rw [e]; grind, fun e' => ?_⟩
  rw [e] at e'
  have h3 : T j m (k j) * (T j (p j) side / T j (p j) (k j)) = 0 := by grind
  rcases Rat.mul_eq_zero.1 h3 with h4 | h4
  ·grind
  ·have h5 := yz8 (a := T j (p j) side) (b := T j (p j) (k j)) (by grind)
   rw [h4] at h5; grind
 have hmono : ∀ d j, j + d ≤ L → T j m side ≤ T (j + d) m side := fun d => by
  induction d with
  | zero => intro j _; exact Rat.le_refl
  | succ d ih =>
   intro j hj
   exact Rat.le_trans (ih j (by omega)) (hval (j + d) (by omega)).1
 have heq : T a m side = T b m side := by
  have h1 := (h.tab a (by omega)).two (h.tab b hbL) hsN
  have h2 : fs (fun i => T b m (β a i) * T a i side) m = fs (fun _ => 0) m := z1r fun i hi => by
   have h3 : isb (β b) m (β a i) = true := by
    rw [← hsame _ (h.lt a (by omega) i hi)]
    exact zf7.2 ⟨i, hi, rfl⟩
   obtain ⟨i', hi', e'⟩ := zf7.1 h3
   rw [← e', (h.tab b hbL).zero i' hi']; grind
  rw [h2, z43] at h1
  grind
 have hconst : ∀ j, a ≤ j → j < b → T j (p j) side = 0 := fun j h1 h2 => by
  refine (hval j (by omega)).2 ?_
  have m1 := hmono (j - a) a (by omega)
  have m2 := (hval j (by omega)).1
  have m3 := hmono (b - (j + 1)) (j + 1) (by omega)
  rw [show a + (j - a) = j by omega] at m1
  rw [show j + 1 + (b - (j + 1)) = b by omega] at m3
  grind
 -- the values of the columns do not change
 have hxv : ∀ j, a ≤ j → j < b → ∀ v, fs (fun i => if β (j + 1) i = v then T (j + 1) i side else 0) m = fs (fun i => if β j i = v then T j i side else 0) m := fun j h1 h2 v => by
  have hz := hconst j h1 h2
  refine z1r fun i hi => ?_
  rw [h.bs j (by omega), h.ts j (by omega)]
  unfold ub piv
  have hz' : T j (p j) side / T j (p j) (k j) = 0 := by rw [hz, Rat.div_def]; grind
  rw [hz']
  by_cases e : i = p j
  ·rw [if_pos e, if_pos e, e, hz]
   by_cases e1 : k j = v <;> by_cases e2 : β j (p j) = v <;> simp [e1, e2]
  ·rw [if_neg e, if_neg e]
   have : T j i side - T j i (k j) * 0 = T j i side := by grind
   rw [this]
 have hxv' : ∀ d j, a ≤ j → j + d ≤ b → ∀ v, fs (fun i => if β (j + d) i = v then T (j + d) i side else 0) m = fs (fun i => if β j i = v then T j i side else 0) m := fun d => by
  induction d with
  | zero => intro j _ _ v; rfl
  | succ d ih =>
   intro j h1 h2 v
   have := hxv (j + d) (by omega) (by omega) v
   rw [show j + d + 1 = j + (d + 1) by omega] at this
   rw [this]
   exact ih j h1 (by omega) v
 have hinj : ∀ j, j ≤ L → ∀ r i, r < m → i < m → β j r = β j i → r = i := fun j hj r i hr hi e => (h.tab j hj).bas.inj hr hi e
 have hat : ∀ j, j ≤ L → ∀ i, i < m → fs (fun r => if β j r = β j i then T j r side else 0) m = T j i side := fun j hj i hi => by
  have e : fs (fun r => if β j r = β j i then T j r side else 0) m = fs (fun r => if r = i then T j i side else 0) m := z1r fun r hr => by
   by_cases e1 : r = i
   ·rw [if_pos e1, if_pos (by rw [e1]), e1]
   ·rw [if_neg e1, if_neg fun e2 => e1 (hinj j hj r i hr hi e2)]
  rw [e, w4b, if_pos hi]
 have hfick : ∀ j j', a ≤ j → j ≤ b → a ≤ j' → j' ≤ b → ∀ i, i < m → isb (β j') m (β j i) = false → T j i side = 0 := fun j j' h1 h2 h3 h4 i hi hn => by
  have g1 := hxv' (j - a) a (Nat.le_refl _) (by omega) (β j i)
  have g2 := hxv' (j' - a) a (Nat.le_refl _) (by omega) (β j i)
  rw [show a + (j - a) = j by omega, hat j (by omega) i hi] at g1
  rw [show a + (j' - a) = j' by omega] at g2
  have g3 : fs (fun r => if β j' r = β j i then T j' r side else 0) m = fs (fun _ => 0) m := z1r fun r hr => by
   rw [if_neg fun e => ?_]
   have : isb (β j') m (β j i) = true := zf7.2 ⟨r, hr, e⟩
   rw [hn] at this; cases this
  rw [g3, z43] at g2
  rw [g1, ← g2]
 -- the y7i column that changes
 have hbasic : ∀ j, j < L → isb (β j) m (k j) = false ∧ isb (β (j + 1)) m (k j) = true := fun j hj => by
  obtain ⟨hp, _, _⟩ := h.lvs j hj
  obtain ⟨_, hneg, _⟩ := h.ent j hj
  constructor
  ·cases hb : isb (β j) m (k j) with
   | false => rfl
   | true =>
    obtain ⟨i, hi, e⟩ := zf7.1 hb
    have := (h.tab j (by omega)).zero i hi
    rw [e] at this
    rw [this] at hneg
    exact absurd hneg (by decide)
  ·rw [h.bs j hj]
   exact zf7.2 ⟨p j, hp, by unfold ub; rw [if_pos rfl]⟩
 obtain ⟨t, htc, ⟨j1, j2, hj1, hj1', hj2, hj2', ht1, ht2⟩, hmax⟩ := y7i (P := fun v => ∃ j j', a ≤ j ∧ j ≤ b ∧ a ≤ j' ∧ j' ≤ b ∧ isb (β j) m v = true ∧ isb (β j') m v = false) cols
  ⟨k a, (h.ent a (by omega)).1, a + 1, a, by omega, by omega, by omega, by omega, (hbasic a (by omega)).2, (hbasic a (by omega)).1⟩
 have hleave : ∃ l, a ≤ l ∧ l < b ∧ isb (β l) m t = true ∧ isb (β (l + 1)) m t = false := by
  by_cases c : j1 < j2
  ·obtain ⟨l, h1, h2, h3, h4⟩ := change (f := fun j => isb (β j) m t) ht1 ht2 (j2 - j1) (by omega)
   exact ⟨l, by omega, by omega, h3, h4⟩
  ·by_cases hbt : isb (β b) m t = true
   ·have hat' : isb (β a) m t = true := by rw [hsame t htc]; exact hbt
    obtain ⟨l, h1, h2, h3, h4⟩ := change (f := fun j => isb (β j) m t) hat' ht2 (j2 - a) (by omega)
    exact ⟨l, by omega, by omega, h3, h4⟩
   ·obtain ⟨l, h1, h2, h3, h4⟩ := change (f := fun j => isb (β j) m t) ht1 (by simpa using hbt) (b - j1) (by omega)
    exact ⟨l, by omega, by omega, h3, h4⟩
 have henter : ∃ e, a ≤ e ∧ e < b ∧ isb (β e) m t = false ∧ isb (β (e + 1)) m t = true := by
  have flip : ∀ {x y : Nat}, isb (β x) m t = false → isb (β y) m t = true → x < y → ∃ l, x ≤ l ∧ l < y ∧ isb (β l) m t = false ∧ isb (β (l + 1)) m t = true := fun {x y} hx hy hxy => by
   obtain ⟨l, h1, h2, h3, h4⟩ := change (f := fun j => !isb (β j) m t) (a := x) (b := y) (by simpa using hx) (by simpa using hy) (y - x) (by omega)
   exact ⟨l, h1, h2, by simpa using h3, by simpa using h4⟩
  by_cases c : j2 < j1
  ·obtain ⟨l, h1, h2, h3⟩ := flip ht2 ht1 c
   exact ⟨l, by omega, by omega, h3⟩
  ·by_cases hbt : isb (β b) m t = true
   ·have : j2 ≠ b := fun e => by rw [e, hbt] at ht2; cases ht2
    obtain ⟨l, h1, h2, h3⟩ := flip ht2 hbt (by omega)
    exact ⟨l, by omega, by omega, h3⟩
   ·have hat' : isb (β a) m t = false := by rw [hsame t htc]; simpa using hbt
    have : j1 ≠ a := fun e => by rw [e, hat'] at ht1; cases ht1
    obtain ⟨l, h1, h2, h3⟩ := flip hat' ht1 (by omega)
    exact ⟨l, by omega, by omega, h3⟩
 obtain ⟨l, l1, l2, l3, l4⟩ := hleave
 obtain ⟨e, e1, e2, e3, e4⟩ := henter
 have hke : k e = t := by
  obtain ⟨i, hi, hi'⟩ := zf7.1 e4
  rw [h.bs e (by omega)] at hi'
  unfold ub at hi'
  by_cases c : i = p e
  ·rw [if_pos c] at hi'; exact hi'
  ·rw [if_neg c] at hi'
   have : isb (β e) m t = true := zf7.2 ⟨i, hi, hi'⟩
   rw [e3] at this; cases this
 obtain ⟨hpl, hppos, hpmin⟩ := h.lvs l (by omega)
 have hpt : β l (p l) = t := by
  obtain ⟨i, hi, hi'⟩ := zf7.1 l3
  by_cases c : i = p l
  ·rw [← c]; exact hi'
  ·have : isb (β (l + 1)) m t = true := zf7.2 ⟨i, hi, by rw [h.bs l (by omega)]; unfold ub; rw [if_neg c]; exact hi'⟩
   rw [l4] at this; cases this
 obtain ⟨hsc, hsneg, hsfirst⟩ := h.ent l (by omega)
 obtain ⟨_, htneg, htfirst⟩ := h.ent e (by omega)
 rw [hke] at htneg htfirst
 have hbl := hbasic l (by omega)
 have hst : k l < t := by
  have h1 := hmax (k l) hsc ⟨l + 1, l, by omega, by omega, by omega, by omega, hbl.2, hbl.1⟩
  have h2 : k l ≠ t := fun e => by rw [← e, hbl.1] at l3; cases l3
  omega
 have hes := htfirst (k l) hst
 have htwo := (h.tab l (by omega)).two (h.tab e (by omega)) (s := k l) (by omega)
 have hex : ∃ i, i < m ∧ 0 < T e m (β l i) * T l i (k l) := by
  apply Classical.byContradiction
  intro hno
  have h1 : fs (fun i => T e m (β l i) * T l i (k l)) m ≤ fs (fun _ => 0) m := w9k fun i hi => by
   have : ¬ 0 < T e m (β l i) * T l i (k l) := fun h => hno ⟨i, hi, h⟩
   grind
  rw [z43] at h1
  grind
 obtain ⟨i, hi, hpos⟩ := hex
 have hnz : T e m (β l i) ≠ 0 := fun h0 => by rw [h0] at hpos; grind
 have hnb : isb (β e) m (β l i) = false := by
  cases hb : isb (β e) m (β l i) with
  | false => rfl
  | true =>
   obtain ⟨i', hi', e'⟩ := zf7.1 hb
   exact absurd (by rw [← e']; exact (h.tab e (by omega)).zero i' hi') hnz
 have hlt : β l i < t := by
  have h1 := hmax (β l i) (h.lt l (by omega) i hi) ⟨l, e, by omega, by omega, by omega, by omega, zf7.2 ⟨i, hi, rfl⟩, hnb⟩
  have h2 : β l i ≠ t := fun he => by
   have := hinj l (by omega) i (p l) hi hpl (by rw [he, hpt])
   rw [this, hpt] at hpos
   have g1 : 0 ≤ -(T e m t) := by grind
   have g2 := Rat.mul_nonneg g1 (Rat.le_of_lt hppos)
   grind
  omega
 have hge := htfirst (β l i) hlt
 have hik : 0 < T l i (k l) := by
  apply Classical.byContradiction
  intro hno
  have g1 : 0 ≤ -(T l i (k l)) := by grind
  have g2 := Rat.mul_nonneg hge g1
  grind
 have hside := hfick l e (by omega) (by omega) (by omega) (by omega) i hi hnb
 have hp0 := hconst l l1 l2
 have := (hpmin i hi hik).2 (by rw [hside, hp0, Rat.div_def, Rat.div_def]; grind)
 omega
end
end Go.Proofs.YtcdcoeofhnfjdaaDoor
