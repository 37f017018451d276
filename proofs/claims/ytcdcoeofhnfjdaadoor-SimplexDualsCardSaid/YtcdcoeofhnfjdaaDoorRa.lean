/- What the functions on rational numbers compute. -/
import Derived.Test.YtcdcoeofhnfjdaaDoorNo
namespace Go.Proofs.YtcdcoeofhnfjdaaDoor
open Go Vm
abbrev Qd := Bool × ((List Int) × (List Int))
theorem w8o {r : Rat} {q : Qd} (h : QR r q) : ((q.2.1.length : Int) == 0) = decide (r = 0) := by
 rw [h.2.1, z1f, Bool.eq_iff_iff, beq_iff_eq, decide_eq_true_eq, ← Rat.num_eq_zero]
 constructor
 ·intro e
  have : (cn r.num.natAbs).length = 0 := by omega
  have := ys9.1 this
  omega
 ·intro e
  rw [e]
  show (((cn 0).length : Nat) : Int) = 0
  rw [z4p]; rfl
theorem y0s {r : Rat} {q : Qd} (h : QR r q) (h0 : r = 0) : ((q.2.1.length : Int) == 0) = true := by rw [w8o h]; simpa using h0
theorem zv3 {r : Rat} {q : Qd} (h : QR r q) (h0 : r ≠ 0) : ((q.2.1.length : Int) == 0) = false := by rw [w8o h]; simpa using h0
theorem zn9 {r : Rat} {q : Qd} (h : QR r q) : z34 fuel q = some (zs (cn r.den)) := by
 unfold z34
 rcases h.2.2 with e | ⟨h0, e⟩
 ·have := z8v r.den_nz
  rw [if_neg (fun x => by have := beq_iff_eq.1 x; rw [e, z1f] at this; omega), e]
 ·subst h0
  rw [if_pos (by rw [e]; rfl), of_one, Option.bind_some]
  rfl
theorem w7v {r : Rat} {q : Qd} (h : QR r q) (h0 : r ≠ 0) : q.2.2 = zs (cn r.den) := h.2.2.elim id fun x => absurd x.1 h0
theorem yn0 (neg : Bool) {p d : Nat} (hp : Sz p) (hd : Sz d) (h0 : 0 < d) : ∃ q, zd3 fuel neg (zs (cn p)) (zs (cn d)) = some q ∧ QR (mkRat (sgn neg p) d) q := by
 unfold zd3
 by_cases h : p = 0
 ·subst h
  refine ⟨(false, [], []), ?_, ?_⟩
  ·rw [z4p, if_pos (by rfl)]
  ·rw [w7m, y95]; exact y0t
 ·have hg : 0 < Nat.gcd p d := Nat.gcd_pos_of_pos_right _ h0
  have hgd : Nat.gcd p d ≤ d := Nat.le_of_dvd h0 (Nat.gcd_dvd_right p d)
  have hs1 : Sz 1 := y9i h0 hd
  have hpl := z8v h
  rw [if_neg (fun x => by have := beq_iff_eq.1 x; rw [z1f] at this; omega), w4d hp hd, Option.bind_some, of_one, Option.bind_some, yz3 (y9i hgd hd) hs1, Option.bind_some]
  have hq := wg1 neg h (show d ≠ 0 by omega)
  by_cases h1 : 1 < Nat.gcd p d
  ·rw [if_neg (show ¬ Nat.gcd p d < 1 by omega), if_pos h1, if_pos (by decide), w01 hp (y9i hgd hd) hg, Option.bind_some, w01 hd (y9i hgd hd) hg, Option.bind_some]
   exact ⟨_, rfl, hq⟩
  ·have hg1 : Nat.gcd p d = 1 := by omega
   rw [hg1, if_neg (by decide)]
   rw [hg1, Nat.div_one, Nat.div_one] at hq
   exact ⟨_, rfl, hq⟩
theorem wa8 {a : Bool} {p q : Nat} : sgn a (p + q) = sgn a p + sgn a q := by cases a <;> simp [sgn]; omega
theorem w5u {a b : Bool} {p q : Nat} (hab : (a == b) = false) (h : q ≤ p) : sgn a (p - q) = sgn a p + sgn b q := by
 cases a <;> cases b <;> simp [sgn] at hab ⊢ <;> omega
theorem yx6 (a : Bool) (p q : Nat) : sgn a (p * q) = sgn a p * (q : Int) := by cases a <;> simp [sgn, Int.neg_mul]
theorem wa4 {r s : Rat} {x y : Qd} {k l : Nat} (hx : QR r x) (hy : QR s y) (hr : Dr k r) (hs : Dr l s) (hk : k + l ≤ 37000000) : ∃ z, za4 fuel x y = some z ∧ QR (r + s) z := by
 unfold za4
 by_cases h1 : r = 0
 ·rw [if_pos (y0s hx h1)]
  refine ⟨y, rfl, ?_⟩
  rw [h1, Rat.zero_add]; exact hy
 rw [if_neg (by rw [zv3 hx h1]; simp)]
 by_cases h2 : s = 0
 ·rw [if_pos (y0s hy h2)]
  refine ⟨x, rfl, ?_⟩
  rw [h2, Rat.add_zero]; exact hx
 rw [if_neg (by rw [zv3 hy h2]; simp)]
 have b1 := zx7 hr.1 hs.2
 have b2 := zx7 hs.1 hr.2
 have b3 := zx7 hr.2 hs.2
 have b4 : r.num.natAbs * s.den + s.num.natAbs * r.den < 10 ^ (k + l + 1) := w8g b1 (by rw [Nat.add_comm k l]; exact b2)
 have z1 : Sz (r.num.natAbs * s.den) := ze7 b1 (by omega)
 have z2 : Sz (s.num.natAbs * r.den) := ze7 b2 (by omega)
 have z3 : Sz (r.den * s.den) := ze7 b3 (by omega)
 have z4 : Sz (r.num.natAbs * s.den + s.num.natAbs * r.den) := ze7 b4 (by omega)
 have hd : 0 < r.den * s.den := Nat.mul_pos (Nat.pos_of_ne_zero r.den_nz) (Nat.pos_of_ne_zero s.den_nz)
 have hval : r + s = mkRat (sgn x.1 (r.num.natAbs * s.den) + sgn y.1 (s.num.natAbs * r.den)) (r.den * s.den) := by
  rw [Rat.add_def', yx6, yx6, hx.1, hy.1, y5x, y5x]
 rw [zn9 hy, Option.bind_some, hx.2.1, y4l (ze7 hr.1 (by omega)) (ze7 hs.2 (by omega)), Option.bind_some, zn9 hx, Option.bind_some, hy.2.1, y4l (ze7 hs.1 (by omega)) (ze7 hr.2 (by omega)), Option.bind_some, Option.bind_some, Option.bind_some, y4l (ze7 hr.2 (by omega)) (ze7 hs.2 (by omega)), Option.bind_some]
 by_cases hab : (x.1 == y.1) = true
 ·rw [if_pos hab, wc9 z1 z2, Option.bind_some]
  obtain ⟨z, e, hz⟩ := yn0 x.1 z4 z3 hd
  rw [e, Option.bind_some]
  refine ⟨z, rfl, ?_⟩
  rw [hval, ← beq_iff_eq.1 hab, ← wa8]; exact hz
 ·have hab' : (x.1 == y.1) = false := by simpa using hab
  rw [if_neg hab, yz3 z1 z2, Option.bind_some]
  by_cases hlt : r.num.natAbs * s.den < s.num.natAbs * r.den
  ·rw [if_pos hlt, if_neg (by decide), w8r z2 (by omega), Option.bind_some]
   obtain ⟨z, e, hz⟩ := yn0 y.1 (y9i (Nat.sub_le _ (r.num.natAbs * s.den)) z2) z3 hd
   rw [e, Option.bind_some]
   refine ⟨z, rfl, ?_⟩
   rw [hval, Int.add_comm, ← w5u (by cases h : x.1 <;> cases h' : y.1 <;> simp [h, h'] at hab' ⊢) (by omega)]; exact hz
  ·rw [if_neg hlt, if_pos (by split <;> decide), w8r z1 (by omega), Option.bind_some]
   obtain ⟨z, e, hz⟩ := yn0 x.1 (y9i (Nat.sub_le _ (s.num.natAbs * r.den)) z1) z3 hd
   rw [e, Option.bind_some]
   refine ⟨z, rfl, ?_⟩
   rw [hval, ← w5u hab' (by omega)]; exact hz
theorem y9a {r : Rat} {x : Qd} (hx : QR r x) : ∃ z, z71 fuel x = some z ∧ QR (-r) z := by
 unfold z71
 by_cases h1 : r = 0
 ·rw [if_pos (y0s hx h1)]
  refine ⟨x, rfl, ?_⟩
  rw [h1] at hx ⊢
  exact hx
 ·rw [if_neg (by rw [zv3 hx h1]; simp)]
  refine ⟨_, rfl, ?_, ?_, ?_⟩
  ·show (!x.1) = _
   have hn : r.num ≠ 0 := fun e => h1 (Rat.num_eq_zero.1 e)
   rw [hx.1, Rat.neg_num]
   by_cases h : r.num < 0
   ·rw [show decide (r.num < 0) = true by simpa using h, show decide (-r.num < 0) = false by simp; omega]; rfl
   ·rw [show decide (r.num < 0) = false by simpa using h, show decide (-r.num < 0) = true by simp; omega]; rfl
  ·rw [Rat.neg_num, Int.natAbs_neg]; exact hx.2.1
  ·have e := w7v hx h1
   rw [Rat.neg_den]; exact .inl e
theorem y5s {r s : Rat} {x y : Qd} {k l : Nat} (hx : QR r x) (hy : QR s y) (hr : Dr k r) (hs : Dr l s) (hk : k + l ≤ 37000000) : ∃ z, z52 fuel x y = some z ∧ QR (r - s) z := by
 unfold z52
 obtain ⟨z, e, hz⟩ := y9a hy
 rw [e, Option.bind_some]
 obtain ⟨u, e', hu⟩ := wa4 hx hz hr (zp9 hs) hk
 rw [e', Option.bind_some]
 exact ⟨u, rfl, by rw [Rat.sub_eq_add_neg]; exact hu⟩
theorem z8f {r : Rat} {x : Qd} (hx : QR r x) : z1k fuel x = some r.num.sign := by
 unfold z1k
 by_cases h1 : r = 0
 ·rw [if_pos (y0s hx h1), h1]; rfl
 ·have hn : r.num ≠ 0 := fun e => h1 (Rat.num_eq_zero.1 e)
  rw [if_neg (by rw [zv3 hx h1]; simp), hx.1]
  by_cases h : r.num < 0
  ·rw [if_pos (by simpa using h), Int.sign_eq_neg_one_of_neg h]
  ·rw [if_neg (by simpa using h), Int.sign_eq_one_of_pos (by omega)]
theorem w5g {r s : Rat} {x y : Qd} {k l : Nat} (hx : QR r x) (hy : QR s y) (hr : Dr k r) (hs : Dr l s) (hk : k + l ≤ 37000000) : z70 fuel x y = some (r - s).num.sign := by
 unfold z70
 obtain ⟨z, e, hz⟩ := y5s hx hy hr hs hk
 rw [e, Option.bind_some, z8f hz, Option.bind_some]
theorem y99 {r s : Rat} {x y : Qd} {k l : Nat} (hx : QR r x) (hy : QR s y) (hr : Dr k r) (hs : Dr l s) (hk : k + l ≤ 37000000) : ∃ z, z3a fuel x y = some z ∧ QR (r * s) z := by
 unfold z3a
 by_cases h1 : r = 0
 ·rw [if_neg (by rw [y0s hx h1]; simp)]
  refine ⟨_, rfl, ?_⟩
  rw [h1, Rat.zero_mul]; exact y0t
 rw [if_pos (zv3 hx h1)]
 by_cases h2 : s = 0
 ·rw [if_pos (y0s hy h2)]
  refine ⟨_, rfl, ?_⟩
  rw [h2, Rat.mul_zero]; exact y0t
 rw [if_neg (by rw [zv3 hy h2]; simp)]
 have z1 := ze7 (zx7 hr.1 hs.1) (by omega)
 have z2 := ze7 (zx7 hr.2 hs.2) (by omega)
 have hd : 0 < r.den * s.den := Nat.mul_pos (Nat.pos_of_ne_zero r.den_nz) (Nat.pos_of_ne_zero s.den_nz)
 obtain ⟨z, e, hz⟩ := yn0 (x.1 != y.1) z1 z2 hd
 have hval : r * s = mkRat (sgn (x.1 != y.1) (r.num.natAbs * s.num.natAbs)) (r.den * s.den) := by
  rw [Rat.mul_def', w5t, hx.1, hy.1, y5x, y5x]
 rw [hx.2.1, hy.2.1, y4l (ze7 hr.1 (by omega)) (ze7 hs.1 (by omega)), Option.bind_some, zn9 hx, Option.bind_some, zn9 hy, Option.bind_some, y4l (ze7 hr.2 (by omega)) (ze7 hs.2 (by omega)), Option.bind_some]
 have hb : (!(x.1 == y.1)) = (x.1 != y.1) := rfl
 rw [hb, e, Option.bind_some]
 exact ⟨z, rfl, by rw [hval]; exact hz⟩
theorem w97 {r s : Rat} (hs : s ≠ 0) : r / s = mkRat (sgn (decide (r.num < 0) != decide (s.num < 0)) (r.num.natAbs * s.den)) (r.den * s.num.natAbs) := by
 have hn : s.num ≠ 0 := fun e => hs (Rat.num_eq_zero.1 e)
 rw [Rat.div_def, ← Rat.mkRat_self s⁻¹, Rat.num_inv, Rat.den_inv, if_neg hn]
 conv => lhs; rw [← Rat.mkRat_self r]
 rw [Rat.mkRat_mul_mkRat, yx6]
 congr 1
 rw [← Int.mul_assoc]
 congr 1
 conv => lhs; rw [← y5x r]
 have : s.num.sign = sgn (decide (s.num < 0)) 1 := by
  by_cases h : s.num < 0
  ·rw [show decide (s.num < 0) = true by simpa using h, Int.sign_eq_neg_one_of_neg h]; rfl
  ·rw [show decide (s.num < 0) = false by simpa using h, Int.sign_eq_one_of_pos (by omega)]; rfl
 rw [this, ← w5t, Nat.mul_one]
theorem yg9 {r s : Rat} {x y : Qd} {k l : Nat} (hx : QR r x) (hy : QR s y) (hr : Dr k r) (hs : Dr l s) (hk : k + l ≤ 37000000) (h2 : s ≠ 0) : ∃ z, z5m fuel x y = some z ∧ QR (r / s) z := by
 unfold z5m
 by_cases h1 : r = 0
 ·rw [if_neg (by rw [y0s hx h1]; simp)]
  refine ⟨_, rfl, ?_⟩
  rw [h1, Rat.div_def, Rat.zero_mul]; exact y0t
 rw [if_pos (zv3 hx h1), if_neg (by rw [zv3 hy h2]; simp)]
 have hn : s.num ≠ 0 := fun e => h2 (Rat.num_eq_zero.1 e)
 have z1 := ze7 (zx7 hr.1 hs.2) (by omega)
 have z2 := ze7 (zx7 hr.2 hs.1) (by omega)
 have hd : 0 < r.den * s.num.natAbs := Nat.mul_pos (Nat.pos_of_ne_zero r.den_nz) (by omega)
 obtain ⟨z, e, hz⟩ := yn0 (x.1 != y.1) z1 z2 hd
 rw [zn9 hy, Option.bind_some, hx.2.1, y4l (ze7 hr.1 (by omega)) (ze7 hs.2 (by omega)), Option.bind_some, zn9 hx, Option.bind_some, hy.2.1, y4l (ze7 hr.2 (by omega)) (ze7 hs.1 (by omega)), Option.bind_some]
 have hb : (!(x.1 == y.1)) = (x.1 != y.1) := rfl
 rw [hb, e, Option.bind_some]
 refine ⟨z, rfl, ?_⟩
 rw [w97 h2, ← hx.1, ← hy.1]; exact hz
end Go.Proofs.YtcdcoeofhnfjdaaDoor
