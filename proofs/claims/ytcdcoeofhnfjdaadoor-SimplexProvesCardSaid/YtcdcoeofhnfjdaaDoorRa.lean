/- What the functions on rational numbers compute. -/
import Derived.Test.YtcdcoeofhnfjdaaDoorNo
namespace Go.Proofs.YtcdcoeofhnfjdaaDoor
open Go Vm
abbrev Qd := Bool × ((List Int) × (List Int))
theorem w7t {r : Rat} {q : Qd} (h : QR r q) : ((q.2.1.length : Int) == 0) = decide (r = 0) := by
 rw [h.2.1, z1e, Bool.eq_iff_iff, beq_iff_eq, decide_eq_true_eq, ← Rat.num_eq_zero]
 constructor
 ·intro e
  have : (cn r.num.natAbs).length = 0 := by omega
  have := yp5.1 this
  omega
 ·intro e
  rw [e]
  show (((cn 0).length : Nat) : Int) = 0
  rw [z4n]; rfl
theorem zy1 {r : Rat} {q : Qd} (h : QR r q) (h0 : r = 0) : ((q.2.1.length : Int) == 0) = true := by rw [w7t h]; simpa using h0
theorem zr0 {r : Rat} {q : Qd} (h : QR r q) (h0 : r ≠ 0) : ((q.2.1.length : Int) == 0) = false := by rw [w7t h]; simpa using h0
theorem zk0 {r : Rat} {q : Qd} (h : QR r q) : z2w fuel q = some (zs (cn r.den)) := by
 unfold z2w
 rcases h.2.2 with e | ⟨h0, e⟩
 ·have := z8k r.den_nz
  rw [if_neg (fun x => by have := beq_iff_eq.1 x; rw [e, z1e] at this; omega), e]
 ·subst h0
  rw [if_pos (by rw [e]; rfl), of_one, Option.bind_some]
  rfl
theorem w6y {r : Rat} {q : Qd} (h : QR r q) (h0 : r ≠ 0) : q.2.2 = zs (cn r.den) := h.2.2.elim id fun x => absurd x.1 h0
theorem yj8 (neg : Bool) {p d : Nat} (hp : Sz p) (hd : Sz d) (h0 : 0 < d) : ∃ q, za8 fuel neg (zs (cn p)) (zs (cn d)) = some q ∧ QR (mkRat (sgn neg p) d) q := by
 unfold za8
 by_cases h : p = 0
 ·subst h
  refine ⟨(false, [], []), ?_, ?_⟩
  ·rw [z4n, if_pos (by rfl)]
  ·rw [w6q, y82]; exact zk8
 ·have hg : 0 < Nat.gcd p d := Nat.gcd_pos_of_pos_right _ h0
  have hgd : Nat.gcd p d ≤ d := Nat.le_of_dvd h0 (Nat.gcd_dvd_right p d)
  have hs1 : Sz 1 := y8e h0 hd
  have hpl := z8k h
  rw [if_neg (fun x => by have := beq_iff_eq.1 x; rw [z1e] at this; omega), w3l hp hd, Option.bind_some, of_one, Option.bind_some, yw5 (y8e hgd hd) hs1, Option.bind_some]
  have hq := wc7 neg h (show d ≠ 0 by omega)
  by_cases h1 : 1 < Nat.gcd p d
  ·rw [if_neg (show ¬ Nat.gcd p d < 1 by omega), if_pos h1, if_pos (by decide), yx3 hp (y8e hgd hd) hg, Option.bind_some, yx3 hd (y8e hgd hd) hg, Option.bind_some]
   exact ⟨_, rfl, hq⟩
  ·have hg1 : Nat.gcd p d = 1 := by omega
   rw [hg1, if_neg (by decide)]
   rw [hg1, Nat.div_one, Nat.div_one] at hq
   exact ⟨_, rfl, hq⟩
theorem w9a {a : Bool} {p q : Nat} : sgn a (p + q) = sgn a p + sgn a q := by cases a <;> simp [sgn]; omega
theorem w4x {a b : Bool} {p q : Nat} (hab : (a == b) = false) (h : q ≤ p) : sgn a (p - q) = sgn a p + sgn b q := by
 cases a <;> cases b <;> simp [sgn] at hab ⊢ <;> omega
theorem yu4 (a : Bool) (p q : Nat) : sgn a (p * q) = sgn a p * (q : Int) := by cases a <;> simp [sgn, Int.neg_mul]
theorem yt0 {r s : Rat} {x y : Qd} {k l : Nat} (hx : QR r x) (hy : QR s y) (hr : Dr k r) (hs : Dr l s) (hk : k + l ≤ 37000000) : ∃ z, z6w fuel x y = some z ∧ QR (r + s) z := by
 unfold z6w
 by_cases h1 : r = 0
 ·rw [if_pos (zy1 hx h1)]
  refine ⟨y, rfl, ?_⟩
  rw [h1, Rat.zero_add]; exact hy
 rw [if_neg (by rw [zr0 hx h1]; simp)]
 by_cases h2 : s = 0
 ·rw [if_pos (zy1 hy h2)]
  refine ⟨x, rfl, ?_⟩
  rw [h2, Rat.add_zero]; exact hx
 rw [if_neg (by rw [zr0 hy h2]; simp)]
 have b1 := zt3 hr.1 hs.2
 have b2 := zt3 hs.1 hr.2
 have b3 := zt3 hr.2 hs.2
 have b4 : r.num.natAbs * s.den + s.num.natAbs * r.den < 10 ^ (k + l + 1) := w7j b1 (by rw [Nat.add_comm k l]; exact b2)
 have z1 : Sz (r.num.natAbs * s.den) := zb9 b1 (by omega)
 have z2 : Sz (s.num.natAbs * r.den) := zb9 b2 (by omega)
 have z3 : Sz (r.den * s.den) := zb9 b3 (by omega)
 have z4 : Sz (r.num.natAbs * s.den + s.num.natAbs * r.den) := zb9 b4 (by omega)
 have hd : 0 < r.den * s.den := Nat.mul_pos (Nat.pos_of_ne_zero r.den_nz) (Nat.pos_of_ne_zero s.den_nz)
 have hval : r + s = mkRat (sgn x.1 (r.num.natAbs * s.den) + sgn y.1 (s.num.natAbs * r.den)) (r.den * s.den) := by
  rw [Rat.add_def', yu4, yu4, hx.1, hy.1, y4x, y4x]
 rw [zk0 hy, Option.bind_some, hx.2.1, y3o (zb9 hr.1 (by omega)) (zb9 hs.2 (by omega)), Option.bind_some, zk0 hx, Option.bind_some, hy.2.1, y3o (zb9 hs.1 (by omega)) (zb9 hr.2 (by omega)), Option.bind_some, Option.bind_some, Option.bind_some, y3o (zb9 hr.2 (by omega)) (zb9 hs.2 (by omega)), Option.bind_some]
 by_cases hab : (x.1 == y.1) = true
 ·rw [if_pos hab, w9v z1 z2, Option.bind_some]
  obtain ⟨z, e, hz⟩ := yj8 x.1 z4 z3 hd
  rw [e, Option.bind_some]
  refine ⟨z, rfl, ?_⟩
  rw [hval, ← beq_iff_eq.1 hab, ← w9a]; exact hz
 ·have hab' : (x.1 == y.1) = false := by simpa using hab
  rw [if_neg hab, yw5 z1 z2, Option.bind_some]
  by_cases hlt : r.num.natAbs * s.den < s.num.natAbs * r.den
  ·rw [if_pos hlt, if_neg (by decide), w7w z2 (by omega), Option.bind_some]
   obtain ⟨z, e, hz⟩ := yj8 y.1 (y8e (Nat.sub_le _ (r.num.natAbs * s.den)) z2) z3 hd
   rw [e, Option.bind_some]
   refine ⟨z, rfl, ?_⟩
   rw [hval, Int.add_comm, ← w4x (by cases h : x.1 <;> cases h' : y.1 <;> simp [h, h'] at hab' ⊢) (by omega)]; exact hz
  ·rw [if_neg hlt, if_pos (by split <;> decide), w7w z1 (by omega), Option.bind_some]
   obtain ⟨z, e, hz⟩ := yj8 x.1 (y8e (Nat.sub_le _ (s.num.natAbs * r.den)) z1) z3 hd
   rw [e, Option.bind_some]
   refine ⟨z, rfl, ?_⟩
   rw [hval, ← w4x hab' (by omega)]; exact hz
theorem yd5 {r : Rat} {x : Qd} (hx : QR r x) : ∃ z, z8b fuel x = some z ∧ QR (-r) z := by
 unfold z8b
 by_cases h1 : r = 0
 ·rw [if_pos (zy1 hx h1)]
  refine ⟨x, rfl, ?_⟩
  rw [h1] at hx ⊢
  exact hx
 ·rw [if_neg (by rw [zr0 hx h1]; simp)]
  refine ⟨_, rfl, ?_, ?_, ?_⟩
  ·show (!x.1) = _
   have hn : r.num ≠ 0 := fun e => h1 (Rat.num_eq_zero.1 e)
   rw [hx.1, Rat.neg_num]
   by_cases h : r.num < 0
   ·rw [show decide (r.num < 0) = true by simpa using h, show decide (-r.num < 0) = false by simp; omega]; rfl
   ·rw [show decide (r.num < 0) = false by simpa using h, show decide (-r.num < 0) = true by simp; omega]; rfl
  ·rw [Rat.neg_num, Int.natAbs_neg]; exact hx.2.1
  ·have e := w6y hx h1
   rw [Rat.neg_den]; exact .inl e
theorem zy2 {r s : Rat} {x y : Qd} {k l : Nat} (hx : QR r x) (hy : QR s y) (hr : Dr k r) (hs : Dr l s) (hk : k + l ≤ 37000000) : ∃ z, z50 fuel x y = some z ∧ QR (r - s) z := by
 unfold z50
 obtain ⟨z, e, hz⟩ := yd5 hy
 rw [e, Option.bind_some]
 obtain ⟨u, e', hu⟩ := yt0 hx hz hr (y33 hs) hk
 rw [e', Option.bind_some]
 exact ⟨u, rfl, by rw [Rat.sub_eq_add_neg]; exact hu⟩
theorem z4s {r : Rat} {x : Qd} (hx : QR r x) : z1i fuel x = some r.num.sign := by
 unfold z1i
 by_cases h1 : r = 0
 ·rw [if_pos (zy1 hx h1), h1]; rfl
 ·have hn : r.num ≠ 0 := fun e => h1 (Rat.num_eq_zero.1 e)
  rw [if_neg (by rw [zr0 hx h1]; simp), hx.1]
  by_cases h : r.num < 0
  ·rw [if_pos (by simpa using h), Int.sign_eq_neg_one_of_neg h]
  ·rw [if_neg (by simpa using h), Int.sign_eq_one_of_pos (by omega)]
theorem yd4 {r s : Rat} {x y : Qd} {k l : Nat} (hx : QR r x) (hy : QR s y) (hr : Dr k r) (hs : Dr l s) (hk : k + l ≤ 37000000) : z6x fuel x y = some (r - s).num.sign := by
 unfold z6x
 obtain ⟨z, e, hz⟩ := zy2 hx hy hr hs hk
 rw [e, Option.bind_some, z4s hz, Option.bind_some]
theorem y27 {r s : Rat} {x y : Qd} {k l : Nat} (hx : QR r x) (hy : QR s y) (hr : Dr k r) (hs : Dr l s) (hk : k + l ≤ 37000000) : ∃ z, z36 fuel x y = some z ∧ QR (r * s) z := by
 unfold z36
 by_cases h1 : r = 0
 ·rw [if_neg (by rw [zy1 hx h1]; simp)]
  refine ⟨_, rfl, ?_⟩
  rw [h1, Rat.zero_mul]; exact zk8
 rw [if_pos (zr0 hx h1)]
 by_cases h2 : s = 0
 ·rw [if_pos (zy1 hy h2)]
  refine ⟨_, rfl, ?_⟩
  rw [h2, Rat.mul_zero]; exact zk8
 rw [if_neg (by rw [zr0 hy h2]; simp)]
 have z1 := zb9 (zt3 hr.1 hs.1) (by omega)
 have z2 := zb9 (zt3 hr.2 hs.2) (by omega)
 have hd : 0 < r.den * s.den := Nat.mul_pos (Nat.pos_of_ne_zero r.den_nz) (Nat.pos_of_ne_zero s.den_nz)
 obtain ⟨z, e, hz⟩ := yj8 (x.1 != y.1) z1 z2 hd
 have hval : r * s = mkRat (sgn (x.1 != y.1) (r.num.natAbs * s.num.natAbs)) (r.den * s.den) := by
  rw [Rat.mul_def', w4w, hx.1, hy.1, y4x, y4x]
 rw [hx.2.1, hy.2.1, y3o (zb9 hr.1 (by omega)) (zb9 hs.1 (by omega)), Option.bind_some, zk0 hx, Option.bind_some, zk0 hy, Option.bind_some, y3o (zb9 hr.2 (by omega)) (zb9 hs.2 (by omega)), Option.bind_some]
 have hb : (!(x.1 == y.1)) = (x.1 != y.1) := rfl
 rw [hb, e, Option.bind_some]
 exact ⟨z, rfl, by rw [hval]; exact hz⟩
theorem w8c {r s : Rat} (hs : s ≠ 0) : r / s = mkRat (sgn (decide (r.num < 0) != decide (s.num < 0)) (r.num.natAbs * s.den)) (r.den * s.num.natAbs) := by
 have hn : s.num ≠ 0 := fun e => hs (Rat.num_eq_zero.1 e)
 rw [Rat.div_def, ← Rat.mkRat_self s⁻¹, Rat.num_inv, Rat.den_inv, if_neg hn]
 conv => lhs; rw [← Rat.mkRat_self r]
 rw [Rat.mkRat_mul_mkRat, yu4]
 congr 1
 rw [← Int.mul_assoc]
 congr 1
 conv => lhs; rw [← y4x r]
 have : s.num.sign = sgn (decide (s.num < 0)) 1 := by
  by_cases h : s.num < 0
  ·rw [show decide (s.num < 0) = true by simpa using h, Int.sign_eq_neg_one_of_neg h]; rfl
  ·rw [show decide (s.num < 0) = false by simpa using h, Int.sign_eq_one_of_pos (by omega)]; rfl
 rw [this, ← w4w, Nat.mul_one]
theorem yd6 {r s : Rat} {x y : Qd} {k l : Nat} (hx : QR r x) (hy : QR s y) (hr : Dr k r) (hs : Dr l s) (hk : k + l ≤ 37000000) (h2 : s ≠ 0) : ∃ z, z5l fuel x y = some z ∧ QR (r / s) z := by
 unfold z5l
 by_cases h1 : r = 0
 ·rw [if_neg (by rw [zy1 hx h1]; simp)]
  refine ⟨_, rfl, ?_⟩
  rw [h1, Rat.div_def, Rat.zero_mul]; exact zk8
 rw [if_pos (zr0 hx h1), if_neg (by rw [zr0 hy h2]; simp)]
 have hn : s.num ≠ 0 := fun e => h2 (Rat.num_eq_zero.1 e)
 have z1 := zb9 (zt3 hr.1 hs.2) (by omega)
 have z2 := zb9 (zt3 hr.2 hs.1) (by omega)
 have hd : 0 < r.den * s.num.natAbs := Nat.mul_pos (Nat.pos_of_ne_zero r.den_nz) (by omega)
 obtain ⟨z, e, hz⟩ := yj8 (x.1 != y.1) z1 z2 hd
 rw [zk0 hy, Option.bind_some, hx.2.1, y3o (zb9 hr.1 (by omega)) (zb9 hs.2 (by omega)), Option.bind_some, zk0 hx, Option.bind_some, hy.2.1, y3o (zb9 hr.2 (by omega)) (zb9 hs.1 (by omega)), Option.bind_some]
 have hb : (!(x.1 == y.1)) = (x.1 != y.1) := rfl
 rw [hb, e, Option.bind_some]
 refine ⟨z, rfl, ?_⟩
 rw [w8c h2, ← hx.1, ← hy.1]; exact hz
end Go.Proofs.YtcdcoeofhnfjdaaDoor
