/- What the functions on rational numbers compute. -/
import Derived.Test.YtcdcoeofhnfjdaaDoorNo
namespace Go.Proofs.YtcdcoeofhnfjdaaDoor
open Go Vm
abbrev Qd := Bool × ((List Int) × (List Int))
theorem w93 {r : Rat} {q : Qd} (h : QR r q) : ((q.2.1.length : Int) == 0) = decide (r = 0) := by
 rw [h.2.1, z1i, Bool.eq_iff_iff, beq_iff_eq, decide_eq_true_eq, ← Rat.num_eq_zero]
 constructor
 ·intro e
  have : (cn r.num.natAbs).length = 0 := by omega
  have := yu7.1 this
  omega
 ·intro e
  rw [e]
  show (((cn 0).length : Nat) : Int) = 0
  rw [z4u]; rfl
theorem y0v {r : Rat} {q : Qd} (h : QR r q) (h0 : r = 0) : ((q.2.1.length : Int) == 0) = true := by rw [w93 h]; simpa using h0
theorem zv2 {r : Rat} {q : Qd} (h : QR r q) (h0 : r ≠ 0) : ((q.2.1.length : Int) == 0) = false := by rw [w93 h]; simpa using h0
theorem zo1 {r : Rat} {q : Qd} (h : QR r q) : z33 fuel q = some (zs (cn r.den)) := by
 unfold z33
 rcases h.2.2 with e | ⟨h0, e⟩
 ·have := z90 r.den_nz
  rw [if_neg (fun x => by have := beq_iff_eq.1 x; rw [e, z1i] at this; omega), e]
 ·subst h0
  rw [if_pos (by rw [e]; rfl), of_one, Option.bind_some]
  rfl
theorem w8a {r : Rat} {q : Qd} (h : QR r q) (h0 : r ≠ 0) : q.2.2 = zs (cn r.den) := h.2.2.elim id fun x => absurd x.1 h0
theorem yo7 (neg : Bool) {p d : Nat} (hp : Sz p) (hd : Sz d) (h0 : 0 < d) : ∃ q, zd4 fuel neg (zs (cn p)) (zs (cn d)) = some q ∧ QR (mkRat (sgn neg p) d) q := by
 unfold zd4
 by_cases h : p = 0
 ·subst h
  refine ⟨(false, [], []), ?_, ?_⟩
  ·rw [z4u, if_pos (by rfl)]
  ·rw [w82, y9h]; exact zv3
 ·have hg : 0 < Nat.gcd p d := Nat.gcd_pos_of_pos_right _ h0
  have hgd : Nat.gcd p d ≤ d := Nat.le_of_dvd h0 (Nat.gcd_dvd_right p d)
  have hs1 : Sz 1 := y9t h0 hd
  have hpl := z90 h
  rw [if_neg (fun x => by have := beq_iff_eq.1 x; rw [z1i] at this; omega), w4v hp hd, Option.bind_some, of_one, Option.bind_some, w0d (y9t hgd hd) hs1, Option.bind_some]
  have hq := wh6 neg h (show d ≠ 0 by omega)
  by_cases h1 : 1 < Nat.gcd p d
  ·rw [if_neg (show ¬ Nat.gcd p d < 1 by omega), if_pos h1, if_pos (by decide), w0k hp (y9t hgd hd) hg, Option.bind_some, w0k hd (y9t hgd hd) hg, Option.bind_some]
   exact ⟨_, rfl, hq⟩
  ·have hg1 : Nat.gcd p d = 1 := by omega
   rw [hg1, if_neg (by decide)]
   rw [hg1, Nat.div_one, Nat.div_one] at hq
   exact ⟨_, rfl, hq⟩
theorem wc1 {a : Bool} {p q : Nat} : sgn a (p + q) = sgn a p + sgn a q := by cases a <;> simp [sgn]; omega
theorem w69 {a b : Bool} {p q : Nat} (hab : (a == b) = false) (h : q ≤ p) : sgn a (p - q) = sgn a p + sgn b q := by
 cases a <;> cases b <;> simp [sgn] at hab ⊢ <;> omega
theorem yz5 (a : Bool) (p q : Nat) : sgn a (p * q) = sgn a p * (q : Int) := by cases a <;> simp [sgn, Int.neg_mul]
theorem w5x {r s : Rat} {x y : Qd} {k l : Nat} (hx : QR r x) (hy : QR s y) (hr : Dr k r) (hs : Dr l s) (hk : k + l ≤ 37000000) : ∃ z, z76 fuel x y = some z ∧ QR (r + s) z := by
 unfold z76
 by_cases h1 : r = 0
 ·rw [if_pos (y0v hx h1)]
  refine ⟨y, rfl, ?_⟩
  rw [h1, Rat.zero_add]; exact hy
 rw [if_neg (by rw [zv2 hx h1]; simp)]
 by_cases h2 : s = 0
 ·rw [if_pos (y0v hy h2)]
  refine ⟨x, rfl, ?_⟩
  rw [h2, Rat.add_zero]; exact hx
 rw [if_neg (by rw [zv2 hy h2]; simp)]
 have b1 := zx8 hr.1 hs.2
 have b2 := zx8 hs.1 hr.2
 have b3 := zx8 hr.2 hs.2
 have b4 : r.num.natAbs * s.den + s.num.natAbs * r.den < 10 ^ (k + l + 1) := w8v b1 (by rw [Nat.add_comm k l]; exact b2)
 have z1 : Sz (r.num.natAbs * s.den) := ze5 b1 (by omega)
 have z2 : Sz (s.num.natAbs * r.den) := ze5 b2 (by omega)
 have z3 : Sz (r.den * s.den) := ze5 b3 (by omega)
 have z4 : Sz (r.num.natAbs * s.den + s.num.natAbs * r.den) := ze5 b4 (by omega)
 have hd : 0 < r.den * s.den := Nat.mul_pos (Nat.pos_of_ne_zero r.den_nz) (Nat.pos_of_ne_zero s.den_nz)
 have hval : r + s = mkRat (sgn x.1 (r.num.natAbs * s.den) + sgn y.1 (s.num.natAbs * r.den)) (r.den * s.den) := by
  rw [Rat.add_def', yz5, yz5, hx.1, hy.1, y6b, y6b]
 rw [zo1 hy, Option.bind_some, hx.2.1, y4z (ze5 hr.1 (by omega)) (ze5 hs.2 (by omega)), Option.bind_some, zo1 hx, Option.bind_some, hy.2.1, y4z (ze5 hs.1 (by omega)) (ze5 hr.2 (by omega)), Option.bind_some, Option.bind_some, Option.bind_some, y4z (ze5 hr.2 (by omega)) (ze5 hs.2 (by omega)), Option.bind_some]
 by_cases hab : (x.1 == y.1) = true
 ·rw [if_pos hab, we3 z1 z2, Option.bind_some]
  obtain ⟨z, e, hz⟩ := yo7 x.1 z4 z3 hd
  rw [e, Option.bind_some]
  refine ⟨z, rfl, ?_⟩
  rw [hval, ← beq_iff_eq.1 hab, ← wc1]; exact hz
 ·have hab' : (x.1 == y.1) = false := by simpa using hab
  rw [if_neg hab, w0d z1 z2, Option.bind_some]
  by_cases hlt : r.num.natAbs * s.den < s.num.natAbs * r.den
  ·rw [if_pos hlt, if_neg (by decide), w96 z2 (by omega), Option.bind_some]
   obtain ⟨z, e, hz⟩ := yo7 y.1 (y9t (Nat.sub_le _ (r.num.natAbs * s.den)) z2) z3 hd
   rw [e, Option.bind_some]
   refine ⟨z, rfl, ?_⟩
   rw [hval, Int.add_comm, ← w69 (by cases h : x.1 <;> cases h' : y.1 <;> simp [h, h'] at hab' ⊢) (by omega)]; exact hz
  ·rw [if_neg hlt, if_pos (by split <;> decide), w96 z1 (by omega), Option.bind_some]
   obtain ⟨z, e, hz⟩ := yo7 x.1 (y9t (Nat.sub_le _ (s.num.natAbs * r.den)) z1) z3 hd
   rw [e, Option.bind_some]
   refine ⟨z, rfl, ?_⟩
   rw [hval, ← w69 hab' (by omega)]; exact hz
theorem yi3 {r : Rat} {x : Qd} (hx : QR r x) : ∃ z, z8p fuel x = some z ∧ QR (-r) z := by
 unfold z8p
 by_cases h1 : r = 0
 ·rw [if_pos (y0v hx h1)]
  refine ⟨x, rfl, ?_⟩
  rw [h1] at hx ⊢
  exact hx
 ·rw [if_neg (by rw [zv2 hx h1]; simp)]
  refine ⟨_, rfl, ?_, ?_, ?_⟩
  ·show (!x.1) = _
   have hn : r.num ≠ 0 := fun e => h1 (Rat.num_eq_zero.1 e)
   rw [hx.1, Rat.neg_num]
   by_cases h : r.num < 0
   ·rw [show decide (r.num < 0) = true by simpa using h, show decide (-r.num < 0) = false by simp; omega]; rfl
   ·rw [show decide (r.num < 0) = false by simpa using h, show decide (-r.num < 0) = true by simp; omega]; rfl
  ·rw [Rat.neg_num, Int.natAbs_neg]; exact hx.2.1
  ·have e := w8a hx h1
   rw [Rat.neg_den]; exact .inl e
theorem y67 {r s : Rat} {x y : Qd} {k l : Nat} (hx : QR r x) (hy : QR s y) (hr : Dr k r) (hs : Dr l s) (hk : k + l ≤ 37000000) : ∃ z, z58 fuel x y = some z ∧ QR (r - s) z := by
 unfold z58
 obtain ⟨z, e, hz⟩ := yi3 hy
 rw [e, Option.bind_some]
 obtain ⟨u, e', hu⟩ := w5x hx hz hr (y4e hs) hk
 rw [e', Option.bind_some]
 exact ⟨u, rfl, by rw [Rat.sub_eq_add_neg]; exact hu⟩
theorem z7x {r : Rat} {x : Qd} (hx : QR r x) : z1k fuel x = some r.num.sign := by
 unfold z1k
 by_cases h1 : r = 0
 ·rw [if_pos (y0v hx h1), h1]; rfl
 ·have hn : r.num ≠ 0 := fun e => h1 (Rat.num_eq_zero.1 e)
  rw [if_neg (by rw [zv2 hx h1]; simp), hx.1]
  by_cases h : r.num < 0
  ·rw [if_pos (by simpa using h), Int.sign_eq_neg_one_of_neg h]
  ·rw [if_neg (by simpa using h), Int.sign_eq_one_of_pos (by omega)]
theorem yy2 {r s : Rat} {x y : Qd} {k l : Nat} (hx : QR r x) (hy : QR s y) (hr : Dr k r) (hs : Dr l s) (hk : k + l ≤ 37000000) : z6a fuel x y = some (r - s).num.sign := by
 unfold z6a
 obtain ⟨z, e, hz⟩ := y67 hx hy hr hs hk
 rw [e, Option.bind_some, z7x hz, Option.bind_some]
theorem y66 {r s : Rat} {x y : Qd} {k l : Nat} (hx : QR r x) (hy : QR s y) (hr : Dr k r) (hs : Dr l s) (hk : k + l ≤ 37000000) : ∃ z, z36 fuel x y = some z ∧ QR (r * s) z := by
 unfold z36
 by_cases h1 : r = 0
 ·rw [if_neg (by rw [y0v hx h1]; simp)]
  refine ⟨_, rfl, ?_⟩
  rw [h1, Rat.zero_mul]; exact zv3
 rw [if_pos (zv2 hx h1)]
 by_cases h2 : s = 0
 ·rw [if_pos (y0v hy h2)]
  refine ⟨_, rfl, ?_⟩
  rw [h2, Rat.mul_zero]; exact zv3
 rw [if_neg (by rw [zv2 hy h2]; simp)]
 have z1 := ze5 (zx8 hr.1 hs.1) (by omega)
 have z2 := ze5 (zx8 hr.2 hs.2) (by omega)
 have hd : 0 < r.den * s.den := Nat.mul_pos (Nat.pos_of_ne_zero r.den_nz) (Nat.pos_of_ne_zero s.den_nz)
 obtain ⟨z, e, hz⟩ := yo7 (x.1 != y.1) z1 z2 hd
 have hval : r * s = mkRat (sgn (x.1 != y.1) (r.num.natAbs * s.num.natAbs)) (r.den * s.den) := by
  rw [Rat.mul_def', w68, hx.1, hy.1, y6b, y6b]
 rw [hx.2.1, hy.2.1, y4z (ze5 hr.1 (by omega)) (ze5 hs.1 (by omega)), Option.bind_some, zo1 hx, Option.bind_some, zo1 hy, Option.bind_some, y4z (ze5 hr.2 (by omega)) (ze5 hs.2 (by omega)), Option.bind_some]
 have hb : (!(x.1 == y.1)) = (x.1 != y.1) := rfl
 rw [hb, e, Option.bind_some]
 exact ⟨z, rfl, by rw [hval]; exact hz⟩
theorem w9m {r s : Rat} (hs : s ≠ 0) : r / s = mkRat (sgn (decide (r.num < 0) != decide (s.num < 0)) (r.num.natAbs * s.den)) (r.den * s.num.natAbs) := by
 have hn : s.num ≠ 0 := fun e => hs (Rat.num_eq_zero.1 e)
 rw [Rat.div_def, ← Rat.mkRat_self s⁻¹, Rat.num_inv, Rat.den_inv, if_neg hn]
 conv => lhs; rw [← Rat.mkRat_self r]
 rw [Rat.mkRat_mul_mkRat, yz5]
 congr 1
 rw [← Int.mul_assoc]
 congr 1
 conv => lhs; rw [← y6b r]
 have : s.num.sign = sgn (decide (s.num < 0)) 1 := by
  by_cases h : s.num < 0
  ·rw [show decide (s.num < 0) = true by simpa using h, Int.sign_eq_neg_one_of_neg h]; rfl
  ·rw [show decide (s.num < 0) = false by simpa using h, Int.sign_eq_one_of_pos (by omega)]; rfl
 rw [this, ← w68, Nat.mul_one]
theorem yi4 {r s : Rat} {x y : Qd} {k l : Nat} (hx : QR r x) (hy : QR s y) (hr : Dr k r) (hs : Dr l s) (hk : k + l ≤ 37000000) (h2 : s ≠ 0) : ∃ z, z5x fuel x y = some z ∧ QR (r / s) z := by
 unfold z5x
 by_cases h1 : r = 0
 ·rw [if_neg (by rw [y0v hx h1]; simp)]
  refine ⟨_, rfl, ?_⟩
  rw [h1, Rat.div_def, Rat.zero_mul]; exact zv3
 rw [if_pos (zv2 hx h1), if_neg (by rw [zv2 hy h2]; simp)]
 have hn : s.num ≠ 0 := fun e => h2 (Rat.num_eq_zero.1 e)
 have z1 := ze5 (zx8 hr.1 hs.2) (by omega)
 have z2 := ze5 (zx8 hr.2 hs.1) (by omega)
 have hd : 0 < r.den * s.num.natAbs := Nat.mul_pos (Nat.pos_of_ne_zero r.den_nz) (by omega)
 obtain ⟨z, e, hz⟩ := yo7 (x.1 != y.1) z1 z2 hd
 rw [zo1 hy, Option.bind_some, hx.2.1, y4z (ze5 hr.1 (by omega)) (ze5 hs.2 (by omega)), Option.bind_some, zo1 hx, Option.bind_some, hy.2.1, y4z (ze5 hr.2 (by omega)) (ze5 hs.1 (by omega)), Option.bind_some]
 have hb : (!(x.1 == y.1)) = (x.1 != y.1) := rfl
 rw [hb, e, Option.bind_some]
 refine ⟨z, rfl, ?_⟩
 rw [w9m h2, ← hx.1, ← hy.1]; exact hz
end Go.Proofs.YtcdcoeofhnfjdaaDoor
