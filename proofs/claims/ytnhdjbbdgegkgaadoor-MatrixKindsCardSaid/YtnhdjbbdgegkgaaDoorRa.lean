/- What the functions on rational numbers compute. -/
import Derived.Test.YtnhdjbbdgegkgaaDoorNo
namespace Go.Proofs.YtnhdjbbdgegkgaaDoor
open Go Vm
abbrev Qd := Bool × ((List Int) × (List Int))
theorem qr_num {r : Rat} {q : Qd} (h : QR r q) : ((q.2.1.length : Int) == 0) = decide (r = 0) := by
 rw [h.2.1, length_zs, Bool.eq_iff_iff, beq_iff_eq, decide_eq_true_eq, ← Rat.num_eq_zero]
 constructor
 ·intro e
  have : (cn r.num.natAbs).length = 0 := by omega
  have := cn_len_zero.1 this
  omega
 ·intro e
  rw [e]
  show (((cn 0).length : Nat) : Int) = 0
  rw [cn_zero]; rfl
theorem qr_num0 {r : Rat} {q : Qd} (h : QR r q) (h0 : r = 0) : ((q.2.1.length : Int) == 0) = true := by rw [qr_num h]; simpa using h0
theorem qr_num1 {r : Rat} {q : Qd} (h : QR r q) (h0 : r ≠ 0) : ((q.2.1.length : Int) == 0) = false := by rw [qr_num h]; simpa using h0
theorem whole_ok {r : Rat} {q : Qd} (h : QR r q) : f_rat_Q_whole fuel q = some (zs (cn r.den)) := by
 unfold f_rat_Q_whole
 rcases h.2.2 with e | ⟨h0, e⟩
 ·have := cn_len_pos r.den_nz
  rw [if_neg (fun x => by have := beq_iff_eq.1 x; rw [e, length_zs] at this; omega), e]
 ·subst h0
  rw [if_pos (by rw [e]; rfl), of_one, Option.bind_some]
  rfl
theorem whole_no {r : Rat} {q : Qd} (h : QR r q) (h0 : r ≠ 0) : q.2.2 = zs (cn r.den) := h.2.2.elim id fun x => absurd x.1 h0
theorem low_ok (neg : Bool) {p d : Nat} (hp : Sz p) (hd : Sz d) (h0 : 0 < d) : ∃ q, f_rat_low fuel neg (zs (cn p)) (zs (cn d)) = some q ∧ QR (mkRat (sgn neg p) d) q := by
 unfold f_rat_low
 by_cases h : p = 0
 ·subst h
  refine ⟨(false, [], []), ?_, ?_⟩
  ·rw [cn_zero, if_pos (by rfl)]
  ·rw [sgn_zero, mkRat_zero']; exact qr_zero
 ·have hg : 0 < Nat.gcd p d := Nat.gcd_pos_of_pos_right _ h0
  have hgd : Nat.gcd p d ≤ d := Nat.le_of_dvd h0 (Nat.gcd_dvd_right p d)
  have hs1 : Sz 1 := sz_le h0 hd
  have hpl := cn_len_pos h
  rw [if_neg (fun x => by have := beq_iff_eq.1 x; rw [length_zs] at this; omega), gcd_ok hp hd, Option.bind_some, of_one, Option.bind_some, cmp_ok (sz_le hgd hd) hs1, Option.bind_some]
  have hq := qr_low neg h (show d ≠ 0 by omega)
  by_cases h1 : 1 < Nat.gcd p d
  ·rw [if_neg (show ¬ Nat.gcd p d < 1 by omega), if_pos h1, if_pos (by decide), div_ok hp (sz_le hgd hd) hg, Option.bind_some, div_ok hd (sz_le hgd hd) hg, Option.bind_some]
   exact ⟨_, rfl, hq⟩
  ·have hg1 : Nat.gcd p d = 1 := by omega
   rw [hg1, if_neg (by decide)]
   rw [hg1, Nat.div_one, Nat.div_one] at hq
   exact ⟨_, rfl, hq⟩
theorem sgn_add {a : Bool} {p q : Nat} : sgn a (p + q) = sgn a p + sgn a q := by cases a <;> simp [sgn]; omega
theorem sgn_sub {a b : Bool} {p q : Nat} (hab : (a == b) = false) (h : q ≤ p) : sgn a (p - q) = sgn a p + sgn b q := by
 cases a <;> cases b <;> simp [sgn] at hab ⊢ <;> omega
theorem sgn_nat (a : Bool) (p q : Nat) : sgn a (p * q) = sgn a p * (q : Int) := by cases a <;> simp [sgn, Int.neg_mul]
theorem qadd_ok {r s : Rat} {x y : Qd} {k l : Nat} (hx : QR r x) (hy : QR s y) (hr : Dr k r) (hs : Dr l s) (hk : k + l ≤ 37000000) : ∃ z, f_rat_Q_Add fuel x y = some z ∧ QR (r + s) z := by
 unfold f_rat_Q_Add
 by_cases h1 : r = 0
 ·rw [if_pos (qr_num0 hx h1)]
  refine ⟨y, rfl, ?_⟩
  rw [h1, Rat.zero_add]; exact hy
 rw [if_neg (by rw [qr_num1 hx h1]; simp)]
 by_cases h2 : s = 0
 ·rw [if_pos (qr_num0 hy h2)]
  refine ⟨x, rfl, ?_⟩
  rw [h2, Rat.add_zero]; exact hx
 rw [if_neg (by rw [qr_num1 hy h2]; simp)]
 have b1 := lt_mul hr.1 hs.2
 have b2 := lt_mul hs.1 hr.2
 have b3 := lt_mul hr.2 hs.2
 have b4 : r.num.natAbs * s.den + s.num.natAbs * r.den < 10 ^ (k + l + 1) := lt_add b1 (by rw [Nat.add_comm k l]; exact b2)
 have z1 : Sz (r.num.natAbs * s.den) := sz_lt b1 (by omega)
 have z2 : Sz (s.num.natAbs * r.den) := sz_lt b2 (by omega)
 have z3 : Sz (r.den * s.den) := sz_lt b3 (by omega)
 have z4 : Sz (r.num.natAbs * s.den + s.num.natAbs * r.den) := sz_lt b4 (by omega)
 have hd : 0 < r.den * s.den := Nat.mul_pos (Nat.pos_of_ne_zero r.den_nz) (Nat.pos_of_ne_zero s.den_nz)
 have hval : r + s = mkRat (sgn x.1 (r.num.natAbs * s.den) + sgn y.1 (s.num.natAbs * r.den)) (r.den * s.den) := by
  rw [Rat.add_def', sgn_nat, sgn_nat, hx.1, hy.1, sgn_num, sgn_num]
 rw [whole_ok hy, Option.bind_some, hx.2.1, mul_ok (sz_lt hr.1 (by omega)) (sz_lt hs.2 (by omega)), Option.bind_some, whole_ok hx, Option.bind_some, hy.2.1, mul_ok (sz_lt hs.1 (by omega)) (sz_lt hr.2 (by omega)), Option.bind_some, Option.bind_some, Option.bind_some, mul_ok (sz_lt hr.2 (by omega)) (sz_lt hs.2 (by omega)), Option.bind_some]
 by_cases hab : (x.1 == y.1) = true
 ·rw [if_pos hab, add_ok z1 z2, Option.bind_some]
  obtain ⟨z, e, hz⟩ := low_ok x.1 z4 z3 hd
  rw [e, Option.bind_some]
  refine ⟨z, rfl, ?_⟩
  rw [hval, ← beq_iff_eq.1 hab, ← sgn_add]; exact hz
 ·have hab' : (x.1 == y.1) = false := by simpa using hab
  rw [if_neg hab, cmp_ok z1 z2, Option.bind_some]
  by_cases hlt : r.num.natAbs * s.den < s.num.natAbs * r.den
  ·rw [if_pos hlt, if_neg (by decide), sub_ok z2 (by omega), Option.bind_some]
   obtain ⟨z, e, hz⟩ := low_ok y.1 (sz_le (Nat.sub_le _ (r.num.natAbs * s.den)) z2) z3 hd
   rw [e, Option.bind_some]
   refine ⟨z, rfl, ?_⟩
   rw [hval, Int.add_comm, ← sgn_sub (by cases h : x.1 <;> cases h' : y.1 <;> simp [h, h'] at hab' ⊢) (by omega)]; exact hz
  ·rw [if_neg hlt, if_pos (by split <;> decide), sub_ok z1 (by omega), Option.bind_some]
   obtain ⟨z, e, hz⟩ := low_ok x.1 (sz_le (Nat.sub_le _ (s.num.natAbs * r.den)) z1) z3 hd
   rw [e, Option.bind_some]
   refine ⟨z, rfl, ?_⟩
   rw [hval, ← sgn_sub hab' (by omega)]; exact hz
theorem qneg_ok {r : Rat} {x : Qd} (hx : QR r x) : ∃ z, f_rat_Q_Neg fuel x = some z ∧ QR (-r) z := by
 unfold f_rat_Q_Neg
 by_cases h1 : r = 0
 ·rw [if_pos (qr_num0 hx h1)]
  refine ⟨x, rfl, ?_⟩
  rw [h1] at hx ⊢
  exact hx
 ·rw [if_neg (by rw [qr_num1 hx h1]; simp)]
  refine ⟨_, rfl, ?_, ?_, ?_⟩
  ·show (!x.1) = _
   have hn : r.num ≠ 0 := fun e => h1 (Rat.num_eq_zero.1 e)
   rw [hx.1, Rat.neg_num]
   by_cases h : r.num < 0
   ·rw [show decide (r.num < 0) = true by simpa using h, show decide (-r.num < 0) = false by simp; omega]; rfl
   ·rw [show decide (r.num < 0) = false by simpa using h, show decide (-r.num < 0) = true by simp; omega]; rfl
  ·rw [Rat.neg_num, Int.natAbs_neg]; exact hx.2.1
  ·have e := whole_no hx h1
   rw [Rat.neg_den]; exact .inl e
theorem qsub_ok {r s : Rat} {x y : Qd} {k l : Nat} (hx : QR r x) (hy : QR s y) (hr : Dr k r) (hs : Dr l s) (hk : k + l ≤ 37000000) : ∃ z, f_rat_Q_Sub fuel x y = some z ∧ QR (r - s) z := by
 unfold f_rat_Q_Sub
 obtain ⟨z, e, hz⟩ := qneg_ok hy
 rw [e, Option.bind_some]
 obtain ⟨u, e', hu⟩ := qadd_ok hx hz hr (dr_neg hs) hk
 rw [e', Option.bind_some]
 exact ⟨u, rfl, by rw [Rat.sub_eq_add_neg]; exact hu⟩
theorem qsign_ok {r : Rat} {x : Qd} (hx : QR r x) : f_rat_Q_Sign fuel x = some r.num.sign := by
 unfold f_rat_Q_Sign
 by_cases h1 : r = 0
 ·rw [if_pos (qr_num0 hx h1), h1]; rfl
 ·have hn : r.num ≠ 0 := fun e => h1 (Rat.num_eq_zero.1 e)
  rw [if_neg (by rw [qr_num1 hx h1]; simp), hx.1]
  by_cases h : r.num < 0
  ·rw [if_pos (by simpa using h), Int.sign_eq_neg_one_of_neg h]
  ·rw [if_neg (by simpa using h), Int.sign_eq_one_of_pos (by omega)]
theorem qmul_ok {r s : Rat} {x y : Qd} {k l : Nat} (hx : QR r x) (hy : QR s y) (hr : Dr k r) (hs : Dr l s) (hk : k + l ≤ 37000000) : ∃ z, f_rat_Q_Mul fuel x y = some z ∧ QR (r * s) z := by
 unfold f_rat_Q_Mul
 by_cases h1 : r = 0
 ·rw [if_neg (by rw [qr_num0 hx h1]; simp)]
  refine ⟨_, rfl, ?_⟩
  rw [h1, Rat.zero_mul]; exact qr_zero
 rw [if_pos (qr_num1 hx h1)]
 by_cases h2 : s = 0
 ·rw [if_pos (qr_num0 hy h2)]
  refine ⟨_, rfl, ?_⟩
  rw [h2, Rat.mul_zero]; exact qr_zero
 rw [if_neg (by rw [qr_num1 hy h2]; simp)]
 have z1 := sz_lt (lt_mul hr.1 hs.1) (by omega)
 have z2 := sz_lt (lt_mul hr.2 hs.2) (by omega)
 have hd : 0 < r.den * s.den := Nat.mul_pos (Nat.pos_of_ne_zero r.den_nz) (Nat.pos_of_ne_zero s.den_nz)
 obtain ⟨z, e, hz⟩ := low_ok (x.1 != y.1) z1 z2 hd
 have hval : r * s = mkRat (sgn (x.1 != y.1) (r.num.natAbs * s.num.natAbs)) (r.den * s.den) := by
  rw [Rat.mul_def', sgn_mul, hx.1, hy.1, sgn_num, sgn_num]
 rw [hx.2.1, hy.2.1, mul_ok (sz_lt hr.1 (by omega)) (sz_lt hs.1 (by omega)), Option.bind_some, whole_ok hx, Option.bind_some, whole_ok hy, Option.bind_some, mul_ok (sz_lt hr.2 (by omega)) (sz_lt hs.2 (by omega)), Option.bind_some]
 have hb : (!(x.1 == y.1)) = (x.1 != y.1) := rfl
 rw [hb, e, Option.bind_some]
 exact ⟨z, rfl, by rw [hval]; exact hz⟩
theorem div_val {r s : Rat} (hs : s ≠ 0) : r / s = mkRat (sgn (decide (r.num < 0) != decide (s.num < 0)) (r.num.natAbs * s.den)) (r.den * s.num.natAbs) := by
 have hn : s.num ≠ 0 := fun e => hs (Rat.num_eq_zero.1 e)
 rw [Rat.div_def, ← Rat.mkRat_self s⁻¹, Rat.num_inv, Rat.den_inv, if_neg hn]
 conv => lhs; rw [← Rat.mkRat_self r]
 rw [Rat.mkRat_mul_mkRat, sgn_nat]
 congr 1
 rw [← Int.mul_assoc]
 congr 1
 conv => lhs; rw [← sgn_num r]
 have : s.num.sign = sgn (decide (s.num < 0)) 1 := by
  by_cases h : s.num < 0
  ·rw [show decide (s.num < 0) = true by simpa using h, Int.sign_eq_neg_one_of_neg h]; rfl
  ·rw [show decide (s.num < 0) = false by simpa using h, Int.sign_eq_one_of_pos (by omega)]; rfl
 rw [this, ← sgn_mul, Nat.mul_one]
theorem qquo_ok {r s : Rat} {x y : Qd} {k l : Nat} (hx : QR r x) (hy : QR s y) (hr : Dr k r) (hs : Dr l s) (hk : k + l ≤ 37000000) (h2 : s ≠ 0) : ∃ z, f_rat_Q_Quo fuel x y = some z ∧ QR (r / s) z := by
 unfold f_rat_Q_Quo
 by_cases h1 : r = 0
 ·rw [if_neg (by rw [qr_num0 hx h1]; simp)]
  refine ⟨_, rfl, ?_⟩
  rw [h1, Rat.div_def, Rat.zero_mul]; exact qr_zero
 rw [if_pos (qr_num1 hx h1), if_neg (by rw [qr_num1 hy h2]; simp)]
 have hn : s.num ≠ 0 := fun e => h2 (Rat.num_eq_zero.1 e)
 have z1 := sz_lt (lt_mul hr.1 hs.2) (by omega)
 have z2 := sz_lt (lt_mul hr.2 hs.1) (by omega)
 have hd : 0 < r.den * s.num.natAbs := Nat.mul_pos (Nat.pos_of_ne_zero r.den_nz) (by omega)
 obtain ⟨z, e, hz⟩ := low_ok (x.1 != y.1) z1 z2 hd
 rw [whole_ok hy, Option.bind_some, hx.2.1, mul_ok (sz_lt hr.1 (by omega)) (sz_lt hs.2 (by omega)), Option.bind_some, whole_ok hx, Option.bind_some, hy.2.1, mul_ok (sz_lt hr.2 (by omega)) (sz_lt hs.1 (by omega)), Option.bind_some]
 have hb : (!(x.1 == y.1)) = (x.1 != y.1) := rfl
 rw [hb, e, Option.bind_some]
 refine ⟨z, rfl, ?_⟩
 rw [div_val h2, ← hx.1, ← hy.1]; exact hz
end Go.Proofs.YtnhdjbbdgegkgaaDoor
