/- How large determinants are, and their quotients. -/
import Derived.Test.YtcdcoeofhnfjdaaDoorVb
namespace Go.Proofs.YtcdcoeofhnfjdaaDoor
open Go Vm
theorem Ab.mul {B C : Nat} {r s : Rat} (h : Ab B r) (k : Ab C s) : Ab (B * C) (r * s) := by
 obtain ⟨h1, h2⟩ := h
 obtain ⟨k1, k2⟩ := k
 have a1 : 0 ≤ (B : Rat) - r := by grind
 have a2 : 0 ≤ (B : Rat) + r := by grind
 have b1 : 0 ≤ (C : Rat) - s := by grind
 have b2 : 0 ≤ (C : Rat) + s := by grind
 have e1 := Rat.mul_nonneg a1 b2
 have e2 := Rat.mul_nonneg a2 b1
 have e3 := Rat.mul_nonneg a1 b1
 have e4 := Rat.mul_nonneg a2 b2
 constructor
 ·rw [Rat.natCast_mul]; grind
 ·rw [Rat.natCast_mul]; grind
theorem Zd.fs {D : Nat} (hD : D ≠ 0) {f : Nat → Rat} : ∀ {n : Nat}, (∀ j, j < n → Zd D (f j)) → Zd D (Go.Proofs.YtcdcoeofhnfjdaaDoor.fs f n)
 | 0, _ => Zd.zero
 | n + 1, h => (Zd.fs hD fun j hj => h j (by omega)).add hD (h n (by omega))
theorem Ab.fs {B : Nat} {f : Nat → Rat} : ∀ {n : Nat}, (∀ j, j < n → Ab B (f j)) → Ab (n * B) (Go.Proofs.YtcdcoeofhnfjdaaDoor.fs f n)
 | 0, _ => Ab.zero _
 | n + 1, h => ((Ab.fs fun j hj => h j (by omega)).add (h n (by omega))).mono (by rw [Nat.succ_mul]; exact Nat.le_refl _)
def pd (δ : Nat → Nat) : Nat → Nat
 | 0 => 1
 | n + 1 => δ 0 * pd (fun i => δ (i + 1)) n
 termination_by n => n
def fc : Nat → Nat
 | 0 => 1
 | n + 1 => (n + 1) * fc n
theorem w5d : ∀ {n : Nat} {δ : Nat → Nat}, (∀ i, i < n → δ i ≠ 0) → pd δ n ≠ 0
 | 0, _, _ => by simp [pd]
 | n + 1, δ, h => by
  rw [pd]
  exact Nat.mul_ne_zero (h 0 (by omega)) (w5d fun i hi => h (i + 1) (by omega))
theorem wa3 : ∀ {n e : Nat} {δ : Nat → Nat}, (∀ i, i < n → δ i ≤ 10 ^ e) → pd δ n ≤ 10 ^ (e * n)
 | 0, _, _, _ => by simp [pd]
 | n + 1, e, δ, h => by
  rw [pd, Nat.mul_succ, Nat.add_comm, Nat.pow_add]
  exact Nat.mul_le_mul (h 0 (by omega)) (wa3 fun i hi => h (i + 1) (by omega))
theorem yt6 : ∀ {n : Nat} {M : Nat → Nat → Rat} {δ : Nat → Nat} {β : Nat}, (∀ i, i < n → δ i ≠ 0) → (∀ i, i < n → ∀ k, k < n → Zd (δ i) (M i k) ∧ Ab β (M i k)) → Zd (pd δ n) (det n M) ∧ Ab (fc n * β ^ n) (det n M)
 | 0, M, δ, β, _, _ => by
  have e : det 0 M = 1 := rfl
  rw [e]
  refine ⟨?_, ?_⟩
  ·rw [pd]; exact Zd.den 1
  ·have h : Ab 1 1 := ⟨Rat.le_refl, by decide⟩
   exact h.mono (by simp [fc])
 | n + 1, M, δ, β, h0, h => by
  have hz : δ 0 * pd (fun i => δ (i + 1)) n ≠ 0 := Nat.mul_ne_zero (h0 0 (by omega)) (w5d fun i hi => h0 (i + 1) (by omega))
  have key : ∀ j, j < n + 1 → Zd (δ 0 * pd (fun i => δ (i + 1)) n) (sg j * M 0 j * det n fun i k => M (i + 1) (mi j k)) ∧ Ab (β * (fc n * β ^ n)) (sg j * M 0 j * det n fun i k => M (i + 1) (mi j k)) := fun j hj => by
   obtain ⟨i1, i2⟩ := yt6 (M := fun i k => M (i + 1) (mi j k)) (δ := fun i => δ (i + 1)) (β := β) (fun i hi => h0 (i + 1) (by omega)) fun i hi k hk => h (i + 1) (by omega) (mi j k) (wf8 hk)
   obtain ⟨m1, m2⟩ := h 0 (by omega) j hj
   have s1 : Zd (δ 0) (sg j * M 0 j) ∧ Ab β (sg j * M 0 j) := by
    unfold sg
    split
    ·rw [Rat.one_mul]; exact ⟨m1, m2⟩
    ·have : (-1 : Rat) * M 0 j = -(M 0 j) := by grind
     rw [this]; exact ⟨m1.neg, m2.neg⟩
   exact ⟨s1.1.mul i1, s1.2.mul i2⟩
  refine ⟨?_, ?_⟩
  ·rw [pd]
   exact Zd.fs hz fun j hj => (key j hj).1
  ·refine (Ab.fs fun j hj => (key j hj).2).mono (Nat.le_of_eq ?_)
   rw [fc, Nat.pow_succ, Nat.mul_assoc, Nat.mul_left_comm β, Nat.mul_comm β]
theorem w0j {B P : Nat} (hP : P ≠ 0) {z : Int} (h : Ab B (mkRat z P)) : z.natAbs ≤ B * P := by
 have e : ((z : Int) : Rat) = mkRat z P * ((P : Nat) : Rat) := by
  have e1 : ((P : Nat) : Rat) = mkRat (P : Int) 1 := by rw [Rat.mkRat_one]; rfl
  have e2 : ((z : Int) : Rat) = mkRat z 1 := (Rat.mkRat_one z).symm
  rw [e1, e2, Rat.mkRat_mul_mkRat, Nat.mul_one]
  have := Rat.mkRat_mul_right (n := z) (d := 1) hP
  rw [Nat.one_mul] at this
  exact this.symm
 have hP0 : (0 : Rat) ≤ ((P : Nat) : Rat) := by
  have := y5n (Nat.zero_le P)
  exact this
 have u1 := Rat.mul_le_mul_of_nonneg_right h.1 hP0
 have u2 := Rat.mul_le_mul_of_nonneg_right h.2 hP0
 rw [← e, ← Rat.natCast_mul] at u1
 rw [← e, Rat.neg_mul, ← Rat.natCast_mul] at u2
 rw [Rat.le_iff, Rat.num_intCast, Rat.den_intCast, Rat.num_natCast, Rat.den_natCast] at u1
 rw [Rat.le_iff, Rat.neg_num, Rat.neg_den, Rat.num_intCast, Rat.den_intCast, Rat.num_natCast, Rat.den_natCast] at u2
 omega
theorem w51 {z : Int} {D : Nat} : (mkRat z D).num.natAbs ≤ z.natAbs := by
 by_cases hD : D = 0
 ·subst hD; simp
 ·rw [Rat.num_mkRat, if_neg hD, Int.natAbs_ediv_of_dvd (by exact Int.ofNat_dvd_left.2 (Nat.gcd_dvd_right ..))]
  exact Nat.div_le_self _ _
theorem wa5 {P B e : Nat} (hP : P ≠ 0) {a b : Rat} (ha : Zd P a) (hb : Zd P b) (hA : Ab B a) (hB : Ab B b) (h0 : b ≠ 0) (he : B * P < 10 ^ e) : Dr e (a / b) := by
 obtain ⟨z1, rfl⟩ := ha
 obtain ⟨z2, rfl⟩ := hb
 have n1 := w0j hP hA
 have n2 := w0j hP hB
 have hz2 : z2 ≠ 0 := fun h => h0 (by rw [h, Rat.zero_mkRat])
 have e1 : mkRat z1 P / mkRat z2 P = mkRat (z1 * z2.sign) z2.natAbs := by
  have h1 : mkRat (z1 * z2.sign) z2.natAbs * mkRat z2 P = mkRat z1 P := by
   rw [Rat.mkRat_mul_mkRat]
   have : z1 * z2.sign * z2 = z1 * (z2.natAbs : Int) := by
    rw [Int.mul_assoc, Int.mul_comm z2.sign, Int.mul_sign_self]
   rw [this, Nat.mul_comm, Rat.mkRat_mul_right (by omega)]
  rw [← h1, Rat.div_def, Rat.mul_assoc, Rat.mul_inv_cancel _ h0, Rat.mul_one]
 rw [e1]
 have hs : (z1 * z2.sign).natAbs ≤ z1.natAbs := by
  rw [Int.natAbs_mul, Int.natAbs_sign_of_ne_zero hz2, Nat.mul_one]
  exact Nat.le_refl _
 refine ⟨?_, ?_⟩
 ·have := w51 (z := z1 * z2.sign) (D := z2.natAbs)
  omega
 ·rw [Rat.den_mkRat, if_neg (by omega)]
  have := Nat.div_le_self z2.natAbs (z2.natAbs.gcd (z1 * z2.sign).natAbs)
  omega
end Go.Proofs.YtcdcoeofhnfjdaaDoor
