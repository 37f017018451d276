/- Numbers with a denominator, and bounds. -/
import Derived.Test.YtcdcoeofhnfjdaaDoorQf
namespace Go.Proofs.YtcdcoeofhnfjdaaDoor
open Go Vm
def Zd (D : Nat) (r : Rat) : Prop := ∃ z : Int, r = mkRat z D
theorem Zd.den (r : Rat) : Zd r.den r := ⟨r.num, (Rat.mkRat_self r).symm⟩
theorem Zd.mul {D E : Nat} {r s : Rat} : Zd D r → Zd E s → Zd (D * E) (r * s) := fun ⟨a, ha⟩ ⟨b, hb⟩ => ⟨a * b, by rw [ha, hb, Rat.mkRat_mul_mkRat]⟩
theorem Zd.more {D E : Nat} (hE : E ≠ 0) {r : Rat} : Zd D r → Zd (D * E) r := fun ⟨a, ha⟩ => ⟨a * E, by rw [ha, Rat.mkRat_mul_right hE]⟩
theorem Zd.add {D : Nat} (hD : D ≠ 0) {r s : Rat} : Zd D r → Zd D s → Zd D (r + s) := fun ⟨a, ha⟩ ⟨b, hb⟩ => ⟨a + b, by
  rw [ha, hb, Rat.mkRat_add_mkRat _ _ hD hD, ← Int.add_mul, Rat.mkRat_mul_right hD]⟩
theorem Zd.zero {D : Nat} : Zd D 0 := ⟨0, (Rat.zero_mkRat D).symm⟩
theorem Zd.psum {D : Nat} (hD : D ≠ 0) : ∀ {l : List Rat}, (∀ r, r ∈ l → Zd D r) → Zd D (psum l)
 | [], _ => Zd.zero
 | a :: l, h => (h a (List.mem_cons_self ..)).add hD (Zd.psum hD fun r hr => h r (List.mem_cons_of_mem _ hr))
theorem Zd.le {D : Nat} (hD : D ≠ 0) {r : Rat} : Zd D r → r.den ≤ D := fun ⟨a, ha⟩ => by
 rw [ha, Rat.den_mkRat, if_neg hD]; exact Nat.div_le_self _ _
theorem Zd.dr {D B k : Nat} (hD : D ≠ 0) (hB : 1 ≤ B) {r : Rat} (h : Zd D r) (h1 : r ≤ (B : Rat)) (h2 : -(B : Rat) ≤ r) (hk : B * D < 10 ^ k) : Dr k r := by
 have hd := h.le hD
 have a1 := (Rat.le_iff _ _).1 h1
 have a2 := (Rat.le_iff _ _).1 h2
 rw [Rat.num_natCast, Rat.den_natCast] at a1
 rw [Rat.neg_num, Rat.neg_den, Rat.num_natCast, Rat.den_natCast] at a2
 have hBd : B * r.den ≤ B * D := Nat.mul_le_mul_left _ hd
 have hD' : D ≤ B * D := Nat.le_mul_of_pos_left _ hB
 refine ⟨?_, by omega⟩
 have a3 : (B : Int) * (r.den : Int) = ((B * r.den : Nat) : Int) := by simp
 have a4 : -(B : Int) * (r.den : Int) = -((B * r.den : Nat) : Int) := by rw [Int.neg_mul, a3]
 rw [a3] at a1
 rw [a4] at a2
 omega
def Ab (B : Nat) (r : Rat) : Prop := r ≤ (B : Rat) ∧ -(B : Rat) ≤ r
theorem y5n {a b : Nat} (h : a ≤ b) : (a : Rat) ≤ (b : Rat) := by
 rw [Rat.le_iff, Rat.num_natCast, Rat.num_natCast, Rat.den_natCast, Rat.den_natCast]
 omega
theorem Ab.mono {B B' : Nat} (h : B ≤ B') {r : Rat} (k : Ab B r) : Ab B' r := by
 have h1 := y5n h
 exact ⟨by have := k.1; grind, by have := k.2; grind⟩
theorem Ab.add {B B' : Nat} {r s : Rat} (h : Ab B r) (k : Ab B' s) : Ab (B + B') (r + s) := by
 obtain ⟨h1, h2⟩ := h
 obtain ⟨k1, k2⟩ := k
 constructor
 ·rw [Rat.natCast_add]; grind
 ·rw [Rat.natCast_add]; grind
theorem Ab.zero (B : Nat) : Ab B 0 := by
 have h := y5n (Nat.zero_le B)
 have e : ((0 : Nat) : Rat) = 0 := rfl
 rw [e] at h
 exact ⟨h, by grind⟩
theorem Ab.neg {B : Nat} {r : Rat} (h : Ab B r) : Ab B (-r) := by
 obtain ⟨h1, h2⟩ := h
 exact ⟨by grind, by grind⟩
theorem Ab.of_dr {k : Nat} {r : Rat} (h : Dr k r) : Ab (10 ^ k) r := by
 have hd : 1 ≤ r.den := Nat.pos_of_ne_zero r.den_nz
 have hle : 10 ^ k ≤ 10 ^ k * r.den := Nat.le_mul_of_pos_right _ hd
 have h1 := h.1
 constructor
 ·rw [Rat.le_iff, Rat.num_natCast, Rat.den_natCast]
  have : ((10 ^ k : Nat) : Int) * (r.den : Int) = ((10 ^ k * r.den : Nat) : Int) := by rw [Int.natCast_mul]
  rw [this]
  generalize 10 ^ k * r.den = X at *
  generalize 10 ^ k = Y at *
  omega
 ·rw [Rat.le_iff, Rat.neg_num, Rat.neg_den, Rat.num_natCast, Rat.den_natCast]
  have : -((10 ^ k : Nat) : Int) * (r.den : Int) = -((10 ^ k * r.den : Nat) : Int) := by rw [Int.neg_mul, Int.natCast_mul]
  rw [this]
  generalize 10 ^ k * r.den = X at *
  generalize 10 ^ k = Y at *
  omega
theorem Zd.neg {D : Nat} {r : Rat} : Zd D r → Zd D (-r) := fun ⟨a, ha⟩ => ⟨-a, by rw [ha, Rat.neg_mkRat]⟩
end Go.Proofs.YtcdcoeofhnfjdaaDoor
