/- The best values of sequences. -/
import Derived.Test.YtbcooccafbccdaaGreatDoorWe
namespace Go.Proofs.YtbcooccafbccdaaGreatDoor
open Go Vm
theorem fs_le {f g : Nat → Rat} : ∀ {n : Nat}, (∀ i, i < n → f i ≤ g i) → fs f n ≤ fs g n
 | 0, _ => Rat.le_refl
 | n + 1, h => by
  have h1 := fs_le (n := n) fun i hi => h i (by omega)
  have h2 := h n (by omega)
  rw [fs, fs]; grind
theorem fs_mul (f : Nat → Rat) (s : Rat) : ∀ n : Nat, fs (fun i => f i * s) n = fs f n * s
 | 0 => by simp only [fs]; grind
 | n + 1 => by rw [fs, fs, fs_mul f s n]; grind
theorem fs_split (f : Nat → Rat) (a : Nat) : ∀ b : Nat, fs f (a + b) = fs f a + fs (fun c => f (a + c)) b
 | 0 => by simp only [Nat.add_zero, fs]; grind
 | b + 1 => by
  show fs f (a + b + 1) = _
  rw [fs, fs, fs_split f a b]; grind
theorem fs_zero : ∀ n : Nat, fs (fun _ => 0) n = 0
 | 0 => rfl
 | n + 1 => by rw [fs, fs_zero n]; grind
def Ab (B : Nat) (r : Rat) : Prop := r ≤ (B : Rat) ∧ -(B : Rat) ≤ r
theorem natCast_le {a b : Nat} (h : a ≤ b) : (a : Rat) ≤ (b : Rat) := by
 rw [Rat.le_iff, Rat.num_natCast, Rat.num_natCast, Rat.den_natCast, Rat.den_natCast]
 omega
theorem Ab.mono {B B' : Nat} (h : B ≤ B') {r : Rat} (k : Ab B r) : Ab B' r := by
 have h1 := natCast_le h
 exact ⟨by have := k.1; grind, by have := k.2; grind⟩
theorem Ab.add {B B' : Nat} {r s : Rat} (h : Ab B r) (k : Ab B' s) : Ab (B + B') (r + s) := by
 obtain ⟨h1, h2⟩ := h
 obtain ⟨k1, k2⟩ := k
 constructor
 ·rw [Rat.natCast_add]; grind
 ·rw [Rat.natCast_add]; grind
theorem Ab.zero (B : Nat) : Ab B 0 := by
 have h := natCast_le (Nat.zero_le B)
 have e : ((0 : Nat) : Rat) = 0 := rfl
 rw [e] at h
 exact ⟨h, by grind⟩
theorem Ab.neg {B : Nat} {r : Rat} (h : Ab B r) : Ab B (-r) := by
 obtain ⟨h1, h2⟩ := h
 exact ⟨by grind, by grind⟩
theorem Ab.of_dr {k : Nat} {r : Rat} (h : Dr k r) : Ab (10 ^ k) r := by
 have hd : 1 ≤ r.den := Nat.pos_of_ne_zero r.den_nz
 have hle : 10 ^ k ≤ 10 ^ k * r.den := Nat.le_mul_of_pos_right _ hd
 have h1 := h.1
 constructor
 ·rw [Rat.le_iff, Rat.num_natCast, Rat.den_natCast]
  have : ((10 ^ k : Nat) : Int) * (r.den : Int) = ((10 ^ k * r.den : Nat) : Int) := by rw [Int.natCast_mul]
  rw [this]
  generalize 10 ^ k * r.den = X at *
  generalize 10 ^ k = Y at *
  omega
 ·rw [Rat.le_iff, Rat.neg_num, Rat.neg_den, Rat.num_natCast, Rat.den_natCast]
  have : -((10 ^ k : Nat) : Int) * (r.den : Int) = -((10 ^ k * r.den : Nat) : Int) := by rw [Int.neg_mul, Int.natCast_mul]
  rw [this]
  generalize 10 ^ k * r.den = X at *
  generalize 10 ^ k = Y at *
  omega
theorem Ab.scale {B : Nat} {c r : Rat} (h0 : 0 ≤ c) (h1 : c ≤ 1) (h : Ab B r) : Ab B (c * r) := by
 obtain ⟨a1, a2⟩ := h
 have hB := (Ab.zero B).1
 have e1 : c * r ≤ c * (B : Rat) := Rat.mul_le_mul_of_nonneg_left a1 h0
 have e2 : c * (B : Rat) ≤ 1 * (B : Rat) := Rat.mul_le_mul_of_nonneg_right h1 hB
 have e3 : c * (-(B : Rat)) ≤ c * r := Rat.mul_le_mul_of_nonneg_left a2 h0
 rw [Rat.one_mul] at e2
 rw [Rat.mul_neg] at e3
 exact ⟨Rat.le_trans e1 e2, by grind⟩
theorem Zd.neg {D : Nat} {r : Rat} : Zd D r → Zd D (-r) := fun ⟨a, ha⟩ => ⟨-a, by rw [ha, Rat.neg_mkRat]⟩
structure Sub1 (t : List Nd) (ρ : Nat → Nat → Rat) : Prop where
 nonneg : ∀ i, i < t.length → ∀ c, c < (nx (nd t i)).length → 0 ≤ ρ i c
 le : ∀ i, i < t.length → ∀ c, c < (nx (nd t i)).length → ρ i c ≤ 1
 dr : ∀ i, i < t.length → ∀ c, c < (nx (nd t i)).length → Dr 12 (ρ i c)
theorem rr_sub {t : List Nd} (hv : V t) {ρ : Nat → Nat → Rat} (hp : Sub1 t ρ) {R : Nat → Rat} (h : RR t ρ t.length R) : ∀ (n y : Nat), y < n → y < t.length → 0 ≤ R y ∧ R y ≤ 1
 | 0, y, h1, _ => by omega
 | n + 1, y, h1, hy => by
  by_cases h0 : y = 0
  ·subst h0; rw [h.root]; decide
  ·obtain ⟨j, c, hj, hc⟩ := parent hv (show 0 < y by omega) hy
   have hcl : c < (nx (nd t j)).length := (List.getElem?_eq_some_iff.1 hc).1
   have hk := h.kid j (by omega) c _ hc
   rw [Int.toNat_natCast] at hk
   obtain ⟨i1, i2⟩ := rr_sub hv hp h n j (by omega) (by omega)
   have g1 := hp.nonneg j (by omega) c hcl
   have g2 := hp.le j (by omega) c hcl
   rw [hk]
   refine ⟨Rat.mul_nonneg i1 g1, ?_⟩
   have e1 : R j * ρ j c ≤ R j * 1 := Rat.mul_le_mul_of_nonneg_left g2 i1
   rw [Rat.mul_one] at e1
   exact Rat.le_trans e1 i2
theorem pz_zd {t : List Nd} (hv : V t) (hm : Mod t) : ∀ i, i ≤ t.length → ∃ D : Nat, D ≠ 0 ∧ D ≤ 10 ^ (12 * i) ∧ ∀ y, y < i → (nd t y).1 = 0 → Zd D (pz t y)
 | 0, _ => ⟨1, by decide, by decide, fun y hy => by omega⟩
 | i + 1, hi => by
  obtain ⟨D, h1, h2, h3⟩ := pz_zd hv hm i (by omega)
  by_cases h0 : (nd t i).1 = 0
  ·have hdd := (pz_ok hv hm (show i < t.length by omega) h0).2.2
   have hnz := (pz t i).den_nz
   refine ⟨D * (pz t i).den, Nat.mul_ne_zero h1 hnz, ?_, fun y hy hy0 => ?_⟩
   ·rw [Nat.mul_succ, Nat.pow_add]
    exact Nat.mul_le_mul h2 (Nat.le_of_lt hdd.2)
   ·by_cases e : y = i
    ·rw [e, Nat.mul_comm]; exact (Zd.den _).more h1
    ·exact (h3 y (by omega) hy0).more hnz
  ·refine ⟨D, h1, Nat.le_trans h2 (Nat.pow_le_pow_right (by decide) (by omega)), fun y hy hy0 => ?_⟩
   by_cases e : y = i
   ·rw [e] at hy0; exact absurd hy0 h0
   ·exact h3 y (by omega) hy0
def sgp (p : Int) : Rat := if p = 1 then -1 else 1
theorem sgp_mul (p : Int) (x : Rat) : sgp p * x = if p = 1 then -x else x := by unfold sgp; split <;> grind
noncomputable def vl (t : List Nd) (p : Int) (b : List Int) (C : Nat → Rat) (i k : Nat) : Rat := fs (fun j => if (b.getD j 0).toNat = k then sgp p * et t C j else 0) i
theorem et_num {t : List Nd} (hv : V t) (hm : Mod t) {ρ : Nat → Nat → Rat} (hp : Sub1 t ρ) {C : Nat → Rat} (h : RR t ρ t.length C) (p : Int) : ∃ D : Nat, D ≠ 0 ∧ D ≤ 10 ^ (24 * t.length) ∧ ∀ j, j < t.length → Zd D (sgp p * et t C j) ∧ Ab (10 ^ 12) (sgp p * et t C j) := by
 obtain ⟨D, d1, d2, d3⟩ := rr_zd hv hp.dr h t.length (Nat.le_refl _)
 obtain ⟨E, e1, e2, e3⟩ := pz_zd hv hm t.length (Nat.le_refl _)
 refine ⟨D * E, Nat.mul_ne_zero d1 e1, ?_, fun j hj => ?_⟩
 ·rw [show 24 * t.length = 12 * t.length + 12 * t.length by omega, Nat.pow_add]
  exact Nat.mul_le_mul d2 e2
 ·have key : Zd (D * E) (et t C j) ∧ Ab (10 ^ 12) (et t C j) := by
   unfold et
   split
   ·rename_i h0
    obtain ⟨c0, c1⟩ := rr_sub hv hp h t.length j hj hj
    exact ⟨(d3 j hj).mul (e3 j hj h0), (Ab.of_dr (pz_ok hv hm hj h0).2.2).scale c0 c1⟩
   ·exact ⟨Zd.zero, Ab.zero _⟩
  rw [sgp_mul]
  split
  ·exact ⟨key.1.neg, key.2.neg⟩
  ·exact key
theorem vl_num {t : List Nd} {p : Int} {b : List Int} {C : Nat → Rat} {D : Nat} (hD : D ≠ 0) (h : ∀ j, j < t.length → Zd D (sgp p * et t C j) ∧ Ab (10 ^ 12) (sgp p * et t C j)) (k : Nat) : ∀ i, i ≤ t.length → Zd D (vl t p b C i k) ∧ Ab (i * 10 ^ 12) (vl t p b C i k)
 | 0, _ => ⟨Zd.zero, Ab.zero _⟩
 | i + 1, hi => by
  obtain ⟨h1, h2⟩ := vl_num hD h k i (by omega)
  unfold vl at *
  rw [fs]
  have key : Zd D (if (b.getD i 0).toNat = k then sgp p * et t C i else 0) ∧ Ab (10 ^ 12) (if (b.getD i 0).toNat = k then sgp p * et t C i else 0) := by
   split
   ·exact h i (by omega)
   ·exact ⟨Zd.zero, Ab.zero _⟩
  exact ⟨h1.add hD key.1, (h2.add key.2).mono (by rw [Nat.succ_mul]; exact Nat.le_refl _)⟩
structure Num (D B : Nat) (r : Rat) : Prop where
 zd : Zd D r
 ab : Ab B r
theorem Num.dr {D B e : Nat} (hD : D ≠ 0) (he : e ≤ 960) (hD2 : D ≤ 10 ^ e) (hB : 1 ≤ B) (hB2 : B < 10 ^ 40) {r : Rat} (h : Num D B r) : Dr 1000 r := by
 refine dr_mono (k := 40 + e) (by omega) (h.zd.dr hD hB h.ab.1 h.ab.2 ?_)
 rw [Nat.pow_add]
 exact Nat.lt_of_lt_of_le (Nat.mul_lt_mul_of_pos_right hB2 (Nat.pos_of_ne_zero hD)) (Nat.mul_le_mul_left _ hD2)
end Go.Proofs.YtbcooccafbccdaaGreatDoor
