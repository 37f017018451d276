/- The probabilities of the ends, and their sums. -/
import Derived.Test.YtbcooccafbccdaaGreatDoorWb
import Derived.Test.YtbcooccafbccdaaGreatDoorWp
namespace Go.Proofs.YtbcooccafbccdaaGreatDoor
open Go Vm
theorem psum_nonneg : ∀ {l : List Rat}, (∀ r, r ∈ l → 0 ≤ r) → 0 ≤ psum l
 | [], _ => by simp only [psum]; exact Rat.le_refl
 | a :: l, h => by
  have h1 := psum_nonneg (l := l) fun r hr => h r (List.mem_cons_of_mem _ hr)
  have h2 := h a (List.mem_cons_self ..)
  rw [psum]; grind
theorem psum_mem : ∀ {l : List Rat}, (∀ r, r ∈ l → 0 ≤ r) → ∀ {r : Rat}, r ∈ l → r ≤ psum l
 | a :: l, h, r, hr => by
  have h1 := psum_nonneg (l := l) fun r hr => h r (List.mem_cons_of_mem _ hr)
  have h2 := h a (List.mem_cons_self ..)
  rw [psum]
  rcases List.mem_cons.1 hr with rfl | hr
  ·grind
  ·have h3 := psum_mem (l := l) (fun r hr => h r (List.mem_cons_of_mem _ hr)) hr
   grind
theorem psum_take : ∀ {l : List Rat}, (∀ r, r ∈ l → 0 ≤ r) → ∀ k : Nat, psum (l.take k) ≤ psum l
 | [], _, k => by rw [List.take_nil]; exact Rat.le_refl
 | a :: l, h, 0 => psum_nonneg h
 | a :: l, h, k + 1 => by
  have := psum_take (l := l) (fun r hr => h r (List.mem_cons_of_mem _ hr)) k
  rw [List.take_succ_cons, psum, psum]; grind
theorem range_map_getD : ∀ (l : List Rat), (List.range l.length).map (fun c => l.getD c 0) = l := fun l => by
 refine List.ext_getElem (by simp) fun i h1 h2 => ?_
 rw [List.getElem_map, List.getElem_range, getD_eq l i 0 h2]
def Zd (D : Nat) (r : Rat) : Prop := ∃ z : Int, r = mkRat z D
theorem Zd.den (r : Rat) : Zd r.den r := ⟨r.num, (Rat.mkRat_self r).symm⟩
theorem Zd.mul {D E : Nat} {r s : Rat} : Zd D r → Zd E s → Zd (D * E) (r * s) := fun ⟨a, ha⟩ ⟨b, hb⟩ => ⟨a * b, by rw [ha, hb, Rat.mkRat_mul_mkRat]⟩
theorem Zd.more {D E : Nat} (hE : E ≠ 0) {r : Rat} : Zd D r → Zd (D * E) r := fun ⟨a, ha⟩ => ⟨a * E, by rw [ha, Rat.mkRat_mul_right hE]⟩
theorem Zd.add {D : Nat} (hD : D ≠ 0) {r s : Rat} : Zd D r → Zd D s → Zd D (r + s) := fun ⟨a, ha⟩ ⟨b, hb⟩ => ⟨a + b, by
  rw [ha, hb, Rat.mkRat_add_mkRat _ _ hD hD, ← Int.add_mul, Rat.mkRat_mul_right hD]⟩
theorem Zd.zero {D : Nat} : Zd D 0 := ⟨0, (Rat.zero_mkRat D).symm⟩
theorem Zd.psum {D : Nat} (hD : D ≠ 0) : ∀ {l : List Rat}, (∀ r, r ∈ l → Zd D r) → Zd D (psum l)
 | [], _ => Zd.zero
 | a :: l, h => (h a (List.mem_cons_self ..)).add hD (Zd.psum hD fun r hr => h r (List.mem_cons_of_mem _ hr))
theorem Zd.le {D : Nat} (hD : D ≠ 0) {r : Rat} : Zd D r → r.den ≤ D := fun ⟨a, ha⟩ => by
 rw [ha, Rat.den_mkRat, if_neg hD]; exact Nat.div_le_self _ _
theorem Zd.dr {D B k : Nat} (hD : D ≠ 0) (hB : 1 ≤ B) {r : Rat} (h : Zd D r) (h1 : r ≤ (B : Rat)) (h2 : -(B : Rat) ≤ r) (hk : B * D < 10 ^ k) : Dr k r := by
 have hd := h.le hD
 have a1 := (Rat.le_iff _ _).1 h1
 have a2 := (Rat.le_iff _ _).1 h2
 rw [Rat.num_natCast, Rat.den_natCast] at a1
 rw [Rat.neg_num, Rat.neg_den, Rat.num_natCast, Rat.den_natCast] at a2
 have hBd : B * r.den ≤ B * D := Nat.mul_le_mul_left _ hd
 have hD' : D ≤ B * D := Nat.le_mul_of_pos_left _ hB
 refine ⟨?_, by omega⟩
 have a3 : (B : Int) * (r.den : Int) = ((B * r.den : Nat) : Int) := by simp
 have a4 : -(B : Int) * (r.den : Int) = -((B * r.den : Nat) : Int) := by rw [Int.neg_mul, a3]
 rw [a3] at a1
 rw [a4] at a2
 omega
theorem parent {t : List Nd} (hv : V t) {x : Nat} (h0 : 0 < x) (hx : x < t.length) : ∃ (j c : Nat), j < x ∧ (nx (nd t j))[c]? = some (x : Int) := by
 have key : ∀ i, i ≤ t.length → 0 < inc t x i → ∃ j, j < i ∧ (x : Int) ∈ nx (nd t j) := by
  intro i
  induction i with
  | zero => intro _ h; simp [inc] at h
  | succ i ih =>
   intro hi h
   by_cases hm : (x : Int) ∈ nx (nd t i)
   ·exact ⟨i, by omega, hm⟩
   ·have hc : (nx (nd t i)).count (x : Int) = 0 := List.count_eq_zero.2 hm
    simp only [inc] at h
    obtain ⟨j, hj, hm⟩ := ih (by omega) (by omega)
    exact ⟨j, by omega, hm⟩
 obtain ⟨j, hj, hm⟩ := key t.length (Nat.le_refl _) (by rw [hv.one x h0 hx]; decide)
 obtain ⟨c, hc⟩ := List.mem_iff_getElem?.1 hm
 have := good_kids (hv.good j hj) _ hm
 exact ⟨j, c, by omega, hc⟩
structure Prob (t : List Nd) (ρ : Nat → Nat → Rat) : Prop where
 nonneg : ∀ i, i < t.length → ∀ c, c < (nx (nd t i)).length → 0 ≤ ρ i c
 one : ∀ i, i < t.length → nx (nd t i) ≠ [] → psum ((List.range (nx (nd t i)).length).map (ρ i)) = 1
 dr : ∀ i, i < t.length → ∀ c, c < (nx (nd t i)).length → Dr 12 (ρ i c)
theorem rr_zd {t : List Nd} (hv : V t) {ρ : Nat → Nat → Rat} (hd : ∀ i, i < t.length → ∀ c, c < (nx (nd t i)).length → Dr 12 (ρ i c)) {R : Nat → Rat} (h : RR t ρ t.length R) : ∀ i, i ≤ t.length → ∃ D : Nat, D ≠ 0 ∧ D ≤ 10 ^ (12 * i) ∧ ∀ y, y < i → Zd D (R y)
 | 0, _ => ⟨1, by decide, by decide, fun y hy => by omega⟩
 | i + 1, hi => by
  obtain ⟨D, h1, h2, h3⟩ := rr_zd hv hd h i (by omega)
  by_cases h0 : i = 0
  ·subst h0
   refine ⟨1, by decide, by decide, fun y hy => ?_⟩
   have : y = 0 := by omega
   subst this
   rw [h.root]; exact Zd.den 1
  ·obtain ⟨j, c, hj, hc⟩ := parent hv (show 0 < i by omega) (show i < t.length by omega)
   have hcl : c < (nx (nd t j)).length := (List.getElem?_eq_some_iff.1 hc).1
   have hk := h.kid j (by omega) c _ hc
   rw [Int.toNat_natCast] at hk
   have hdd := hd j (by omega) c hcl
   have hnz := (ρ j c).den_nz
   refine ⟨D * (ρ j c).den, Nat.mul_ne_zero h1 hnz, ?_, fun y hy => ?_⟩
   ·rw [Nat.mul_succ, Nat.pow_add]
    exact Nat.mul_le_mul h2 (Nat.le_of_lt hdd.2)
   ·by_cases e : y = i
    ·rw [e, hk]; exact (h3 j hj).mul (Zd.den _)
    ·exact (h3 y (by omega)).more hnz
theorem part_ok {D : Nat} (hD : D ≠ 0) {q : Nat} (hq : q + 1 ≤ 2000) (hD2 : D ≤ 10 ^ q) {l : List Rat} (h : ∀ r, r ∈ l → 0 ≤ r ∧ Zd D r) (h1 : psum l ≤ 1) (k : Nat) : OkR (psum (l.take k)) := by
 have h2 := psum_take (fun r hr => (h r hr).1) k
 have h3 := psum_nonneg (l := l.take k) fun r hr => (h r (List.mem_of_mem_take hr)).1
 have h4 := Zd.psum hD (l := l.take k) fun r hr => (h r (List.mem_of_mem_take hr)).2
 have e1 : ((1 : Nat) : Rat) = 1 := rfl
 refine dr_okr (k := q + 1) (h4.dr hD (Nat.le_refl 1) (by rw [e1]; exact Rat.le_trans h2 h1) (by rw [e1]; grind) ?_) (by omega) hq
 rw [Nat.one_mul]
 exact Nat.lt_of_le_of_lt hD2 (Nat.pow_lt_pow_right (by decide) (Nat.lt_succ_self q))
theorem fs_single (R : Nat → Rat) (k : Nat) : ∀ n, fs (fun x => if x = k then R x else 0) n = if k < n then R k else 0
 | 0 => by simp [fs]
 | n + 1 => by
  rw [fs, fs_single R k n]
  by_cases e : n = k
  ·subst e
   rw [if_neg (by omega), if_pos rfl, if_pos (by omega), Rat.zero_add]
  ·rw [if_neg e, Rat.add_zero]
   by_cases h : k < n
   ·rw [if_pos h, if_pos (by omega)]
   ·rw [if_neg h, if_neg (by omega)]
end Go.Proofs.YtbcooccafbccdaaGreatDoor
