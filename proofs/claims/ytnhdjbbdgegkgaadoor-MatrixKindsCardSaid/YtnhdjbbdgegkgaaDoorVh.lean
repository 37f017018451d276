/- Unique: what it finds. -/
import Derived.Test.YtnhdjbbdgegkgaaDoorVg
namespace Go.Proofs.YtnhdjbbdgegkgaaDoor
open Go Vm
theorem sign0 {r : Rat} : (r.num.sign == 0) = true ↔ r = 0 := by
 rw [beq_iff_eq]
 exact ⟨fun h => Rat.num_eq_zero.1 (Int.sign_eq_zero_iff_zero.1 h), fun h => by rw [h]; rfl⟩
theorem uni_find {R C k : Nat} (hR : R ≤ 100) (hk : k < C) {T : Nat → Nat → Rat} {g : List (List Qd)} (hg : QG R C T g) : ∀ (f m i : Nat), i + m = R → m < f →
  ∃ d, l_matrix_Unique_12 f (k : Int) (i : Int) g = some (.exit ((fnd T k m i : Nat), g, d))
 | 0, m, i, h1, h2 => by omega
 | f + 1, m, i, h1, h2 => by
  have lg := hg.1
  simp only [l_matrix_Unique_12]
  by_cases hi : i < R
  ·have e4 : IntKind.i64.wrap ((i : Int) + 1) = ((i + 1 : Nat) : Int) := by rw [w64 _ (by omega) (by omega)]; omega
   have hri := hg.2 i hi
   have li := hri.1
   obtain ⟨m', rfl⟩ : ∃ m', m = m' + 1 := ⟨m - 1, by omega⟩
   rw [if_pos (by rw [decide_eq_true_eq]; omega), if_pos (by omega), if_pos (by omega), if_pos (by omega), Int.toNat_natCast, if_pos (by rw [li]; omega), Int.toNat_natCast, qsign_ok (hri.at hk), Option.bind_some, e4, fnd]
   by_cases hz : T i k = 0
   ·rw [if_pos (sign0.2 hz), if_pos hz]
    exact uni_find hR hk hg f m' (i + 1) (by omega) (by omega)
   ·rw [if_neg fun h => hz (sign0.1 h), if_neg hz]
    exact ⟨_, rfl⟩
  ·rw [if_neg (by rw [decide_eq_true_eq]; omega)]
   have : m = 0 := by omega
   subst this
   exact ⟨_, rfl⟩
theorem uni_loop {R C K n : Nat} (hR : R ≤ 100) (hC : C ≤ 100) (hK : K ≤ 4000000) (hn : n ≤ C) {M : Nat → Nat → Rat} (hgood : Good R C K M) : ∀ (m s k a : Nat) (B T : Nat → Nat → Rat) (g : List (List Qd)), k + s = n → s + 1000 < m → a ≤ R → a ≤ k → Bas R C M B T → Cls R C M B → QG R C T g →
  ∃ g' d B', l_matrix_Unique_9 m (a : Int) (n : Int) (k : Int) g = some (.exit (((el R s k a T).1 : Nat), g', d)) ∧ QG R C (el R s k a T).2 g' ∧ Bas R C M B' (el R s k a T).2 ∧ Cls R C M B'
 | 0, s, k, a, B, T, g, h1, h2, _, _, _, _, _ => by omega
 | m + 1, 0, k, a, B, T, g, h1, h2, ha, hak, hB, hCl, hg => by
  simp only [l_matrix_Unique_9]
  rw [if_neg (by rw [decide_eq_true_eq]; omega)]
  exact ⟨g, _, B, rfl, hg, hB, hCl⟩
 | m + 1, s + 1, k, a, B, T, g, h1, h2, ha, hak, hB, hCl, hg => by
  have lg := hg.1
  have e4 : IntKind.i64.wrap ((k : Int) + 1) = ((k + 1 : Nat) : Int) := by rw [w64 _ (by omega) (by omega)]; omega
  have e5 : IntKind.i64.wrap ((a : Int) + 1) = ((a + 1 : Nat) : Int) := by rw [w64 _ (by omega) (by omega)]; omega
  obtain ⟨d, hf⟩ := uni_find hR (show k < C by omega) hg m (R - a) a (by omega) (by omega)
  have hf1 := fnd_le (T := T) (k := k) (m := R - a) (i := a)
  simp only [l_matrix_Unique_9]
  rw [if_pos (by rw [decide_eq_true_eq]; omega), hf]
  simp only
  rw [e4, e5]
  by_cases c : fnd T k (R - a) a = R
  ·rw [if_pos (show (((fnd T k (R - a) a : Nat) : Int) == ((g.length : Nat) : Int)) = true by rw [beq_iff_eq]; omega), el, if_pos c]
   exact uni_loop hR hC hK hn hgood m s (k + 1) a B T g (by omega) (by omega) ha (by omega) hB hCl hg
  ·have hne := fnd_ne (T := T) (k := k) (m := R - a) (i := a) (by omega)
   rw [if_neg (show ¬ (((fnd T k (R - a) a : Nat) : Int) == ((g.length : Nat) : Int)) = true by rw [beq_iff_eq]; omega), el, if_neg c]
   generalize hi : fnd T k (R - a) a = i at *
   have hsw := hg.swap (a := a) (i := i) (by omega) (by omega)
   have hrow := hsw.2 a (by omega)
   have lrow := hrow.1
   have lsw := hsw.1
   obtain ⟨b1, b2⟩ := hB.stp hCl (a := a) (i := i) (k := k) (by omega) (by omega) (by omega) hne
   have hsB := hB.swap (p := a) (q := i) (by omega) (by omega)
   have hd := (hgood _ _ hsB (hCl.swap (by omega) (by omega))).1
   have hd' := (hgood _ _ b1 b2).1
   obtain ⟨g1, d1, g2, d2, s1, s2, s3⟩ := uni_sweep (p := a) (k := k) hR hC hK (by omega) (by omega) (T := fun r c => T (sw a i r) c) (by rw [show sw a i a = i by unfold sw; rw [if_pos rfl]]; exact hne) hd hd' hsw (m := m) (by omega)
   have il : ((i : Nat) : Int) < ((g.length : Nat) : Int) := by omega
   rw [if_pos (by omega), if_pos il, if_pos (by omega), if_pos (by omega), if_pos (by omega), if_pos (by omega), if_pos (show Int.toNat ((i : Nat) : Int) < g.length by omega), if_pos (by omega), if_pos il, if_pos (by simp), if_pos (by omega)]
   simp only [Int.toNat_natCast]
   rw [if_pos (by omega), if_pos (by omega), if_pos (by rw [lrow]; omega), if_pos (by omega), if_pos (by omega), s1]
   simp only
   rw [s2]
   simp only
   exact uni_loop hR hC hK hn hgood m s (k + 1) (a + 1) _ _ g2 (by omega) (by omega) (by omega) (by omega) b1 b2 s3
end Go.Proofs.YtnhdjbbdgegkgaaDoor
