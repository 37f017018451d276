/- Det: what it finds. -/
import Derived.Test.YtnhdjbbdgegkgaaDoorVi
namespace Go.Proofs.YtnhdjbbdgegkgaaDoor
open Go Vm
theorem int_1 : f_rat_Int fuel 1 = some (false, (zs (cn 1), zs (cn 1))) := by
 unfold f_rat_Int
 rw [if_neg (by decide), of_one, Option.bind_some, Option.bind_some]
theorem sw_comm (p q r : Nat) : sw p q r = sw q p r := by
 unfold sw
 by_cases h1 : r = p
 ·by_cases h2 : r = q
  ·rw [if_pos h1, if_pos h2]; omega
  ·rw [if_pos h1, if_neg h2, if_pos h1]
 ·by_cases h2 : r = q
  ·rw [if_neg h1, if_pos h2, if_pos h2]
  ·rw [if_neg h1, if_neg h2, if_neg h2, if_neg h1]
theorem sw_id (p r : Nat) : sw p p r = r := by
 unfold sw
 by_cases h : r = p
 ·rw [if_pos h]; exact h.symm
 ·rw [if_neg h, if_neg h]
theorem Bas.det_pivot {m N : Nat} {M B R : Nat → Nat → Rat} (h : Bas m N M B R) {p k : Nat} (hp : p < m) (hk : k < N) : det m (upd p (fun i => M i k) B) = R p k * det m B :=
 cramer (x := fun r => R r k) hp fun i hi => h.eq i hi k hk
theorem det_sw {m : Nat} {B : Nat → Nat → Rat} {p q : Nat} (hp : p < m) (hq : q < m) (e : p ≠ q) : det m (fun i r => B i (sw p q r)) = - det m B := by
 have h1 := det_exch hp hq e (fun i => B i q) (fun i => B i p) B
 rw [upd_self q B, upd_self p B] at h1
 rw [← h1]
 refine det_ext fun i _ r _ => ?_
 unfold upd sw
 by_cases g1 : r = p
 ·rw [if_pos g1, if_pos g1]
 ·rw [if_neg g1, if_neg g1]
  by_cases g2 : r = q
  ·rw [if_pos g2, if_pos g2]
  ·rw [if_neg g2, if_neg g2]
theorem det_in {a : List (List ByteArray)} {R C : Nat} {M : Nat → Nat → Rat} (h : Txt a R C M) (hR : R ≤ 100) (hC : C ≤ 100) : ∀ (m i : Nat) (g : List (List Qd)), i ≤ R → R < m + i → QG i C M g →
  ∃ g', l_matrix_In__matrix_Det_3 m a (R : Int) (i : Int) g = some (.exit (g', ())) ∧ QG R C M g'
 | 0, i, g, h1, h2, _ => by omega
 | m + 1, i, g, h1, h2, hg => by
  have hl := h.1
  simp only [l_matrix_In__matrix_Det_3]
  by_cases hi : i < R
  ·have e4 : IntKind.i64.wrap ((i : Int) + 1) = ((i + 1 : Nat) : Int) := by rw [w64 _ (by omega) (by omega)]; omega
   obtain ⟨h3, h4⟩ := h.2 i hi
   obtain ⟨qs, gq, hq⟩ := row_ok ((List.range C).map (M i)) (by rw [List.length_map, List.length_range]; omega) (fun r hr => by
     obtain ⟨j, hj, rfl⟩ := List.mem_map.1 hr
     exact h4 j (List.mem_range.1 hj))
   have hgl := hg.1
   rw [if_pos (by simpa using hi), if_pos (by omega), if_pos (by omega), Int.toNat_natCast, h3, gq, Option.bind_some, if_pos (by omega), e4]
   refine det_in h hR hC m (i + 1) _ (by omega) (by omega) (hg.snoc ?_)
   have := QF.of hq
   rw [List.length_map, List.length_range] at this
   exact this.ext fun j hj => range_getD hj
  ·rw [if_neg (by simpa using hi)]
   have : i = R := by omega
   subst this
   exact ⟨g, rfl, hg⟩
theorem det_find {R C k : Nat} (hR : R ≤ 100) (hk : k < C) {T : Nat → Nat → Rat} {g : List (List Qd)} (hg : QG R C T g) : ∀ (f m i : Nat), i + m = R → m < f →
  ∃ d, l_matrix_Det_11 f (k : Int) (i : Int) g = some (.exit ((fnd T k m i : Nat), g, d))
 | 0, m, i, h1, h2 => by omega
 | f + 1, m, i, h1, h2 => by
  have lg := hg.1
  simp only [l_matrix_Det_11]
  by_cases hi : i < R
  ·have e4 : IntKind.i64.wrap ((i : Int) + 1) = ((i + 1 : Nat) : Int) := by rw [w64 _ (by omega) (by omega)]; omega
   have hri := hg.2 i hi
   have li := hri.1
   obtain ⟨m', rfl⟩ : ∃ m', m = m' + 1 := ⟨m - 1, by omega⟩
   rw [if_pos (by rw [decide_eq_true_eq]; omega), if_pos (by omega), if_pos (by omega), if_pos (by omega), Int.toNat_natCast, if_pos (by rw [li]; omega), Int.toNat_natCast, qsign_ok (hri.at hk), Option.bind_some, e4, fnd]
   by_cases hz : T i k = 0
   ·rw [if_pos (sign0.2 hz), if_pos hz]
    exact det_find hR hk hg f m' (i + 1) (by omega) (by omega)
   ·rw [if_neg fun h => hz (sign0.1 h), if_neg hz]
    exact ⟨_, rfl⟩
  ·rw [if_neg (by rw [decide_eq_true_eq]; omega)]
   have : m = 0 := by omega
   subst this
   exact ⟨_, rfl⟩
theorem det_loop {n K : Nat} (hn : n ≤ 100) (hK : K ≤ 4000000) {M : Nat → Nat → Rat} (hgood : Good n n K M) : ∀ (m s k : Nat) (B T : Nat → Nat → Rat) (g : List (List Qd)) (q : Qd), k + s = n → s + 1000 < m → Bas n n M B T → Cls n n M B → QG n n T g → QR (det n B) q →
  (∃ d, l_matrix_Det_8 m (n : Int) (k : Int) g q.1 q.2.1 q.2.2 = some (.ret ((⟨#[48]⟩ : ByteArray), 0, d)) ∧ (el n s k k T).1 < n) ∨
  (∃ q' : Qd, ∃ r, l_matrix_Det_8 m (n : Int) (k : Int) g q.1 q.2.1 q.2.2 = some (.exit (q'.1, q'.2.1, q'.2.2, ())) ∧ QR r q' ∧ r ≠ 0 ∧ Dr K r ∧ (el n s k k T).1 = n)
 | 0, s, k, B, T, g, q, h1, h2, _, _, _, _ => by omega
 | m + 1, 0, k, B, T, g, q, h1, h2, hB, hCl, hg, hq => by
  simp only [l_matrix_Det_8]
  rw [if_neg (by rw [decide_eq_true_eq]; omega)]
  exact .inr ⟨q, _, rfl, hq, hB.nz, (hgood _ _ hB hCl).2, h1⟩
 | m + 1, s + 1, k, B, T, g, q, h1, h2, hB, hCl, hg, hq => by
  have lg := hg.1
  have e4 : IntKind.i64.wrap ((k : Int) + 1) = ((k + 1 : Nat) : Int) := by rw [w64 _ (by omega) (by omega)]; omega
  obtain ⟨d, hf⟩ := det_find hn (show k < n by omega) hg m (n - k) k (by omega) (by omega)
  have hf1 := fnd_le (T := T) (k := k) (m := n - k) (i := k)
  simp only [l_matrix_Det_8]
  rw [if_pos (by rw [decide_eq_true_eq]; omega), hf]
  simp only
  rw [e4]
  by_cases c : fnd T k (n - k) k = n
  ·rw [if_pos (show (((fnd T k (n - k) k : Nat) : Int) == ((g.length : Nat) : Int)) = true by rw [beq_iff_eq]; omega), el, if_pos c]
   have := el_le (R := n) (s := s) (k := k + 1) (a := k) (T := T) (by omega)
   exact .inl ⟨_, rfl, by omega⟩
  ·have hne := fnd_ne (T := T) (k := k) (m := n - k) (i := k) (by omega)
   rw [if_neg (show ¬ (((fnd T k (n - k) k : Nat) : Int) == ((g.length : Nat) : Int)) = true by rw [beq_iff_eq]; omega), el, if_neg c]
   generalize hi : fnd T k (n - k) k = i at *
   obtain ⟨b1, b2⟩ := hB.stp hCl (a := k) (i := i) (k := k) (by omega) (by omega) (by omega) hne
   have hsB := hB.swap (p := k) (q := i) (by omega) (by omega)
   have hsC := hCl.swap (p := k) (q := i) (by omega) (by omega)
   have hd := (hgood _ _ hsB hsC).1
   have hdd := (hgood _ _ hsB hsC).2
   have hd' := (hgood _ _ b1 b2).1
   have hpv := hsB.det_pivot (p := k) (k := k) (by omega) (by omega)
   have il : ((i : Nat) : Int) < ((g.length : Nat) : Int) := by omega
   have hsk : sw k i k = i := by unfold sw; rw [if_pos rfl]
   by_cases hik : i = k
   ·have hq0 : QG n n (fun r c => T (sw k i r) c) g := by
     rw [hik]
     exact hg.ext fun r _ c _ => by rw [sw_id]
    have hqd : QR (det n fun a r => B a (sw k i r)) q := by
     have : (fun a r => B a (sw k i r)) = B := by funext a r; rw [hik, sw_id]
     rw [this]; exact hq
    obtain ⟨g1, d1, g2, d2, s1, s2, s3⟩ := dtm_sweep (p := k) (k := k) hn hn hK (by omega) (by omega) (T := fun r c => T (sw k i r) c) (by rw [hsk]; exact hne) hd hd' hq0 (m := m) (by omega)
    have hrow := hq0.2 k (by omega)
    have lrow := hrow.1
    obtain ⟨y, hy, hqy⟩ := qmul_ok hqd (hrow.at (show k < n by omega)) hdd (hd k (by omega) k (by omega)) (by omega)
    have hy : f_rat_Q_Mul fuel (q.1, (q.2.1, q.2.2)) (((g.getD k []).getD k (false, ([], []))).1, (((g.getD k []).getD k (false, ([], []))).2)) = some y := hy
    rw [if_neg (show ¬ (((i : Nat) : Int) != ((k : Nat) : Int)) = true by rw [bne_iff_ne]; omega), if_pos (by omega), if_pos (by omega), if_pos (by omega), Int.toNat_natCast, if_pos (by omega), hy, Option.bind_some, if_pos (by omega), if_pos (by omega), if_pos (by omega), if_pos (by omega), if_pos (by omega), if_pos (by omega), s1]
    simp only
    rw [s2]
    simp only
    exact det_loop hn hK hgood m s (k + 1) _ _ g2 y (by omega) (by omega) b1 b2 s3 (by rw [hpv, Rat.mul_comm]; exact hqy)
   ·have hsw := (hg.swap (a := i) (i := k) (by omega) (by omega)).ext (M' := fun r c => T (sw k i r) c) fun r _ c _ => by rw [sw_comm]
    obtain ⟨z, hz, hqz⟩ := qneg_ok hq
    have hz : f_rat_Q_Neg fuel (q.1, (q.2.1, q.2.2)) = some z := hz
    rw [← det_sw (B := B) (p := k) (q := i) (by omega) (by omega) fun e => hik e.symm] at hqz
    obtain ⟨g1, d1, g2, d2, s1, s2, s3⟩ := dtm_sweep (p := k) (k := k) hn hn hK (by omega) (by omega) (T := fun r c => T (sw k i r) c) (by rw [hsk]; exact hne) hd hd' hsw (m := m) (by omega)
    have hrow := hsw.2 k (by omega)
    have lrow := hrow.1
    have lsw := hsw.1
    obtain ⟨y, hy, hqy⟩ := qmul_ok hqz (hrow.at (show k < n by omega)) hdd (hd k (by omega) k (by omega)) (by omega)
    rw [if_pos (show (((i : Nat) : Int) != ((k : Nat) : Int)) = true by rw [bne_iff_ne]; omega), if_pos (by omega), if_pos (by omega), if_pos (show (0 : Int) ≤ ((i : Nat) : Int) by omega), if_pos il, if_pos (show (0 : Int) ≤ ((i : Nat) : Int) by omega), if_pos il, if_pos (by omega), if_pos (by omega), if_pos (by omega), if_pos (by simp), hz, Option.bind_some]
    simp only [Int.toNat_natCast]
    rw [if_pos (by omega), if_pos (by omega), if_pos (by omega), if_pos (by rw [lrow]; omega), hy, Option.bind_some, if_pos (by omega), if_pos (by omega), if_pos (by omega), if_pos (by rw [lrow]; omega), if_pos (by omega), if_pos (by omega), s1]
    simp only
    rw [s2]
    simp only
    exact det_loop hn hK hgood m s (k + 1) _ _ g2 y (by omega) (by omega) b1 b2 s3 (by rw [hpv, Rat.mul_comm]; exact hqy)
end Go.Proofs.YtnhdjbbdgegkgaaDoor
