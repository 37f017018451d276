/- Solve: what it finds. -/
import Derived.Test.YtnhdjbbdgegkgaaDoorVh
namespace Go.Proofs.YtnhdjbbdgegkgaaDoor
open Go Vm
theorem clone_qs (x : List Qd) (h : x.length ≤ 100000) : f_slices_Clone_Qs x = some x := by
 unfold f_slices_Clone_Qs f_slices_Clone_Q
 rw [if_neg (by simp), if_pos (by simp only [Option.getD_some]; omega)]
 rfl
def aug (n : Nat) (A : Nat → Nat → Rat) (b : Nat → Rat) (r c : Nat) : Rat := if c < n then A r c else b r
theorem aug_loop {R n : Nat} (hR : R ≤ 100) (hn : n ≤ 100) {A : Nat → Nat → Rat} {b : Nat → Rat} {g : List (List Qd)} {bs : List Qd} (hg : QG R n A g) (hb : QF R b bs) : ∀ (m i : Nat) (out : List (List Qd)), i ≤ R → R < m + i → QG i (n + 1) (aug n A b) out →
  ∃ out', l_matrix_Unique_3 m bs g (R : Int) (i : Int) out = some (.exit (out', ())) ∧ QG R (n + 1) (aug n A b) out'
 | 0, i, out, h1, h2, _ => by omega
 | m + 1, i, out, h1, h2, ho => by
  have lg := hg.1
  have lb := hb.1
  have lo := ho.1
  simp only [l_matrix_Unique_3]
  by_cases hi : i < R
  ·have e4 : IntKind.i64.wrap ((i : Int) + 1) = ((i + 1 : Nat) : Int) := by rw [w64 _ (by omega) (by omega)]; omega
   have hr := hg.2 i hi
   have lr := hr.1
   rw [if_pos (by simpa using hi), if_pos (by omega), if_pos (by omega), if_pos (by omega), if_pos (by omega), Int.toNat_natCast, clone_qs _ (by omega), Option.bind_some, if_pos (by omega), if_pos (by omega), e4]
   refine aug_loop hR hn hg hb m (i + 1) _ (by omega) (by omega) (ho.snoc ?_)
   refine QF.snoc (hr.ext fun c hc => ?_) ?_
   ·unfold aug; rw [if_pos hc]
   ·unfold aug; rw [if_neg (Nat.lt_irrefl n)]; exact hb.at hi
  ·rw [if_neg (by simpa using hi)]
   have : i = R := by omega
   subst this
   exact ⟨out, rfl, ho⟩
theorem uni_rest {R C n : Nat} (hR : R ≤ 100) (hn : n < C) {T : Nat → Nat → Rat} {g : List (List Qd)} (hg : QG R C T g) : ∀ (m i : Nat), i ≤ R → R < m + i →
  (∃ d, l_matrix_Unique_20 m (n : Int) g (R : Int) (i : Int) = some (.ret (0, d))) ∨ (∃ d, l_matrix_Unique_20 m (n : Int) g (R : Int) (i : Int) = some (.exit d)) ∧ ∀ r, i ≤ r → r < R → T r n = 0
 | 0, i, h1, h2 => by omega
 | m + 1, i, h1, h2 => by
  have lg := hg.1
  simp only [l_matrix_Unique_20]
  by_cases hi : i < R
  ·have e4 : IntKind.i64.wrap ((i : Int) + 1) = ((i + 1 : Nat) : Int) := by rw [w64 _ (by omega) (by omega)]; omega
   have hr := hg.2 i hi
   have lr := hr.1
   rw [if_pos (by simpa using hi), if_pos (by omega), if_pos (by omega), if_pos (by omega), Int.toNat_natCast, if_pos (by omega), Int.toNat_natCast, qsign_ok (hr.at hn), Option.bind_some, e4]
   by_cases hz : T i n = 0
   ·rw [if_neg (by rw [hz]; decide)]
    rcases uni_rest hR hn hg m (i + 1) (by omega) (by omega) with h | ⟨h, h'⟩
    ·exact .inl h
    ·refine .inr ⟨h, fun r hr hrR => ?_⟩
     by_cases e : r = i
     ·rw [e]; exact hz
     ·exact h' r (by omega) hrR
   ·rw [if_pos (by rw [bne_iff_ne]; exact fun h => hz (sign0.1 (by rw [h]; rfl)))]
    exact .inl ⟨_, rfl⟩
  ·rw [if_neg (by simpa using hi)]
   exact .inr ⟨⟨_, rfl⟩, fun r hr hrR => by omega⟩
theorem uni_take {R C n : Nat} (hR : R ≤ 100) (hnR : n ≤ R) (hn : n < C) {T : Nat → Nat → Rat} {g : List (List Qd)} (hg : QG R C T g) : ∀ (m i : Nat) (x : List Qd), i ≤ n → n < m + i → x.length = n → (∀ j, j < i → QR (T j n) (x.getD j (false, ([], [])))) →
  ∃ x' d, l_matrix_Unique_29 m (n : Int) g (n : Int) (i : Int) x = some (.exit (x', d)) ∧ QF n (fun j => T j n) x'
 | 0, i, x, h1, h2, _, _ => by omega
 | m + 1, i, x, h1, h2, hl, hx => by
  have lg := hg.1
  simp only [l_matrix_Unique_29]
  by_cases hi : i < n
  ·have e4 : IntKind.i64.wrap ((i : Int) + 1) = ((i + 1 : Nat) : Int) := by rw [w64 _ (by omega) (by omega)]; omega
   have hr := hg.2 i (by omega)
   have lr := hr.1
   rw [if_pos (by simpa using hi), if_pos (by omega), if_pos (by omega), if_pos (by omega), Int.toNat_natCast, if_pos (by omega), if_pos (by omega), if_pos (by omega), Int.toNat_natCast, e4]
   refine uni_take hR hnR hn hg m (i + 1) _ (by omega) (by omega) (by rw [List.length_set]; exact hl) fun j hj => ?_
   by_cases e : j = i
   ·rw [e, getD_set_eq' _ _ _ _ (by omega)]; exact hr.at hn
   ·rw [getD_set_ne' _ _ _ _ _ (fun x => e x.symm)]; exact hx j (by omega)
  ·rw [if_neg (by simpa using hi)]
   have : i = n := by omega
   subst this
   exact ⟨x, _, rfl, hl, hx⟩
theorem QG.drop {R C a : Nat} {T : Nat → Nat → Rat} {g : List (List Qd)} (h : QG R C T g) (ha : a ≤ R) : QG (R - a) C (fun r c => T (a + r) c) (g.drop a) := by
 refine ⟨by rw [List.length_drop, h.1], fun i hi => ?_⟩
 have e : (g.drop a).getD i [] = g.getD (a + i) [] := by rw [List.getD_eq_getElem?_getD, List.getElem?_drop, ← List.getD_eq_getElem?_getD]
 rw [e]
 exact h.2 (a + i) (by omega)
theorem unique_ok {R n K : Nat} (hR : R ≤ 40) (hn : n ≤ 40) (hK : K ≤ 4000000) {A : Nat → Nat → Rat} {b : Nat → Rat} {g : List (List Qd)} {bs : List Qd} (hg : QG R n A g) (hb : QF R b bs) (hgood : Good R (n + 1) K (aug n A b)) :
  (∃ k : Int, (k = 0 ∨ k = 2) ∧ f_matrix_Unique fuel g bs (n : Int) = some ([], k) ∧ ((el R n 0 0 (aug n A b)).1 = n → n < R)) ∨
  ∃ x X, f_matrix_Unique fuel g bs (n : Int) = some (x, 1) ∧ QF n X x ∧ (∀ j, j < n → Dr K (X j)) ∧ (el R n 0 0 (aug n A b)).1 = n ∧ ∀ i, i < R → fs (fun j => A i j * X j) n = b i := by
 have hf := fuel_ge (n := 2 ^ 100) (by decide)
 obtain ⟨g1, h1, h2⟩ := aug_loop (by omega) (by omega) hg hb fuel 0 [] (by omega) (by omega) ⟨rfl, fun i hi => by omega⟩
 have h1 : l_matrix_Unique_3 fuel bs g (R : Int) 0 [] = _ := h1
 obtain ⟨g2, d2, B, h3, h4, h5, hcl⟩ := uni_loop (by omega) (by omega) hK (Nat.le_succ n) hgood fuel n 0 0 one (aug n A b) g1 (by omega) (by omega) (by omega) (by omega) (Bas.one ..) (Cls.one _ _ _) h2
 have h3 : l_matrix_Unique_9 fuel 0 (n : Int) 0 g1 = _ := h3
 have hle := el_le (R := R) (s := n) (k := 0) (a := 0) (T := aug n A b) (Nat.zero_le _)
 have hun := el_unit (R := R) (s := n) (k := 0) (T := aug n A b) (Nat.zero_le _) (fun r c h => by omega)
 unfold f_matrix_Unique
 rw [hg.1, h1]
 simp only
 rw [h3]
 simp only
 have l2 := h4.1
 generalize hel : el R n 0 0 (aug n A b) = E at *
 obtain ⟨a, T⟩ := E
 simp only at *
 have ha1 : ((a : Nat) : Int) ≤ ((g2.length : Nat) : Int) := by omega
 have ha0 : (0 : Int) ≤ ((a : Nat) : Int) := by omega
 rw [if_pos ha0, if_pos ha1, List.take_of_length_le (Nat.le_refl _), Int.toNat_natCast]
 have hd := h4.drop (a := a) (by omega)
 have ld : (g2.drop a).length = R - a := hd.1
 rcases uni_rest (by omega) (Nat.lt_succ_self n) hd fuel 0 (by omega) (by omega) with ⟨d, g3⟩ | ⟨⟨d, g3⟩, h6⟩
 ·have g3 : l_matrix_Unique_20 fuel (n : Int) (g2.drop a) ((g2.drop a).length : Int) 0 = some (.ret (0, d)) := by rw [ld]; exact g3
  rw [g3]
  refine .inl ⟨0, .inl rfl, rfl, fun he => ?_⟩
  by_cases c : a < R
  ·omega
  ·have e : g2.drop a = [] := List.drop_eq_nil_of_le (by omega)
   rw [e] at g3
   exfalso
   obtain ⟨f', hf'⟩ : ∃ f', fuel = f' + 1 := ⟨fuel - 1, by omega⟩
   rw [hf'] at g3
   simp [l_matrix_Unique_20] at g3
 ·have g3 : l_matrix_Unique_20 fuel (n : Int) (g2.drop a) ((g2.drop a).length : Int) 0 = some (.exit d) := by rw [ld]; exact g3
  rw [g3]
  simp only
  by_cases c : a < n
  ·have c' : ((a : Nat) : Int) < ((n : Nat) : Int) := by omega
   rw [if_pos (decide_eq_true c')]
   exact .inl ⟨2, .inr rfl, rfl, fun he => by omega⟩
  ·have c' : ¬ ((a : Nat) : Int) < ((n : Nat) : Int) := by omega
   rw [if_neg (by rw [decide_eq_true_eq]; exact c'), if_pos (by omega), if_pos (by omega), if_pos (by omega), Int.toNat_natCast, List.length_replicate]
   have han : a = n := by omega
   subst han
   obtain ⟨x, d', g4, h7⟩ := uni_take (by omega) (by omega) (Nat.lt_succ_self a) h4 fuel 0 (List.replicate a (false, ([], []))) (by omega) (by omega) (by simp) (fun j hj => by omega)
   have g4 : l_matrix_Unique_29 fuel (a : Int) g2 (a : Int) 0 (List.replicate a (false, ([], []))) = _ := g4
   rw [g4]
   refine .inr ⟨x, fun j => T j a, rfl, h7, fun j hj => ?_, rfl, fun i hi => ?_⟩
   ·exact (hgood _ _ h5 hcl).1 j (by omega) a (Nat.lt_succ_self a)
   ·have hu := hun (by omega)
    rw [Nat.zero_add] at hu
    have e1 := h5.eq i hi a (Nat.lt_succ_self a)
    have e2 : aug a A b i a = b i := by unfold aug; rw [if_neg (Nat.lt_irrefl a)]
    have key : ∀ m, m ≤ R - a → fs (fun r => B i r * T r a) (a + m) = fs (fun r => B i r * T r a) a := fun m => by
     induction m with
     | zero => intro _; rfl
     | succ m ih =>
      intro hm
      rw [show a + (m + 1) = a + m + 1 by omega, fs, ih (by omega)]
      have := h6 m (by omega) (by omega)
      rw [this]; grind
    have e3 := key (R - a) (Nat.le_refl _)
    rw [show a + (R - a) = R by omega, e1, e2] at e3
    rw [e3]
    refine fs_ext fun j hj => ?_
    have e4 := h5.eq i hi j (by omega)
    have e5 : aug a A b i j = A i j := by unfold aug; rw [if_pos hj]
    rw [e5] at e4
    have e6 : fs (fun r => B i r * T r j) R = fs (fun r => one j r * B i r) R := fs_ext fun r _ => by
     rw [hu r j hj, Rat.mul_comm]
     unfold one
     by_cases e : r = j
     ·rw [if_pos e, if_pos e.symm]
     ·rw [if_neg e, if_neg fun h => e h.symm]
    rw [e6, fs_one (by omega)] at e4
    rw [e4]
end Go.Proofs.YtnhdjbbdgegkgaaDoor
