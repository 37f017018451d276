/- The plain law of MatrixKinds. -/
import Derived.Test.YtnhdjbbdgegkgaaDoorVj
import Derived.Test.YtnhdjbbdgegkgaaDoorXd
namespace Go.Proofs.YtnhdjbbdgegkgaaDoor
open Go Vm
theorem sm_dr5 {N : Nat} {a : List (List ByteArray)} {R C : Nat} {M : Nat → Nat → Rat} (h : Txt a R C M) (s : Sm N a) : ∀ i, i < R → ∀ j, j < C → Dr 12 (M i j) := by
 intro i hi j hj
 have h1 := (s.2 i (by rw [h.1]; exact hi)).2 (rt (M i j)) (by
   rw [(h.2 i hi).1]
   exact List.mem_map_of_mem (List.mem_map_of_mem (List.mem_range.2 hj)))
 rw [rt_size] at h1
 exact dr_mono h1 (dr_len _)
theorem aug_dr {R n s : Nat} {A : Nat → Nat → Rat} {b : Nat → Rat} (hA : ∀ i, i < R → ∀ j, j < n → Dr s (A i j)) (hb : ∀ i, i < R → Dr s (b i)) : ∀ i, i < R → ∀ j, j < n + 1 → Dr s (aug n A b i j) := fun i hi j hj => by
 unfold aug
 split
 ·exact hA i hi j (by omega)
 ·exact hb i hi
theorem solve_ok {a : List (List ByteArray)} {R n K : Nat} {M : Nat → Nat → Rat} (ha : Txt a R n M) (hR : R ≤ 40) (hn : n ≤ 40) (h0 : R = 0 → n = 0) {bs : List Rat} (hb : bs.length = R) (hbo : ∀ r, r ∈ bs → OkR r) (hK : K ≤ 4000000) (hgood : Good R (n + 1) K (aug n M fun i => bs.getD i 0)) :
  (∃ e : Int, (e = 8 ∨ e = 18) ∧ f_matrix_Solve fuel a (bs.map rt) = some ([], e) ∧ ((el R n 0 0 (aug n M fun i => bs.getD i 0)).1 = n → n < R)) ∨
  (∃ X : Nat → Rat, (el R n 0 0 (aug n M fun i => bs.getD i 0)).1 = n ∧ (∀ j, j < n → Dr K (X j)) ∧ (∀ i, i < R → fs (fun j => M i j * X j) n = bs.getD i 0) ∧
    ((∃ e : Int, e ≠ 0 ∧ (∃ j, j < n ∧ ¬ OkR (X j)) ∧ f_matrix_Solve fuel a (bs.map rt) = some ([], e)) ∨ (∀ j, j < n → OkR (X j)) ∧ f_matrix_Solve fuel a (bs.map rt) = some (((List.range n).map X).map rt, 0))) := by
 obtain ⟨qs, r1, r2⟩ := row_ok bs (by omega) hbo
 have r3 := QF.of r2
 rw [hb] at r3
 obtain ⟨g, g1, g2⟩ := in_all ha (by omega) (by omega)
 have hcv : f_matrix_CheckVec fuel (bs.map rt) = some 0 := by
  unfold f_matrix_CheckVec
  rw [if_neg (by rw [decide_eq_true_eq, List.length_map]; omega), checkAll_ok _ (by omega) hbo, Option.bind_some]
 unfold f_matrix_Solve
 rw [mcheck_of ha hR hn, Option.bind_some, if_neg (by decide), hcv, Option.bind_some, if_neg (by decide), if_neg (by rw [bne_iff_ne, List.length_map, ha.1]; omega), g1, Option.bind_some, r1, Option.bind_some, width_txt ha h0, Option.bind_some]
 rcases unique_ok hR hn hK g2 r3 hgood with ⟨k, hk, g3, hlt⟩ | ⟨x, X, g3, hx, hd, hel, hs⟩
 ·rw [g3, Option.bind_some]
  rcases hk with rfl | rfl
  ·exact .inl ⟨8, .inl rfl, rfl, hlt⟩
  ·exact .inl ⟨18, .inr rfl, rfl, hlt⟩
 ·rw [g3, Option.bind_some, if_neg (by decide : ¬ ((1 : Int) == 0) = true), if_neg (by decide : ¬ ((1 : Int) == 2) = true)]
  refine .inr ⟨X, hel, hd, hs, ?_⟩
  have hl : ((List.range n).map X).length = n := by rw [List.length_map, List.length_range]
  rcases out_list hx.list (K := K) (by omega) (by omega) (fun i hi => by
      rw [hl] at hi
      rw [range_getD hi]; exact hd i hi) with ⟨⟨i, hi, hn'⟩, e, e0, g4⟩ | ⟨hok, g4⟩
  ·rw [hl] at hi
   rw [range_getD hi] at hn'
   rw [g4]
   exact .inl ⟨e, e0, ⟨i, hi, hn'⟩, rfl⟩
  ·rw [g4]
   refine .inr ⟨fun j hj => ?_, rfl⟩
   have := hok j (by rw [hl]; exact hj)
   rwa [range_getD hj] at this
theorem det_ok {a : List (List ByteArray)} {n K : Nat} {M : Nat → Nat → Rat} (ha : Txt a n n M) (hn : n ≤ 40) (hK : K ≤ 4000000) (hgood : Good n n K M) :
  (f_matrix_Det fuel a = some (rt 0, 0) ∧ (el n n 0 0 M).1 < n) ∨ ∃ r, r ≠ 0 ∧ (el n n 0 0 M).1 = n ∧ (f_matrix_Det fuel a = some (rt r, 0) ∨ ∃ e : Int, e ≠ 0 ∧ f_matrix_Det fuel a = some (⟨#[]⟩, e)) := by
 have hf := fuel_ge (n := 2 ^ 100) (by decide)
 obtain ⟨g, g1, g2⟩ := det_in ha (by omega) (by omega) fuel 0 [] (by omega) (by omega) ⟨rfl, fun i hi => by omega⟩
 have g1 : l_matrix_In__matrix_Det_3 fuel a (n : Int) 0 [] = _ := g1
 have q1 : QR (det n one) (false, (zs (cn 1), zs (cn 1))) := by
  rw [det_one]
  exact ⟨by decide, by rfl, .inl (by rfl)⟩
 unfold f_matrix_Det
 rw [mcheck_of ha hn hn, Option.bind_some, if_neg (by decide), width_txt ha (fun h => h), Option.bind_some, ha.1, if_neg (by simp), g1]
 simp only
 rw [int_1, Option.bind_some, g2.1]
 rcases det_loop (by omega) hK hgood fuel n 0 one M g (false, (zs (cn 1), zs (cn 1))) (by omega) (by omega) (Bas.one ..) (Cls.one _ _ _) g2 q1 with ⟨d, h1, h2⟩ | ⟨q, r, h1, h2, h3, h4, h5⟩
 ·have h1 : l_matrix_Det_8 fuel (n : Int) 0 g false (zs (cn 1)) (zs (cn 1)) = _ := h1
  rw [h1, ← rt_zero]
  exact .inl ⟨rfl, h2⟩
 ·have h1 : l_matrix_Det_8 fuel (n : Int) 0 g false (zs (cn 1)) (zs (cn 1)) = _ := h1
  rw [h1]
  simp only
  have e1 : f_rat_Fits fuel (q.1, (q.2.1, q.2.2)) = _ := fits_ok h2 h4 (by omega)
  have e2 : f_rat_Q_Out fuel (q.1, (q.2.1, q.2.2)) = _ := out_ok h2 h4 (by omega)
  rw [e1, Option.bind_some]
  refine .inr ⟨r, h3, h5, ?_⟩
  by_cases c : OkR r
  ·rw [if_pos c, if_neg (by decide), e2, Option.bind_some]
   exact .inl rfl
  ·rw [if_neg c, if_pos (by decide)]
   exact .inr ⟨2, by decide, rfl⟩
theorem apply_nil : f_matrix_Apply fuel [] [] = some ([], 0) := by kernel_rfl
theorem kinds_true (a : List (List ByteArray)) (b : List ByteArray) (ha : WM a) (hbl : b.length ≤ 140737488351232) (hbs : ∀ s, s ∈ b → s.size ≤ 900000000000000) : f_gamehallkeep2_MatrixKinds fuel a b = some true := by
 unfold f_gamehallkeep2_MatrixKinds
 rw [matrixFact_true, Option.bind_some, if_neg (by decide)]
 obtain ⟨sm, hsm, hsmall⟩ := small_list (l := [a, [b]]) (by simp) (fun x hx => by
   rcases List.mem_cons.1 hx with rfl | hx
   · exact ha
   · rw [List.mem_singleton] at hx
     subst hx
     exact ⟨by simp, fun y hy => by rw [List.mem_singleton] at hy; subst hy; exact hbl, fun y hy s hs => by rw [List.mem_singleton] at hy; subst hy; exact hbs s hs⟩) 5
 have hsm : f_gamehallkeep2_small fuel 5 [a, [b]] = some sm := hsm
 rcases mcheck_spec ha with ⟨e, e0, g⟩ | ⟨g, a40, aw, A, hA⟩
 ·have h1 : f_matrix_Solve fuel a b = some ([], e) := by
   unfold f_matrix_Solve
   rw [g, Option.bind_some, if_pos (by simpa using e0)]
  have h2 : f_matrix_Det fuel a = some (⟨#[]⟩, e) := by
   unfold f_matrix_Det
   rw [g, Option.bind_some, if_pos (by simpa using e0)]
  rw [h1, Option.bind_some, hsm, Option.bind_some]
  cases sm with
  | false => rw [if_pos (by decide)]
  | true => rw [if_neg (by decide), if_neg (by simpa using e0), h2, Option.bind_some, if_neg (by simpa using e0)]
 have h0 : a.length = 0 → (a.getD 0 []).length = 0 := fun h => by rw [List.eq_nil_of_length_eq_zero h]; rfl
 generalize hR : a.length = R at *
 generalize hn : (a.getD 0 []).length = n at *
 have hM : ∀ i, i < R → ∀ j, j < n → Dr 2000 (A i j) := fun i hi j hj => okr_dr ((hA.2 i hi).2 j hj)
 have hbound : ∀ n', n' ≤ 41 → 2000 * n' * R + 2000 * R + 49 ≤ 4000000 := fun n' hn' => by
  have : 2000 * n' * R ≤ 2000 * 41 * 40 := Nat.mul_le_mul (Nat.mul_le_mul_left _ hn') a40
  omega
 have hdt : n ≠ R → f_matrix_Det fuel a = some (⟨#[]⟩, 3) := fun h => by
  unfold f_matrix_Det
  rw [g, Option.bind_some, if_neg (by decide), width_txt hA h0, Option.bind_some, if_pos (by rw [bne_iff_ne, hR]; omega)]
 have hdet : ∃ d e, f_matrix_Det fuel a = some (d, e) := by
  by_cases h : n = R
  ·subst h
   rcases det_ok hA a40 (Nat.le_refl 4000000) (good_of (s := 2000) a40 hM (hbound _ (by omega))) with ⟨g, _⟩ | ⟨r, _, _, g | ⟨e, _, g⟩⟩ <;> exact ⟨_, _, g⟩
  ·exact ⟨_, _, hdt h⟩
 obtain ⟨d, f, hdet⟩ := hdet
 rcases checkVec_spec b (by omega) hbs with ⟨e, e0, g'⟩ | ⟨g', v40, bs, rfl, hbo⟩
 ·have h1 : f_matrix_Solve fuel a b = some ([], e) := by
   unfold f_matrix_Solve
   rw [g, Option.bind_some, if_neg (by decide), g', Option.bind_some, if_pos (by simpa using e0)]
  rw [h1, Option.bind_some, hsm, Option.bind_some]
  cases sm with
  | false => rw [if_pos (by decide)]
  | true =>
   rw [if_neg (by decide), if_neg (by simpa using e0), hdet, Option.bind_some]
   split
   ·split
    ·rw [g', Option.bind_some, if_pos (by simpa using e0)]
    ·rfl
   ·rfl
 by_cases hlen' : ¬ bs.length = R
 ·have h1 : f_matrix_Solve fuel a (bs.map rt) = some ([], 3) := by
   unfold f_matrix_Solve
   rw [g, Option.bind_some, if_neg (by decide), g', Option.bind_some, if_neg (by decide), if_pos (by rw [bne_iff_ne, List.length_map, hR]; omega)]
  rw [h1, Option.bind_some, hsm, Option.bind_some]
  cases sm with
  | false => rw [if_pos (by decide)]
  | true =>
   rw [if_neg (by decide), if_neg (by decide), hdet, Option.bind_some, if_neg (show ¬ (((bs.map rt).length : Int) != (R : Int)) = false by rw [bne_eq_false_iff_eq, List.length_map]; omega)]
   split <;> rfl
 have hlen : bs.length = R := Decidable.not_not.1 hlen'
 have hbd : ∀ i, i < R → Dr 2000 (bs.getD i 0) := fun i hi => okr_dr (hbo _ (by rw [getD_eq bs i 0 (by omega)]; exact List.getElem_mem _))
 cases sm with
 | false =>
  rcases solve_ok hA a40 aw h0 hlen hbo (Nat.le_refl 4000000) (good_of (s := 2000) a40 (aug_dr hM hbd) (hbound _ (by omega))) with ⟨e, _, h1, _⟩ | ⟨X, _, _, _, ⟨e, _, _, h1⟩ | ⟨_, h1⟩⟩ <;>
  rw [h1, Option.bind_some, hsm, Option.bind_some, if_pos (by decide)]
 | true =>
  have hs := hsmall rfl
  have s1 := hs a (by simp)
  have s2 := hs [bs.map rt] (by simp)
  have hR5 : R ≤ 5 := by rw [← hR]; exact s1.1
  have hn5 : n ≤ 5 := by
   by_cases c : R = 0
   ·rw [h0 c]; omega
   ·rw [← hn]; exact (s1.2 0 (by omega)).1
  have dA := sm_dr5 hA s1
  have db : ∀ i, i < R → Dr 12 (bs.getD i 0) := fun i hi => by
   have h1 := (s2.2 0 (by simp)).2 (rt (bs.getD i 0)) (List.mem_map_of_mem (by rw [getD_eq bs i 0 (by omega)]; exact List.getElem_mem _))
   rw [rt_size] at h1
   exact dr_mono h1 (dr_len _)
  have hb2 : ∀ n', n' ≤ 6 → 12 * n' * R + 12 * R + 49 ≤ 500 := fun n' hn' => by
   have : 12 * n' * R ≤ 12 * 6 * 5 := Nat.mul_le_mul (Nat.mul_le_mul_left _ hn') hR5
   omega
  have hgA := good_of (K := 500) (s := 12) a40 (aug_dr (n := n) dA db) (hb2 _ (by omega))
  have hext : (el R n 0 0 (aug n A fun i => bs.getD i 0)).1 = (el R n 0 0 A).1 := el_ext (n := n) (fun r c hc => by unfold aug; rw [if_pos hc]) (by omega)
  have hel := el_le (R := R) (s := n) (k := 0) (a := 0) (T := aug n A fun i => bs.getD i 0) (by omega)
  have hsq : ∀ h : n = R, (f_matrix_Det fuel a = some (rt 0, 0) ∧ (el R n 0 0 A).1 < n) ∨ ∃ r, r ≠ 0 ∧ (el R n 0 0 A).1 = n ∧ (f_matrix_Det fuel a = some (rt r, 0) ∨ ∃ e : Int, e ≠ 0 ∧ f_matrix_Det fuel a = some (⟨#[]⟩, e)) := fun h => by
   subst h
   exact det_ok hA a40 (by omega) (good_of (K := 500) (s := 12) a40 dA (hb2 _ (by omega)))
  rcases solve_ok hA a40 aw h0 hlen hbo (by omega) hgA with ⟨e, he, h1, hlt⟩ | ⟨X, hX, hXd, hXs, ⟨e, _, ⟨j, hj, hnj⟩, _⟩ | ⟨_, h1⟩⟩
  ·rw [h1, Option.bind_some, hsm, Option.bind_some, if_neg (by decide), if_neg (by rcases he with rfl | rfl <;> decide)]
   by_cases h : n = R
   ·rcases hsq h with ⟨h2, h3⟩ | ⟨r, r0, h3, _⟩
    ·rw [h2, Option.bind_some, if_pos (by rfl), if_pos (show (((bs.map rt).length : Int) != (R : Int)) = false by rw [bne_eq_false_iff_eq, List.length_map]; omega), g', Option.bind_some, if_neg (by decide), if_pos (by rw [rt_zero]; simp)]
     rcases he with rfl | rfl
     ·rw [if_neg (by decide)]; rfl
     ·rw [if_pos (by decide), if_pos (by decide)]; rfl
    ·have := hlt (by omega); omega
   ·rw [hdt h, Option.bind_some, if_neg (by decide)]
  ·exact absurd (dr_okr (hXd j hj) (by decide) (by decide)) hnj
  ·have hap : f_matrix_Apply fuel a (((List.range n).map X).map rt) = some (bs.map rt, 0) := by
    by_cases c : R = 0
    ·have e1 : a = [] := List.eq_nil_of_length_eq_zero (by omega)
     have e2 : n = 0 := h0 c
     have e3 : bs = [] := List.eq_nil_of_length_eq_zero (by omega)
     rw [e1, e2, e3]
     exact apply_nil
    ·have hv : ((List.range n).map X).length = n := by rw [List.length_map, List.length_range]
     have hval : ∀ i, i < R → fs (fun j => A i j * ((List.range n).map X).getD j 0) n = bs.getD i 0 := fun i hi => by
      rw [← hXs i hi]
      exact fs_ext fun j hj => by rw [range_getD hj]
     have hl2 : ((List.range R).map fun i => fs (fun j => A i j * ((List.range n).map X).getD j 0) n) = bs := by
      refine List.ext_getElem (by rw [List.length_map, List.length_range, hlen]) fun i h1 h2 => ?_
      rw [← getD_eq _ i 0 h1, ← getD_eq _ i 0 h2, range_getD (by omega), hval i (by omega)]
     rcases apply_ok hA a40 aw (by omega) hv (fun r hr => by
         obtain ⟨j, hj, rfl⟩ := List.mem_map.1 hr
         exact dr_okr (hXd j (List.mem_range.1 hj)) (by decide) (by decide)) with ⟨⟨i, hi, hn'⟩, _⟩ | ⟨_, h2⟩
     ·rw [hval i hi] at hn'
      exact absurd (hbo _ (by rw [getD_eq bs i 0 (by omega)]; exact List.getElem_mem _)) hn'
     ·rw [h2, hl2]
   rw [h1, Option.bind_some, hsm, Option.bind_some, if_neg (by decide), if_pos (by rfl)]
   simp only
   rw [hap, Option.bind_some, if_pos (by rfl)]
   simp only
   rw [equal_refl _ (by rw [List.length_map]; omega), Option.bind_some, if_neg (by decide)]
   by_cases h : n = R
   ·rcases hsq h with ⟨_, h3⟩ | ⟨r, r0, _, h2 | ⟨e, e0, h2⟩⟩
    ·omega
    ·rw [h2, Option.bind_some, if_pos (by rfl), if_pos (show (((bs.map rt).length : Int) != (R : Int)) = false by rw [bne_eq_false_iff_eq, List.length_map]; omega), g', Option.bind_some, if_neg (by decide), if_neg (by rw [rt_zero, rt_eq, decide_eq_true_eq]; exact r0)]
     rfl
    ·rw [h2, Option.bind_some, if_neg (by simpa using e0)]
   ·rw [hdt h, Option.bind_some, if_neg (by decide)]
theorem matrixKinds_plain : ∀ x : List (List ByteArray) × List ByteArray, WfL [.slice (.slice .str), .slice .str] x → f_gamehallkeep2_MatrixKinds fuel x.1 x.2 = some true :=
 fun x h => kinds_true x.1 x.2 (wm_of h.1) (by
   have h1 : x.2.length * 16 ≤ 140737488351232 := h.2.1
   omega) (fun s hs => Nat.le_trans (h.2.2 s hs) (by decide))
end Go.Proofs.YtnhdjbbdgegkgaaDoor
