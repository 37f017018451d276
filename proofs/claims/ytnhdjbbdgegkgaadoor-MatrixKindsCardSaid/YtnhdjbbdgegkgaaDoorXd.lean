/- The plain laws of MatrixTurns and MatrixRing. -/
import Derived.Test.YtnhdjbbdgegkgaaDoorXc
namespace Go.Proofs.YtnhdjbbdgegkgaaDoor
open Go Vm
theorem matrixFact_true : f_gamehallkeep2_matrixFact fuel = some true := by kernel_rfl
theorem fine5 : f_gamehallkeep2_fine fuel [0, 0, 0, 0, 0] = some true := by kernel_rfl
theorem getD0_empty {a : List (List ByteArray)} (h : a.length = 0) : (a.getD 0 []).length = 0 := by rw [List.eq_nil_of_length_eq_zero h]; rfl
theorem apply_loop {R n : Nat} (hR : R ≤ 100) (hn : n ≤ 40) {M : Nat → Nat → Rat} {V : Nat → Rat} {g : List (List Qd)} {x : List Qd} (hg : QG R n M g) (hx : QF n V x) (hM : ∀ i, i < R → ∀ j, j < n → Dr 2000 (M i j)) (hV : ∀ j, j < n → Dr 2000 (V j)) :
  ∀ (m i : Nat) (out : List Qd), i ≤ R → R < m + i → QF i (fun i => fs (fun j => M i j * V j) n) out → ∃ out', l_matrix_Apply_12 m x (R : Int) (i : Int) out g = some (.exit (out', g, ())) ∧ QF R (fun i => fs (fun j => M i j * V j) n) out'
 | 0, i, out, h1, h2, _ => by omega
 | m + 1, i, out, h1, h2, ho => by
  have lg := hg.1
  have lo := ho.1
  simp only [l_matrix_Apply_12]
  by_cases hi : i < R
  ·have e4 : IntKind.i64.wrap ((i : Int) + 1) = ((i + 1 : Nat) : Int) := by rw [w64 _ (by omega) (by omega)]; omega
   obtain ⟨q, h3, h4⟩ := product_ok hn (hg.2 i hi) hx (hM i hi) hV
   rw [if_pos (by simpa using hi), if_pos (by omega), if_pos (by omega), Int.toNat_natCast, h3, Option.bind_some, if_pos (by omega), e4]
   exact apply_loop hR hn hg hx hM hV m (i + 1) _ (by omega) (by omega) (ho.snoc h4)
  ·rw [if_neg (by simpa using hi)]
   have : i = R := by omega
   subst this
   exact ⟨out, rfl, ho⟩
theorem apply_ok {a : List (List ByteArray)} {R n : Nat} {M : Nat → Nat → Rat} (ha : Txt a R n M) (hR : R ≤ 40) (hn : n ≤ 40) (h0 : 0 < R) {vs : List Rat} (hv : vs.length = n) (hvo : ∀ r, r ∈ vs → OkR r) :
  ((∃ i, i < R ∧ ¬ OkR (fs (fun j => M i j * vs.getD j 0) n)) ∧ ∃ e : Int, e ≠ 0 ∧ f_matrix_Apply fuel a (vs.map rt) = some ([], e)) ∨
  ((∀ i, i < R → OkR (fs (fun j => M i j * vs.getD j 0) n)) ∧ f_matrix_Apply fuel a (vs.map rt) = some (((List.range R).map fun i => fs (fun j => M i j * vs.getD j 0) n).map rt, 0)) := by
 have hf := fuel_ge (n := 2 ^ 100) (by decide)
 have hM : ∀ i, i < R → ∀ j, j < n → Dr 2000 (M i j) := fun i hi j hj => okr_dr ((ha.2 i hi).2 j hj)
 have hV : ∀ j, j < n → Dr 2000 (vs.getD j 0) := fun j hj => okr_dr (hvo _ (by rw [getD_eq vs j 0 (by omega)]; exact List.getElem_mem _))
 obtain ⟨qs, r1, r2⟩ := row_ok vs (by omega) hvo
 have r3 := QF.of r2
 rw [hv] at r3
 obtain ⟨g, g1, g2⟩ := in_all ha (by omega) (by omega)
 obtain ⟨out, o1, o2⟩ := apply_loop (by omega) hn g2 r3 hM hV fuel 0 [] (by omega) (by omega) ⟨rfl, fun i hi => by omega⟩
 have o1 : l_matrix_Apply_12 fuel qs (R : Int) 0 [] g = _ := o1
 have hcv : f_matrix_CheckVec fuel (vs.map rt) = some 0 := by
  unfold f_matrix_CheckVec
  rw [if_neg (by rw [decide_eq_true_eq, List.length_map]; omega), checkAll_ok _ (by omega) hvo, Option.bind_some]
 unfold f_matrix_Apply
 rw [mcheck_of ha hR hn, Option.bind_some, if_neg (by decide), hcv, Option.bind_some, if_neg (by decide), width_txt ha (by omega), Option.bind_some, if_neg (by rw [bne_iff_ne, List.length_map, hv]; simp), r1, Option.bind_some, g1, Option.bind_some, g2.1, o1]
 simp only
 have hl : ((List.range R).map fun i => fs (fun j => M i j * vs.getD j 0) n).length = R := by rw [List.length_map, List.length_range]
 rcases out_list o2.list (K := 170000) (by omega) (by omega) (fun i hi => by
     rw [hl] at hi
     rw [range_getD hi]
     exact pr_dr (B := fun j _ => vs.getD j 0) (K := 1) hn hM (fun j hj _ _ => hV j hj) i hi 0 (by decide)) with ⟨⟨i, hi, hn'⟩, e, e0, g3⟩ | ⟨hok, g3⟩
 ·rw [hl] at hi
  rw [range_getD hi] at hn'
  rw [g3]; exact .inl ⟨⟨i, hi, hn'⟩, e, e0, rfl⟩
 ·rw [g3]
  refine .inr ⟨fun i hi => ?_, rfl⟩
  have := hok i (by rw [hl]; exact hi)
  rw [range_getD hi] at this
  exact this
theorem apply_spec {a : List (List ByteArray)} (ha : WM a) (h0 : 0 < a.length) {v : List ByteArray} (hv : v.length ≤ 140737488351232) (hvs : ∀ s, s ∈ v → s.size ≤ 900000000000000) : (∃ e : Int, e ≠ 0 ∧ f_matrix_Apply fuel a v = some ([], e)) ∨
  ∃ M, ∃ vs : List Rat, v = vs.map rt ∧ (∀ r, r ∈ vs → OkR r) ∧ vs.length = (a.getD 0 []).length ∧ Txt a a.length (a.getD 0 []).length M ∧ (∀ i, i < a.length → OkR (fs (fun j => M i j * vs.getD j 0) (a.getD 0 []).length)) ∧
   f_matrix_Apply fuel a v = some (((List.range a.length).map fun i => fs (fun j => M i j * vs.getD j 0) (a.getD 0 []).length).map rt, 0) := by
 rcases mcheck_spec ha with ⟨e, e0, g⟩ | ⟨g, a40, aw, A, hA⟩
 ·refine .inl ⟨e, e0, ?_⟩
  unfold f_matrix_Apply
  rw [g, Option.bind_some, if_pos (by simpa using e0)]
 ·rcases checkVec_spec v (Nat.le_trans hv (by decide)) hvs with ⟨e, e0, g'⟩ | ⟨g', v40, vs, rfl, hvo⟩
  ·refine .inl ⟨e, e0, ?_⟩
   unfold f_matrix_Apply
   rw [g, Option.bind_some, if_neg (by decide), g', Option.bind_some, if_pos (by simpa using e0)]
  ·by_cases hw : vs.length = (a.getD 0 []).length
   ·rcases apply_ok hA a40 aw h0 hw hvo with ⟨_, e, e0, g2⟩ | ⟨h, g2⟩
    ·exact .inl ⟨e, e0, g2⟩
    ·exact .inr ⟨A, vs, rfl, hvo, hw, hA, h, g2⟩
   ·refine .inl ⟨3, by decide, ?_⟩
    unfold f_matrix_Apply
    rw [g, Option.bind_some, if_neg (by decide), g', Option.bind_some, if_neg (by decide), width_txt hA (by omega), Option.bind_some, if_pos (by rw [bne_iff_ne, List.length_map]; omega), if_pos (by rw [decide_eq_true_eq]; omega)]
end Go.Proofs.YtnhdjbbdgegkgaaDoor
