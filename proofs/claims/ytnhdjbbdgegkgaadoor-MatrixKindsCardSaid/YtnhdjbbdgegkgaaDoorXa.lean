/- Matrices multiplied, turned and compared. -/
import Derived.Test.YtnhdjbbdgegkgaaDoorMb
namespace Go.Proofs.YtnhdjbbdgegkgaaDoor
open Go Vm
def mt (R C : Nat) (M : Nat → Nat → Rat) : List (List ByteArray) := (List.range R).map fun i => ((List.range C).map (M i)).map rt
theorem mt_length (R C : Nat) (M : Nat → Nat → Rat) : (mt R C M).length = R := by unfold mt; rw [List.length_map, List.length_range]
theorem mt_row {R C : Nat} {M : Nat → Nat → Rat} {i : Nat} (h : i < R) : (mt R C M).getD i [] = ((List.range C).map (M i)).map rt := by
 unfold mt
 rw [List.getD_eq_getElem?_getD, List.getElem?_map, List.getElem?_range h]; rfl
theorem mt_row_length {R C : Nat} {M : Nat → Nat → Rat} {i : Nat} (h : i < R) : ((mt R C M).getD i []).length = C := by
 rw [mt_row h, List.length_map, List.length_map, List.length_range]
theorem mt_ext {R C : Nat} {M M' : Nat → Nat → Rat} (h : ∀ i, i < R → ∀ j, j < C → M i j = M' i j) : mt R C M = mt R C M' := by
 unfold mt
 refine List.map_congr_left fun i hi => ?_
 rw [List.map_congr_left fun j hj => h i (List.mem_range.1 hi) j (List.mem_range.1 hj)]
theorem txt_mt {R C : Nat} {M : Nat → Nat → Rat} (h : ∀ i, i < R → ∀ j, j < C → OkR (M i j)) : Txt (mt R C M) R C M := ⟨mt_length R C M, fun i hi => ⟨mt_row hi, h i hi⟩⟩
theorem Txt.eq {a : List (List ByteArray)} {R C : Nat} {M : Nat → Nat → Rat} (h : Txt a R C M) : a = mt R C M := by
 refine List.ext_getElem (by rw [mt_length]; exact h.1) fun i h1 h2 => ?_
 have hi : i < R := by rw [← h.1]; exact h1
 have e1 := (h.2 i hi).1
 have e2 := mt_row (C := C) (M := M) hi
 rw [getD_eq a i [] h1] at e1
 rw [getD_eq _ i [] h2] at e2
 rw [e1, e2]
theorem wm_txt {a : List (List ByteArray)} {R C : Nat} {M : Nat → Nat → Rat} (h : Txt a R C M) (hR : R ≤ 1000) (hC : C ≤ 1000) : WM a := by
 have key : ∀ x, x ∈ a → ∃ i, i < R ∧ x = ((List.range C).map (M i)).map rt := fun x hx => by
  obtain ⟨i, hi, rfl⟩ := List.getElem_of_mem hx
  have hi' : i < R := by rw [← h.1]; exact hi
  exact ⟨i, hi', by rw [← (h.2 i hi').1, getD_eq a i [] hi]⟩
 refine ⟨by rw [h.1]; omega, fun x hx => ?_, fun x hx s hs => ?_⟩
 ·obtain ⟨i, _, rfl⟩ := key x hx
  rw [List.length_map, List.length_map, List.length_range]; omega
 ·obtain ⟨i, hi, rfl⟩ := key x hx
  obtain ⟨r, hr, rfl⟩ := List.mem_map.1 hs
  obtain ⟨j, hj, rfl⟩ := List.mem_map.1 hr
  exact rt_small ((h.2 i hi).2 j (List.mem_range.1 hj))
theorem width_txt {a : List (List ByteArray)} {R C : Nat} {M : Nat → Nat → Rat} (h : Txt a R C M) (h0 : R = 0 → C = 0) : f_matrix_Width fuel a = some (C : Int) := by
 unfold f_matrix_Width
 have hl := h.1
 by_cases c : R = 0
 ·rw [if_pos (by rw [beq_iff_eq]; omega), h0 c]; rfl
 ·rw [if_neg (by rw [beq_iff_eq]; omega), if_pos (by omega), (h.2 0 (by omega)).1, List.length_map, List.length_map, List.length_range]
theorem mcheck_of {a : List (List ByteArray)} {R C : Nat} {M : Nat → Nat → Rat} (h : Txt a R C M) (hR : R ≤ 40) (hC : C ≤ 40) : f_matrix_Check fuel a = some 0 := by
 have key : ∀ (m i : Nat), i ≤ R → R < m + i → ∃ d, l_matrix_Check_4 m a a (R : Int) (i : Int) = some (.exit d) := by
  intro m
  induction m with
  | zero => intro i h1 h2; omega
  | succ m ih =>
   intro i h1 h2
   have hl := h.1
   simp only [l_matrix_Check_4]
   by_cases hi : i < R
   ·have e4 : IntKind.i64.wrap ((i : Int) + 1) = ((i + 1 : Nat) : Int) := by rw [w64 _ (by omega) (by omega)]; omega
    obtain ⟨r1, r2⟩ := h.2 i hi
    have l1 : (a.getD i []).length = C := by rw [r1, List.length_map, List.length_map, List.length_range]
    have l0 : (a.getD 0 []).length = C := by rw [(h.2 0 (by omega)).1, List.length_map, List.length_map, List.length_range]
    rw [if_pos (by simpa using hi), if_pos (by omega), if_pos (by omega), if_pos (by omega), Int.toNat_natCast, e4, if_neg (by rw [bne_iff_ne]; omega), r1]
    rcases checkVec_spec (((List.range C).map (M i)).map rt) (by rw [List.length_map, List.length_map, List.length_range]; omega) (fun s hs => by
      obtain ⟨r, hr, rfl⟩ := List.mem_map.1 hs
      obtain ⟨j, hj, rfl⟩ := List.mem_map.1 hr
      exact rt_small (r2 j (List.mem_range.1 hj))) with ⟨e, e0, g⟩ | ⟨g, _⟩
    ·exfalso
     unfold f_matrix_CheckVec at g
     rw [if_neg (by rw [decide_eq_true_eq, List.length_map, List.length_map, List.length_range]; omega)] at g
     rw [checkAll_ok _ (by rw [List.length_map, List.length_range]; omega) (fun r hr => by
       obtain ⟨j, hj, rfl⟩ := List.mem_map.1 hr
       exact r2 j (List.mem_range.1 hj))] at g
     cases g; exact e0 rfl
    ·rw [g, Option.bind_some, if_neg (by decide)]
     exact ih (i + 1) (by omega) (by omega)
   ·rw [if_neg (by simpa using hi)]; exact ⟨_, rfl⟩
 have hf := fuel_ge (n := 2 ^ 100) (by decide)
 obtain ⟨d, g⟩ := key fuel 0 (by omega) (by omega)
 have g : l_matrix_Check_4 fuel a a (R : Int) 0 = _ := g
 unfold f_matrix_Check
 rw [h.1, if_neg (by rw [decide_eq_true_eq]; omega), g]
theorem product_loop {n : Nat} (hn : n ≤ 40) {f g : Nat → Rat} {a b : List Qd} (ha : QF n f a) (hb : QF n g b) (hf : ∀ i, i < n → Dr 2000 (f i)) (hg : ∀ i, i < n → Dr 2000 (g i)) : ∀ (m i : Nat) (q : Qd), i ≤ n → n < m + i → QR (fs (fun i => f i * g i) i) q →
  ∃ q', l_matrix_product_3 m b a (n : Int) (i : Int) q.1 q.2.1 q.2.2 = some (.exit (q'.1, q'.2.1, q'.2.2, ())) ∧ QR (fs (fun i => f i * g i) n) q'
 | 0, i, q, h1, h2, _ => by omega
 | m + 1, i, q, h1, h2, hq => by
  have la := ha.1
  have lb := hb.1
  simp only [l_matrix_product_3]
  by_cases hi : i < n
  ·have e4 : IntKind.i64.wrap ((i : Int) + 1) = ((i + 1 : Nat) : Int) := by rw [w64 _ (by omega) (by omega)]; omega
   obtain ⟨y, hy, hqy⟩ := qmul_ok (ha.at hi) (hb.at hi) (hf i hi) (hg i hi) (by omega)
   have hfs : Dr 170000 (fs (fun i => f i * g i) i) := dr_mono (by
     have : (4000 + 1) * i ≤ 4001 * 40 := Nat.mul_le_mul_left _ (by omega)
     omega) (dr_fs (k := 4000) (n := i) fun j hj => dr_mono (by omega) (dr_mul (hf j (by omega)) (hg j (by omega))))
   obtain ⟨x, hx, hqx⟩ := qadd_ok hq hqy hfs (dr_mul (hf i hi) (hg i hi)) (by omega)
   have hx : f_rat_Q_Add fuel (q.1, (q.2.1, q.2.2)) y = some x := hx
   rw [if_pos (by simpa using hi), if_pos (by omega), if_pos (by omega), if_pos (by omega), if_pos (by omega), Int.toNat_natCast, hy, Option.bind_some, hx, Option.bind_some, e4]
   exact product_loop hn ha hb hf hg m (i + 1) x (by omega) (by omega) hqx
  ·rw [if_neg (by simpa using hi)]
   have : i = n := by omega
   subst this
   exact ⟨q, rfl, hq⟩
theorem product_ok {n : Nat} (hn : n ≤ 40) {f g : Nat → Rat} {a b : List Qd} (ha : QF n f a) (hb : QF n g b) (hf : ∀ i, i < n → Dr 2000 (f i)) (hg : ∀ i, i < n → Dr 2000 (g i)) : ∃ q, f_matrix_product fuel a b = some q ∧ QR (fs (fun i => f i * g i) n) q := by
 have hfu := fuel_ge (n := 2 ^ 100) (by decide)
 obtain ⟨q, h1, h2⟩ := product_loop hn ha hb hf hg fuel 0 (false, [], []) (by omega) (by omega) qr_zero
 have h1 : l_matrix_product_3 fuel b a (n : Int) 0 false [] [] = _ := h1
 unfold f_matrix_product
 rw [ha.1, h1]
 exact ⟨_, rfl, h2⟩
end Go.Proofs.YtnhdjbbdgegkgaaDoor
