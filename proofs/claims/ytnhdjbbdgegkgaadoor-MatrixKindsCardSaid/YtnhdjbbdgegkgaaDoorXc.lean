/- Matrices: transposed, applied, compared; small ones. -/
import Derived.Test.YtnhdjbbdgegkgaaDoorXb
namespace Go.Proofs.YtnhdjbbdgegkgaaDoor
open Go Vm
theorem bytes_same (x : ByteArray) : (!(x.toList == x.toList)) = false := by simp
theorem equal_refl (l : List ByteArray) (hl : l.length ≤ 1000) : f_slices_Equal_Rat fuel l l = some true := by
 have hf := fuel_ge (n := 2 ^ 100) (by decide)
 have key : ∀ (m i : Nat), i ≤ l.length → l.length < m + i → l_slices_Equal_Rat_4 m l l (l.length : Int) (i : Int) = some (.exit ()) := by
  intro m
  induction m with
  | zero => intro i h1 h2; omega
  | succ m ih =>
   intro i h1 h2
   simp only [l_slices_Equal_Rat_4]
   by_cases hi : i < l.length
   ·have e4 : IntKind.i64.wrap ((i : Int) + 1) = ((i + 1 : Nat) : Int) := by rw [w64 _ (by omega) (by omega)]; omega
    rw [if_pos (by simpa using hi), if_pos (by omega), if_pos (by omega), if_pos (by omega), if_pos (by omega), if_neg (by rw [bytes_same]; decide), e4]
    exact ih (i + 1) (by omega) (by omega)
   ·rw [if_neg (by simpa using hi)]
 have := key fuel 0 (by omega) (by omega)
 have : l_slices_Equal_Rat_4 fuel l l (l.length : Int) 0 = _ := this
 unfold f_slices_Equal_Rat
 rw [if_neg (by simp), this]
theorem same_refl (a : List (List ByteArray)) (hl : a.length ≤ 1000) (hr : ∀ i, i < a.length → (a.getD i []).length ≤ 1000) : f_matrix_Same fuel a a = some true := by
 have hf := fuel_ge (n := 2 ^ 100) (by decide)
 have key : ∀ (m i : Nat), i ≤ a.length → a.length < m + i → l_slices_EqualFunc_Vec__matrix_Same_4 m a a (a.length : Int) (i : Int) = some (.exit ()) := by
  intro m
  induction m with
  | zero => intro i h1 h2; omega
  | succ m ih =>
   intro i h1 h2
   simp only [l_slices_EqualFunc_Vec__matrix_Same_4]
   by_cases hi : i < a.length
   ·have e4 : IntKind.i64.wrap ((i : Int) + 1) = ((i + 1 : Nat) : Int) := by rw [w64 _ (by omega) (by omega)]; omega
    rw [if_pos (by simpa using hi), if_pos (by omega), if_pos (by omega), if_pos (by omega), if_pos (by omega), Int.toNat_natCast, equal_refl _ (hr i hi), Option.bind_some, if_neg (by decide), e4]
    exact ih (i + 1) (by omega) (by omega)
   ·rw [if_neg (by simpa using hi)]
 have := key fuel 0 (by omega) (by omega)
 have : l_slices_EqualFunc_Vec__matrix_Same_4 fuel a a (a.length : Int) 0 = _ := this
 unfold f_matrix_Same
 rw [if_neg (by simp), this]
theorem same_mt {R C : Nat} (M : Nat → Nat → Rat) (hR : R ≤ 100) (hC : C ≤ 100) : f_matrix_Same fuel (mt R C M) (mt R C M) = some true :=
 same_refl _ (by rw [mt_length]; omega) fun i hi => by rw [mt_length] at hi; rw [mt_row_length hi]; omega
theorem trans_in {a : List (List ByteArray)} {R C k : Nat} {M : Nat → Nat → Rat} (ha : Txt a R C M) (hR : R ≤ 100) (hk : k < C) : ∀ (m i : Nat), i ≤ R → R < m + i →
  l_matrix_Transpose_10 m (k : Int) a (R : Int) (i : Int) (((List.range i).map fun j => M j k).map rt) = some (.exit (((List.range R).map fun j => M j k).map rt, ()))
 | 0, i, h1, h2 => by omega
 | m + 1, i, h1, h2 => by
  have la := ha.1
  simp only [l_matrix_Transpose_10]
  by_cases hi : i < R
  ·have e4 : IntKind.i64.wrap ((i : Int) + 1) = ((i + 1 : Nat) : Int) := by rw [w64 _ (by omega) (by omega)]; omega
   obtain ⟨r1, r2⟩ := ha.2 i hi
   have l1 : (a.getD i []).length = C := by rw [r1, List.length_map, List.length_map, List.length_range]
   have e5 : (a.getD i []).getD k ByteArray.empty = rt (M i k) := by
    rw [r1, getD_eq _ k _ (by rw [List.length_map, List.length_map, List.length_range]; exact hk), List.getElem_map, List.getElem_map, List.getElem_range]
   rw [if_pos (by simpa using hi), if_pos (by omega), if_pos (by omega), if_pos (by omega), Int.toNat_natCast, if_pos (by omega), if_pos (by rw [List.length_map, List.length_map, List.length_range]; omega), e4, Int.toNat_natCast, e5]
   have := trans_in ha hR hk m (i + 1) (by omega) (by omega)
   rw [List.range_succ, List.map_append, List.map_append] at this
   exact this
  ·rw [if_neg (by simpa using hi)]
   have : i = R := by omega
   subst this
   rfl
theorem trans_out {a : List (List ByteArray)} {R C : Nat} {M : Nat → Nat → Rat} (ha : Txt a R C M) (hR : R ≤ 100) (hC : C ≤ 100) : ∀ (m k : Nat), k ≤ C → C + 200 < m + k →
  l_matrix_Transpose_6 m a (C : Int) (k : Int) (mt k R fun i j => M j i) = some (.exit (mt C R fun i j => M j i, ()))
 | 0, k, h1, h2 => by omega
 | m + 1, k, h1, h2 => by
  have la := ha.1
  simp only [l_matrix_Transpose_6]
  by_cases hk : k < C
  ·have e4 : IntKind.i64.wrap ((k : Int) + 1) = ((k + 1 : Nat) : Int) := by rw [w64 _ (by omega) (by omega)]; omega
   have g := trans_in ha hR hk m 0 (by omega) (by omega)
   have g : l_matrix_Transpose_10 m (k : Int) a (a.length : Int) 0 [] = some (.exit (((List.range R).map fun j => M j k).map rt, ())) := by rw [la]; exact g
   rw [if_pos (by simpa using hk), g]
   simp only
   rw [if_pos (by rw [mt_length]; omega), e4]
   have := trans_out ha hR hC m (k + 1) (by omega) (by omega)
   have e : mt (k + 1) R (fun i j => M j i) = mt k R (fun i j => M j i) ++ [((List.range R).map fun j => M j k).map rt] := by unfold mt; rw [List.range_succ, List.map_append]; rfl
   rw [e] at this
   exact this
  ·rw [if_neg (by simpa using hk)]
   have : k = C := by omega
   subst this
   rfl
theorem trans_ok {a : List (List ByteArray)} {R C : Nat} {M : Nat → Nat → Rat} (ha : Txt a R C M) (hR : R ≤ 40) (hC : C ≤ 40) (h0 : R = 0 → C = 0) : f_matrix_Transpose fuel a = some (mt C R fun i j => M j i, 0) := by
 have hf := fuel_ge (n := 2 ^ 100) (by decide)
 have g := trans_out ha (by omega) (by omega) fuel 0 (by omega) (by omega)
 have g : l_matrix_Transpose_6 fuel a (C : Int) 0 [] = _ := g
 unfold f_matrix_Transpose
 rw [mcheck_of ha hR hC, Option.bind_some, if_neg (by decide), width_txt ha h0, Option.bind_some, g]
theorem fs_mulr (f : Nat → Rat) (s : Rat) : ∀ n : Nat, fs (fun i => f i * s) n = fs f n * s
 | 0 => by simp only [fs]; grind
 | n + 1 => by rw [fs, fs, fs_mulr f s n]; grind
theorem fs_mull (f : Nat → Rat) (s : Rat) : ∀ n : Nat, fs (fun i => s * f i) n = s * fs f n
 | 0 => by simp only [fs]; grind
 | n + 1 => by rw [fs, fs, fs_mull f s n]; grind
theorem fs_const0 : ∀ n : Nat, fs (fun _ => 0) n = 0
 | 0 => rfl
 | n + 1 => by rw [fs, fs_const0 n]; grind
theorem fs_comm (f : Nat → Nat → Rat) (m : Nat) : ∀ n : Nat, fs (fun i => fs (f i) m) n = fs (fun j => fs (fun i => f i j) n) m
 | 0 => by simp only [fs]; rw [fs_const0]
 | n + 1 => by
  rw [fs, fs_comm f m n, ← fs_add]
  rfl
theorem pr_assoc (A B C : Nat → Nat → Rat) (n k i l : Nat) : pr (pr A B n) C k i l = pr A (pr B C k) n i l := by
 unfold pr
 have e1 : fs (fun q => fs (fun j => A i j * B j q) n * C q l) k = fs (fun q => fs (fun j => A i j * B j q * C q l) n) k := fs_ext fun q _ => (fs_mulr _ _ n).symm
 have e2 : fs (fun j => A i j * fs (fun q => B j q * C q l) k) n = fs (fun j => fs (fun q => A i j * B j q * C q l) k) n := fs_ext fun j _ => by
  rw [← fs_mull]
  exact fs_ext fun q _ => by grind
 rw [e1, e2]
 exact fs_comm (fun q j => A i j * B j q * C q l) n k
def Sm (n : Nat) (a : List (List ByteArray)) : Prop := a.length ≤ n ∧ ∀ k, k < a.length → (a.getD k []).length ≤ n ∧ ∀ x, x ∈ a.getD k [] → x.size ≤ 12
theorem small_loop {l : List (List (List ByteArray))} (hl : l.length ≤ 10) (hw : ∀ a, a ∈ l → WM a) (n : Nat) : ∀ (m i : Nat), i ≤ l.length → 2 ^ 60 < m + i → (∀ a, a ∈ l.take i → Sm n a) →
  ∃ r : Bool, (match l_gamehallkeep2_small_2 m l (l.length : Int) (i : Int) (n : Int) with
    | none => none
    | some (.exit _) => some true
    | some (.ret d) => some d.1) = some r ∧ (r = true → ∀ a, a ∈ l → Sm n a)
 | 0, i, h1, h2, _ => by omega
 | m + 1, i, h1, h2, h3 => by
  simp only [l_gamehallkeep2_small_2]
  by_cases hi : i < l.length
  ·have e4 : IntKind.i64.wrap ((i : Int) + 1) = ((i + 1 : Nat) : Int) := by rw [w64 _ (by omega) (by omega)]; omega
   have hmem : l.getD i [] ∈ l := by rw [getD_eq l i [] hi]; exact List.getElem_mem hi
   have ha := hw _ hmem
   have hla := ha.len
   rw [if_pos (by simpa using hi), if_pos (by omega), if_pos (by omega), Int.toNat_natCast, e4]
   by_cases c1 : (l.getD i []).length ≤ n
   ·rw [if_pos (by rw [decide_eq_false_iff_not]; omega)]
    rcases sm_out ha n m 0 (by omega) (by omega) (fun k hk => by omega) with ⟨k, d, g⟩ | ⟨h, g⟩
    ·have g : l_slices_IndexFunc_Vec__slices_ContainsFunc_Vec__gamehallkeep2_small_2 m (l.getD i []) ((l.getD i []).length : Int) 0 (n : Int) = _ := g
     rw [g]
     simp only
     rw [if_pos (decide_eq_true (show (k : Int) ≥ 0 by omega))]
     exact ⟨false, rfl, fun h => by cases h⟩
    ·have g : l_slices_IndexFunc_Vec__slices_ContainsFunc_Vec__gamehallkeep2_small_2 m (l.getD i []) ((l.getD i []).length : Int) 0 (n : Int) = _ := g
     rw [g]
     simp only
     refine small_loop hl hw n m (i + 1) (by omega) (by omega) fun a hm => ?_
     rw [List.take_succ_eq_append_getElem hi, List.mem_append, List.mem_singleton] at hm
     rcases hm with hm | rfl
     ·exact h3 a hm
     ·rw [← getD_eq l i [] hi]; exact ⟨c1, h⟩
   ·rw [if_neg (by rw [decide_eq_false_iff_not]; omega)]
    exact ⟨false, rfl, fun h => by cases h⟩
  ·rw [if_neg (by simpa using hi)]
   rw [List.take_of_length_le (by omega)] at h3
   exact ⟨true, rfl, fun _ => h3⟩
theorem small_list {l : List (List (List ByteArray))} (hl : l.length ≤ 10) (hw : ∀ a, a ∈ l → WM a) (n : Nat) : ∃ r : Bool, f_gamehallkeep2_small fuel (n : Int) l = some r ∧ (r = true → ∀ a, a ∈ l → Sm n a) := by
 have hf := fuel_ge (n := 2 ^ 100) (by decide)
 obtain ⟨r, h1, h2⟩ := small_loop hl hw n fuel 0 (by omega) (by omega) (fun a ha => by simp at ha)
 unfold f_gamehallkeep2_small
 exact ⟨r, h1, h2⟩
theorem mul_spec {a b : List (List ByteArray)} (ha : WM a) (hb : WM b) : (∃ e : Int, e ≠ 0 ∧ f_matrix_Mul fuel a b = some ([], e)) ∨
  ∃ A B, Txt a a.length b.length A ∧ Txt b b.length (b.getD 0 []).length B ∧ (a.getD 0 []).length = b.length ∧ a.length ≤ 40 ∧ b.length ≤ 40 ∧ (b.getD 0 []).length ≤ 40 ∧
   (∀ i, i < a.length → ∀ k, k < (b.getD 0 []).length → OkR (pr A B b.length i k)) ∧ f_matrix_Mul fuel a b = some (mt a.length (b.getD 0 []).length (pr A B b.length), 0) := by
 have e0 : ∀ a : List (List ByteArray), a.length = 0 → (a.getD 0 []).length = 0 := fun a h => by rw [List.eq_nil_of_length_eq_zero h]; rfl
 rcases mcheck_spec ha with ⟨e, e0, g⟩ | ⟨g, a40, aw, A, hA⟩
 ·refine .inl ⟨e, e0, ?_⟩
  unfold f_matrix_Mul
  rw [g, Option.bind_some, if_pos (by simpa using e0)]
 ·rcases mcheck_spec hb with ⟨e, e0, g'⟩ | ⟨g', b40, bw, B, hB⟩
  ·refine .inl ⟨e, e0, ?_⟩
   unfold f_matrix_Mul
   rw [g, Option.bind_some, if_neg (by decide), g', Option.bind_some, if_pos (by simpa using e0)]
  ·by_cases hw : (a.getD 0 []).length = b.length
   ·rw [hw] at hA
    rcases matmul_ok hA hB a40 b40 bw (fun h => by have := e0 a h; omega) (e0 b) with ⟨_, e, he, g2⟩ | ⟨h, g2⟩
    ·exact .inl ⟨e, he, g2⟩
    ·exact .inr ⟨A, B, hA, hB, hw, a40, b40, bw, h, g2⟩
   ·refine .inl ⟨3, by decide, ?_⟩
    unfold f_matrix_Mul
    rw [g, Option.bind_some, if_neg (by decide), g', Option.bind_some, if_neg (by decide), width_txt hA (e0 a), Option.bind_some, if_pos (by rw [bne_iff_ne]; omega)]
end Go.Proofs.YtnhdjbbdgegkgaaDoor
