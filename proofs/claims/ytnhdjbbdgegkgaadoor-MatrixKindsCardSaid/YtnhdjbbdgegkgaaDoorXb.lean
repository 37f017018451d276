/- Matrices: turned, multiplied, told. -/
import Derived.Test.YtnhdjbbdgegkgaaDoorXa
namespace Go.Proofs.YtnhdjbbdgegkgaaDoor
open Go Vm
theorem getD_set_same {α : Type} (l : List (List α)) (k : Nat) (x : List α) (h : k < l.length) : (l.set k x).getD k [] = x := by
 rw [List.getD_eq_getElem?_getD, List.getElem?_set_self h]; rfl
theorem getD_set_other {α : Type} (l : List (List α)) {k j : Nat} (x : List α) (h : j ≠ k) : (l.set k x).getD j [] = l.getD j [] := by
 rw [List.getD_eq_getElem?_getD, List.getElem?_set_ne (fun e => h e.symm), ← List.getD_eq_getElem?_getD]
theorem QF.snoc {n : Nat} {f : Nat → Rat} {qs : List Qd} (h : QF n f qs) {q : Qd} (hq : QR (f n) q) : QF (n + 1) f (qs ++ [q]) := by
 refine ⟨by rw [List.length_append, h.1]; rfl, fun i hi => ?_⟩
 by_cases e : i = n
 ·rw [e, getD_last h.1.symm]; exact hq
 ·rw [getD_left (by rw [h.1]; omega)]; exact h.2 i (by omega)
def TI (C i c : Nat) (M : Nat → Nat → Rat) (b : List (List Qd)) : Prop := b.length = C ∧ ∀ k, k < C → QF (if k < c then i + 1 else i) (fun j => M j k) (b.getD k [])
theorem turned_in {C i : Nat} {M : Nat → Nat → Rat} {row : List Qd} (hC : C ≤ 100) (hi100 : i ≤ 100) (hr : QF C (M i) row) : ∀ (m c : Nat) (b : List (List Qd)), c ≤ C → C < m + c → TI C i c M b →
  ∃ b', l_matrix_turned_8 m row (C : Int) (c : Int) b = some (.exit (b', ())) ∧ TI C i C M b'
 | 0, c, b, h1, h2, _ => by omega
 | m + 1, c, b, h1, h2, hb => by
  have lr := hr.1
  have lb := hb.1
  simp only [l_matrix_turned_8]
  by_cases hc : c < C
  ·have e4 : IntKind.i64.wrap ((c : Int) + 1) = ((c + 1 : Nat) : Int) := by rw [w64 _ (by omega) (by omega)]; omega
   have hk := hb.2 c hc
   rw [if_neg (Nat.lt_irrefl c)] at hk
   have lk := hk.1
   rw [if_pos (by simpa using hc), if_pos (by omega), if_pos (by omega), if_pos (by omega), if_pos (by omega), Int.toNat_natCast, if_pos (by omega), if_pos (by omega), if_pos (by omega), if_pos trivial, e4]
   refine turned_in hC hi100 hr m (c + 1) _ (by omega) (by omega) ⟨by rw [List.length_set]; exact lb, fun k hkC => ?_⟩
   by_cases e : k = c
   ·subst e
    rw [if_pos (by omega), getD_set_same _ _ _ (by omega)]
    exact hk.snoc (hr.at hkC)
   ·rw [getD_set_other _ _ e]
    have := hb.2 k hkC
    by_cases h : k < c
    ·rw [if_pos h] at this; rw [if_pos (by omega)]; exact this
    ·rw [if_neg h] at this; rw [if_neg (by omega)]; exact this
  ·rw [if_neg (by simpa using hc)]
   have : c = C := by omega
   subst this
   exact ⟨b, rfl, hb⟩
theorem turned_out {R C : Nat} {M : Nat → Nat → Rat} {g : List (List Qd)} (hR : R ≤ 100) (hC : C ≤ 100) (hg : QG R C M g) : ∀ (m i : Nat) (b : List (List Qd)), i ≤ R → R + 200 < m + i → TI C i 0 M b →
  ∃ b', l_matrix_turned_5 m g (R : Int) (i : Int) b = some (.exit (b', ())) ∧ TI C R 0 M b'
 | 0, i, b, h1, h2, _ => by omega
 | m + 1, i, b, h1, h2, hb => by
  have lg := hg.1
  simp only [l_matrix_turned_5]
  by_cases hi : i < R
  ·have e4 : IntKind.i64.wrap ((i : Int) + 1) = ((i + 1 : Nat) : Int) := by rw [w64 _ (by omega) (by omega)]; omega
   have hr := hg.2 i hi
   have lr := hr.1
   obtain ⟨b', h3, h4⟩ := turned_in hC (by omega) hr m 0 b (by omega) (by omega) hb
   have h3 : l_matrix_turned_8 m (g.getD i []) ((g.getD i []).length : Int) 0 b = some (.exit (b', ())) := by rw [lr]; exact h3
   rw [if_pos (by simpa using hi), if_pos (by omega), if_pos (by omega), Int.toNat_natCast, h3]
   simp only
   rw [e4]
   refine turned_out hR hC hg m (i + 1) b' (by omega) (by omega) ⟨h4.1, fun k hk => ?_⟩
   have := h4.2 k hk
   rw [if_pos hk] at this
   rw [if_neg (by omega)]; exact this
  ·rw [if_neg (by simpa using hi)]
   have : i = R := by omega
   subst this
   exact ⟨b, rfl, hb⟩
theorem turned_ok {R C : Nat} {M : Nat → Nat → Rat} {g : List (List Qd)} (hR : R ≤ 100) (hC : C ≤ 100) (h0 : R = 0 → C = 0) (hg : QG R C M g) : ∃ b, f_matrix_turned fuel g = some b ∧ QG C R (fun k j => M j k) b := by
 have hf := fuel_ge (n := 2 ^ 100) (by decide)
 have lg := hg.1
 unfold f_matrix_turned
 by_cases c : R = 0
 ·rw [if_pos (by rw [beq_iff_eq]; omega)]
  exact ⟨[], rfl, by rw [h0 c]; rfl, fun k hk => by have := h0 c; omega⟩
 ·have l0 := (hg.2 0 (by omega)).1
  obtain ⟨b, h1, h2⟩ := turned_out hR hC hg fuel 0 (List.replicate C []) (by omega) (by omega) ⟨List.length_replicate, fun k hk => by
    rw [if_neg (by omega)]
    refine ⟨?_, fun j hj => by omega⟩
    rw [List.getD_eq_getElem?_getD, List.getElem?_replicate, if_pos hk]; rfl⟩
  have h1 : l_matrix_turned_5 fuel g (R : Int) 0 (List.replicate C []) = _ := h1
  rw [if_neg (by rw [beq_iff_eq]; omega), if_pos (by omega), if_pos (by omega), if_pos (by omega), if_pos (by omega), l0, Int.toNat_natCast, lg, h1]
  refine ⟨b, rfl, h2.1, fun k hk => ?_⟩
  have := h2.2 k hk
  rw [if_neg (by omega)] at this
  exact this
def pr (A B : Nat → Nat → Rat) (n : Nat) (i k : Nat) : Rat := fs (fun j => A i j * B j k) n
theorem mul_in {n K : Nat} (hn : n ≤ 40) (hK : K ≤ 100) {f : Nat → Rat} {B : Nat → Nat → Rat} {row : List Qd} {cols : List (List Qd)} (hr : QF n f row) (hc : QG K n (fun k j => B j k) cols) (hf : ∀ j, j < n → Dr 2000 (f j)) (hB : ∀ j, j < n → ∀ k, k < K → Dr 2000 (B j k)) :
  ∀ (m k : Nat) (out : List Qd), k ≤ K → K < m + k → QF k (fun k => fs (fun j => f j * B j k) n) out → ∃ out', l_matrix_Mul_16 m row cols (K : Int) (k : Int) out = some (.exit (out', ())) ∧ QF K (fun k => fs (fun j => f j * B j k) n) out'
 | 0, k, out, h1, h2, _ => by omega
 | m + 1, k, out, h1, h2, ho => by
  have lc := hc.1
  have lo := ho.1
  simp only [l_matrix_Mul_16]
  by_cases hk : k < K
  ·have e4 : IntKind.i64.wrap ((k : Int) + 1) = ((k + 1 : Nat) : Int) := by rw [w64 _ (by omega) (by omega)]; omega
   obtain ⟨q, h3, h4⟩ := product_ok hn hr (hc.2 k hk) hf fun j hj => hB j hj k hk
   rw [if_pos (by simpa using hk), if_pos (by omega), if_pos (by omega), Int.toNat_natCast, h3, Option.bind_some, if_pos (by omega), e4]
   exact mul_in hn hK hr hc hf hB m (k + 1) _ (by omega) (by omega) (ho.snoc h4)
  ·rw [if_neg (by simpa using hk)]
   have : k = K := by omega
   subst this
   exact ⟨out, rfl, ho⟩
theorem QG.snoc {R C : Nat} {M : Nat → Nat → Rat} {g : List (List Qd)} (h : QG R C M g) {r : List Qd} (hr : QF C (M R) r) : QG (R + 1) C M (g ++ [r]) := by
 refine ⟨by rw [List.length_append, h.1]; rfl, fun i hi => ?_⟩
 by_cases e : i = R
 ·rw [e, getD_last h.1.symm]; exact hr
 ·rw [getD_left (by rw [h.1]; omega)]; exact h.2 i (by omega)
theorem mul_out {R n K : Nat} (hR : R ≤ 100) (hn : n ≤ 40) (hK : K ≤ 100) {A B : Nat → Nat → Rat} {g cols : List (List Qd)} (hg : QG R n A g) (hc : QG K n (fun k j => B j k) cols) (hA : ∀ i, i < R → ∀ j, j < n → Dr 2000 (A i j)) (hB : ∀ j, j < n → ∀ k, k < K → Dr 2000 (B j k)) :
  ∀ (m i : Nat) (out : List (List Qd)), i ≤ R → R + 200 < m + i → QG i K (pr A B n) out → ∃ out', l_matrix_Mul_12 m cols (R : Int) (i : Int) out g = some (.exit (out', g, ())) ∧ QG R K (pr A B n) out'
 | 0, i, out, h1, h2, _ => by omega
 | m + 1, i, out, h1, h2, ho => by
  have lg := hg.1
  have lo := ho.1
  have lc := hc.1
  simp only [l_matrix_Mul_12]
  by_cases hi : i < R
  ·have e4 : IntKind.i64.wrap ((i : Int) + 1) = ((i + 1 : Nat) : Int) := by rw [w64 _ (by omega) (by omega)]; omega
   obtain ⟨r, h3, h4⟩ := mul_in hn hK (hg.2 i hi) hc (hA i hi) hB m 0 [] (by omega) (by omega) ⟨rfl, fun j hj => by omega⟩
   have h3 : l_matrix_Mul_16 m (g.getD i []) cols (cols.length : Int) 0 [] = some (.exit (r, ())) := by rw [lc]; exact h3
   rw [if_pos (by simpa using hi), if_pos (by omega), if_pos (by omega), Int.toNat_natCast, h3]
   simp only
   rw [if_pos (by omega), e4]
   exact mul_out hR hn hK hg hc hA hB m (i + 1) _ (by omega) (by omega) (ho.snoc h4)
  ·rw [if_neg (by simpa using hi)]
   have : i = R := by omega
   subst this
   exact ⟨out, rfl, ho⟩
theorem outAll_loop {R K : Nat} (hR : R ≤ 100) (hK : K ≤ 100) {M : Nat → Nat → Rat} {g : List (List Qd)} (hg : QG R K M g) (hd : ∀ i, i < R → ∀ k, k < K → Dr 170000 (M i k)) : ∀ (m i : Nat), i ≤ R → R < m + i → (∀ i', i' < i → ∀ k, k < K → OkR (M i' k)) →
  ((∃ i k, i < R ∧ k < K ∧ ¬ OkR (M i k)) ∧ ∃ (e : Int) (d : _), e ≠ 0 ∧ l_matrix_OutAll_3 m g (R : Int) (i : Int) (mt i K M) = some (.ret (e, d))) ∨
  ((∀ i, i < R → ∀ k, k < K → OkR (M i k)) ∧ l_matrix_OutAll_3 m g (R : Int) (i : Int) (mt i K M) = some (.exit (mt R K M, ())))
 | 0, i, h1, h2, _ => by omega
 | m + 1, i, h1, h2, h3 => by
  have lg := hg.1
  simp only [l_matrix_OutAll_3]
  by_cases hi : i < R
  ·have e4 : IntKind.i64.wrap ((i : Int) + 1) = ((i + 1 : Nat) : Int) := by rw [w64 _ (by omega) (by omega)]; omega
   have hl : ((List.range K).map (M i)).length = K := by rw [List.length_map, List.length_range]
   rw [if_pos (by simpa using hi), if_pos (by omega), if_pos (by omega), Int.toNat_natCast]
   rcases out_list (hg.2 i hi).list (K := 170000) (by omega) (by omega) (fun k hk => by rw [hl] at hk; rw [range_getD hk]; exact hd i hi k hk) with ⟨⟨k, hk, hn⟩, e, e0, g1⟩ | ⟨hok, g1⟩
   ·rw [hl] at hk
    rw [range_getD hk] at hn
    rw [g1, Option.bind_some, if_pos (by simpa using e0)]
    exact .inl ⟨⟨i, k, hi, hk, hn⟩, e, _, e0, rfl⟩
   ·rw [g1, Option.bind_some, if_neg (by simp), if_pos (by rw [mt_length]; omega), e4]
    have e : mt i K M ++ [((List.range K).map (M i)).map rt] = mt (i + 1) K M := by unfold mt; rw [List.range_succ, List.map_append]; rfl
    rw [e]
    refine outAll_loop hR hK hg hd m (i + 1) (by omega) (by omega) fun i' hi' k hk => ?_
    by_cases e : i' = i
    ·subst e
     have := hok k (by rw [hl]; exact hk)
     rw [range_getD hk] at this; exact this
    ·exact h3 i' (by omega) k hk
  ·rw [if_neg (by simpa using hi)]
   have : i = R := by omega
   subst this
   exact .inr ⟨h3, rfl⟩
theorem outAll_ok {R K : Nat} (hR : R ≤ 100) (hK : K ≤ 100) {M : Nat → Nat → Rat} {g : List (List Qd)} (hg : QG R K M g) (hd : ∀ i, i < R → ∀ k, k < K → Dr 170000 (M i k)) :
  ((∃ i k, i < R ∧ k < K ∧ ¬ OkR (M i k)) ∧ ∃ e : Int, e ≠ 0 ∧ f_matrix_OutAll fuel g = some ([], e)) ∨ ((∀ i, i < R → ∀ k, k < K → OkR (M i k)) ∧ f_matrix_OutAll fuel g = some (mt R K M, 0)) := by
 have hf := fuel_ge (n := 2 ^ 100) (by decide)
 unfold f_matrix_OutAll
 rw [hg.1]
 rcases outAll_loop hR hK hg hd fuel 0 (by omega) (by omega) (fun i' hi' => by omega) with ⟨h, e, d, e0, g1⟩ | ⟨h, g1⟩
 ·have g1 : l_matrix_OutAll_3 fuel g (R : Int) 0 [] = _ := g1
  rw [g1]; exact .inl ⟨h, e, e0, rfl⟩
 ·have g1 : l_matrix_OutAll_3 fuel g (R : Int) 0 [] = _ := g1
  rw [g1]; exact .inr ⟨h, rfl⟩
theorem pr_dr {A B : Nat → Nat → Rat} {R n K : Nat} (hn : n ≤ 40) (hA : ∀ i, i < R → ∀ j, j < n → Dr 2000 (A i j)) (hB : ∀ j, j < n → ∀ k, k < K → Dr 2000 (B j k)) : ∀ i, i < R → ∀ k, k < K → Dr 170000 (pr A B n i k) := fun i hi k hk => dr_mono (by
  have : (4000 + 1) * n ≤ 4001 * 40 := Nat.mul_le_mul_left _ hn
  omega) (dr_fs (k := 4000) fun j hj => dr_mono (by omega) (dr_mul (hA i hi j hj) (hB j hj k hk)))
theorem matmul_ok {a b : List (List ByteArray)} {R n K : Nat} {A B : Nat → Nat → Rat} (ha : Txt a R n A) (hb : Txt b n K B) (hR : R ≤ 40) (hn : n ≤ 40) (hK : K ≤ 40) (h0 : R = 0 → n = 0) (h1 : n = 0 → K = 0) :
  ((∃ i k, i < R ∧ k < K ∧ ¬ OkR (pr A B n i k)) ∧ ∃ e : Int, e ≠ 0 ∧ f_matrix_Mul fuel a b = some ([], e)) ∨ ((∀ i, i < R → ∀ k, k < K → OkR (pr A B n i k)) ∧ f_matrix_Mul fuel a b = some (mt R K (pr A B n), 0)) := by
 have hf := fuel_ge (n := 2 ^ 100) (by decide)
 have hA : ∀ i, i < R → ∀ j, j < n → Dr 2000 (A i j) := fun i hi j hj => okr_dr ((ha.2 i hi).2 j hj)
 have hB : ∀ j, j < n → ∀ k, k < K → Dr 2000 (B j k) := fun j hj k hk => okr_dr ((hb.2 j hj).2 k hk)
 obtain ⟨gb, b1, b2⟩ := in_all hb (by omega) (by omega)
 obtain ⟨cols, c1, c2⟩ := turned_ok (by omega) (by omega) h1 b2
 obtain ⟨ga, a1, a2⟩ := in_all ha (by omega) (by omega)
 obtain ⟨out, o1, o2⟩ := mul_out (by omega) hn (by omega) a2 c2 hA hB fuel 0 [] (by omega) (by omega) ⟨rfl, fun i hi => by omega⟩
 have o1 : l_matrix_Mul_12 fuel cols (R : Int) 0 [] ga = _ := o1
 unfold f_matrix_Mul
 rw [mcheck_of ha hR hn, Option.bind_some, if_neg (by decide), mcheck_of hb hn hK, Option.bind_some, if_neg (by decide), width_txt ha h0, Option.bind_some, if_neg (by rw [bne_iff_ne, hb.1]; simp), b1, Option.bind_some, c1, Option.bind_some, a1, Option.bind_some, a2.1, o1]
 simp only
 rcases outAll_ok (by omega) (by omega) o2 (pr_dr hn hA hB) with ⟨h, e, e0, g⟩ | ⟨h, g⟩
 ·rw [g]; exact .inl ⟨h, e, e0, rfl⟩
 ·rw [g]; exact .inr ⟨h, rfl⟩
end Go.Proofs.YtnhdjbbdgegkgaaDoor
