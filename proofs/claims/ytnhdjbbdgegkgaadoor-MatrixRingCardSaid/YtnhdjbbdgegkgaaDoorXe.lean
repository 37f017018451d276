/- The plain law of MatrixRing. -/
import Derived.Test.YtnhdjbbdgegkgaaDoorXd
import Derived.Test.YtnhdjbbdgegkgaaDoorFi
namespace Go.Proofs.YtnhdjbbdgegkgaaDoor
open Go Vm
theorem fine2_true : f_gamehallkeep2_fine fuel [0, 0] = some true := by kernel_rfl
theorem sm_dr {a : List (List ByteArray)} {R C : Nat} {M : Nat → Nat → Rat} (h : Txt a R C M) (s : Sm 4 a) : ∀ i, i < R → ∀ j, j < C → Dr 12 (M i j) := by
 intro i hi j hj
 have h1 := (s.2 i (by rw [h.1]; exact hi)).2 (rt (M i j)) (by
   rw [(h.2 i hi).1]
   exact List.mem_map_of_mem (List.mem_map_of_mem (List.mem_range.2 hj)))
 rw [rt_size] at h1
 exact dr_mono h1 (dr_len _)
theorem pr_dr' {A B : Nat → Nat → Rat} {R n K k l e : Nat} (he : (k + l + 1) * 4 + 1 ≤ e) (hn : n ≤ 4) (hA : ∀ i, i < R → ∀ j, j < n → Dr k (A i j)) (hB : ∀ j, j < n → ∀ q, q < K → Dr l (B j q)) : ∀ i, i < R → ∀ q, q < K → Dr e (pr A B n i q) := fun i hi q hq => dr_mono (by
  have : (k + l + 1) * n ≤ (k + l + 1) * 4 := Nat.mul_le_mul_left _ hn
  omega) (dr_fs (k := k + l) fun j hj => dr_mul (hA i hi j hj) (hB j hj q hq))
theorem apply_twice {R n K : Nat} {A B : Nat → Nat → Rat} {a b : List (List ByteArray)} {vs : List Rat} (hA : Txt a R n A) (hB : Txt b n K B) (sa : Sm 4 a) (sb : Sm 4 b) (hR : 0 < R) (hn0 : 0 < n) (hR4 : R ≤ 4) (hn : n ≤ 4) (hK : K ≤ 4) (hv : vs.length = K) (hvo : ∀ r, r ∈ vs → OkR r) (hvd : ∀ j, j < K → Dr 12 (vs.getD j 0))
  (hok : ∀ i, i < R → ∀ k, k < K → OkR (pr A B n i k)) (hw : ∀ i, i < n → OkR (fs (fun j => B i j * vs.getD j 0) K)) :
  ∃ l : List ByteArray, l.length = R ∧ f_matrix_Apply fuel (mt R K (pr A B n)) (vs.map rt) = some (l, 0) ∧ f_matrix_Apply fuel a (((List.range n).map fun i => fs (fun j => B i j * vs.getD j 0) K).map rt) = some (l, 0) := by
 have dA := sm_dr hA sa
 have dB := sm_dr hB sb
 have d1 : ∀ i, i < R → ∀ k, k < K → Dr 101 (pr A B n i k) := pr_dr' (by omega) hn dA dB
 have d2 : ∀ i, i < R → ∀ q, q < 1 → Dr 457 (pr (pr A B n) (fun j _ => vs.getD j 0) K i q) := pr_dr' (by omega) hK d1 fun j hj _ _ => hvd j hj
 have o1 : ∀ i, i < R → OkR (fs (fun j => pr A B n i j * vs.getD j 0) K) := fun i hi => dr_okr (d2 i hi 0 (by decide)) (by decide) (by decide)
 have hl : ((List.range n).map fun i => fs (fun j => B i j * vs.getD j 0) K).length = n := by rw [List.length_map, List.length_range]
 have he : ∀ i, fs (fun j => A i j * ((List.range n).map fun i => fs (fun j => B i j * vs.getD j 0) K).getD j 0) n = fs (fun j => pr A B n i j * vs.getD j 0) K := fun i => by
  have h1 : fs (fun j => A i j * ((List.range n).map fun i => fs (fun j => B i j * vs.getD j 0) K).getD j 0) n = pr A (pr B (fun j _ => vs.getD j 0) K) n i 0 := fs_ext fun j hj => by
   rw [range_getD hj]; rfl
  rw [h1, ← pr_assoc]
  rfl
 rcases apply_ok (txt_mt hok) (by omega) (by omega) hR hv hvo with ⟨⟨i, hi, hn'⟩, _⟩ | ⟨_, g1⟩
 ·exact absurd (o1 i hi) hn'
 ·rcases apply_ok hA (by omega) (by omega) hR hl (fun r hr => by
      obtain ⟨i, hi, rfl⟩ := List.mem_map.1 hr
      exact hw i (List.mem_range.1 hi)) with ⟨⟨i, hi, hn'⟩, _⟩ | ⟨_, g2⟩
  ·rw [he] at hn'; exact absurd (o1 i hi) hn'
  ·refine ⟨_, ?_, g1, ?_⟩
   ·rw [List.length_map, List.length_map, List.length_range]
   ·rw [g2, List.map_congr_left fun i _ => he i]
theorem ring_true (a b c : List (List ByteArray)) (v : List ByteArray) (ha : WM a) (hb : WM b) (hc : WM c) (hv : v.length ≤ 140737488351232) (hvs : ∀ s, s ∈ v → s.size ≤ 900000000000000) : f_gamehallkeep2_MatrixRing fuel a b c v = some true := by
 have bad2 : ∀ e1 e2 : Int, e1 ≠ 0 ∨ e2 ≠ 0 → f_gamehallkeep2_fine fuel [e1, e2] = some false := fun e1 e2 h => by
  rw [fine_ok' _ (by simp)]
  refine congrArg some (decide_eq_false fun h' => ?_)
  have h1 := h' e1 (by simp)
  have h2 := h' e2 (by simp)
  rcases h with h | h <;> contradiction
 unfold f_gamehallkeep2_MatrixRing
 rw [matrixFact_true, Option.bind_some, if_neg (by decide)]
 obtain ⟨r, hr, hs⟩ := small_list (l := [a, b, c, [v]]) (by simp) (fun x hx => by
   simp only [List.mem_cons, List.not_mem_nil, or_false] at hx
   rcases hx with rfl | rfl | rfl | rfl
   · exact ha
   · exact hb
   · exact hc
   · refine ⟨by simp, fun y hy => ?_, fun y hy s hs => ?_⟩
     · rw [List.mem_singleton] at hy; subst hy; exact hv
     · rw [List.mem_singleton] at hy; subst hy; exact hvs s hs) 4
 have hr : f_gamehallkeep2_small fuel 4 [a, b, c, [v]] = some r := hr
 rw [hr, Option.bind_some]
 cases r with
 | false => rw [if_neg (by decide)]
 | true =>
  have hs := hs rfl
  have sa := hs a (by simp)
  have sb := hs b (by simp)
  have sc := hs c (by simp)
  have sv := hs [v] (by simp)
  rw [if_pos (by decide)]
  by_cases h2 : b.length = 0
  ·rw [if_neg (by simp [h2])]
  rw [if_pos (by rw [beq_eq_false_iff_ne]; omega), if_pos (by omega)]
  by_cases h4 : (b.getD 0 []).length = 0
  ·rw [if_pos (by rw [beq_iff_eq]; omega)]
  rw [if_neg (by rw [beq_iff_eq]; omega)]
  -- the second half: Apply
  have tail : ∀ r3 : List (List ByteArray) × Int, f_matrix_Mul fuel a b = some r3 →
    ((f_matrix_Apply fuel b v).bind fun r15 => (f_gamehallkeep2_fine fuel [r3.2, r15.2]).bind fun r16 => if (!r16) = true then some true else
      (f_matrix_Apply fuel r3.1 v).bind fun r17 => (f_matrix_Apply fuel a r15.1).bind fun r18 => (f_gamehallkeep2_fine fuel [r17.2, r18.2]).bind fun r19 => if r19 = true then (f_slices_Equal_Rat fuel r17.1 r18.1).bind fun r20 => some r20 else some false) = some true := by
   intro r3 hr3
   rcases apply_spec hb (by omega) hv hvs with ⟨e, e0, g⟩ | ⟨B', vs, rfl, hvo, hvl, hB', hw, g⟩
   ·rw [g, Option.bind_some, bad2 _ _ (.inr e0), Option.bind_some, if_pos (by decide)]
   ·rw [g, Option.bind_some]
    rcases mul_spec ha hb with ⟨e, e0, g1⟩ | ⟨A, B, hA, hB, hwid, a40, b40, bw, hok, g1⟩
    ·rw [hr3, Option.some.injEq] at g1
     subst g1
     rw [bad2 _ _ (.inl e0), Option.bind_some, if_pos (by decide)]
    ·rw [hr3, Option.some.injEq] at g1
     subst g1
     have hBB : ∀ i, i < b.length → ∀ j, j < (b.getD 0 []).length → B' i j = B i j := fun i hi j hj => by
      have e1 := (hB'.2 i hi).1
      rw [(hB.2 i hi).1] at e1
      have e2 := map_rt_inj e1
      have := congrArg (fun l : List Rat => l.getD j 0) e2
      simp only [range_getD hj] at this
      exact this.symm
     have ha0 : 0 < a.length := Nat.pos_of_ne_zero fun h => by have := getD0_empty h; omega
     have hb4 := (sb.2 0 (by omega)).1
     obtain ⟨l, l0, l1, l2⟩ := apply_twice hA hB sa sb ha0 (by omega) sa.1 sb.1 hb4 hvl hvo (fun j hj => by
         have h1 := (sv.2 0 (by simp)).2 (rt (vs.getD j 0)) (by
           show rt (vs.getD j 0) ∈ vs.map rt
           refine List.mem_map_of_mem ?_
           rw [getD_eq vs j 0 (by omega)]; exact List.getElem_mem _)
         rw [rt_size] at h1
         exact dr_mono h1 (dr_len _)) hok (fun i hi => by
         have := hw i hi
         rw [fs_ext fun j hj => by rw [hBB i hi j hj]] at this
         exact this)
     have e3 : ((List.range b.length).map fun i => fs (fun j => B' i j * vs.getD j 0) (b.getD 0 []).length) = (List.range b.length).map fun i => fs (fun j => B i j * vs.getD j 0) (b.getD 0 []).length :=
      List.map_congr_left fun i hi => fs_ext fun j hj => by rw [hBB i (List.mem_range.1 hi) j hj]
     simp only
     rw [fine2_true, Option.bind_some, if_neg (by decide), l1, Option.bind_some, e3, l2, Option.bind_some]
     simp only
     rw [fine2_true, Option.bind_some, if_pos rfl, equal_refl l (by have := sa.1; omega), Option.bind_some]
  rcases mul_spec ha hb with ⟨e, e0, g⟩ | ⟨A, B, hA, hB, hwid, a40, b40, bw, hok, g⟩
  ·obtain ⟨r4, hr4⟩ : ∃ r4, f_matrix_Mul fuel b c = some r4 := by
    rcases mul_spec hb hc with ⟨e, _, g⟩ | ⟨_, _, _, _, _, _, _, _, _, g⟩ <;> exact ⟨_, g⟩
   have := tail _ g
   rw [g, Option.bind_some, hr4, Option.bind_some, bad2 _ _ (.inl e0), Option.bind_some, if_neg (by decide)]
   exact this
  ·have htail := tail _ g
   have ha0 : 0 < a.length := Nat.pos_of_ne_zero fun h => by have := getD0_empty h; omega
   rw [g, Option.bind_some]
   rcases mul_spec hb hc with ⟨e, e0, g'⟩ | ⟨B', C, hB', hC, hwid', _, c40, cw, hok', g'⟩
   ·rw [g', Option.bind_some, bad2 _ _ (.inr e0), Option.bind_some, if_neg (by decide)]
    exact htail
   ·have hb4 := (sb.2 0 (by omega)).1
    rw [hwid'] at hB hok hb4 h4 bw
    rw [hwid'] at g htail
    have hBB : ∀ i, i < b.length → ∀ j, j < c.length → B' i j = B i j := fun i hi j hj => by
     have e1 := (hB'.2 i hi).1
     rw [(hB.2 i hi).1] at e1
     have e2 := map_rt_inj e1
     have := congrArg (fun l : List Rat => l.getD j 0) e2
     simp only [range_getD hj] at this
     exact this.symm
    have hpB : ∀ i, i < b.length → ∀ l, l < (c.getD 0 []).length → pr B' C c.length i l = pr B C c.length i l := fun i hi l _ => fs_ext fun j hj => by rw [hBB i hi j hj]
    rw [mt_ext hpB] at g'
    have hok' : ∀ i, i < b.length → ∀ l, l < (c.getD 0 []).length → OkR (pr B C c.length i l) := fun i hi l hl => by rw [← hpB i hi l hl]; exact hok' i hi l hl
    have hc0 : 0 < c.length := by omega
    have hc4 := (sc.2 0 hc0).1
    have dA := sm_dr hA sa
    have dB := sm_dr hB sb
    have dC := sm_dr hC sc
    have d1 : ∀ i, i < a.length → ∀ k, k < c.length → Dr 101 (pr A B b.length i k) := pr_dr' (by omega) sb.1 dA dB
    have d2 : ∀ i, i < a.length → ∀ l, l < (c.getD 0 []).length → Dr 457 (pr (pr A B b.length) C c.length i l) := pr_dr' (by omega) (by omega) d1 dC
    have hx : f_matrix_Mul fuel (mt a.length c.length (pr A B b.length)) c = some (mt a.length (c.getD 0 []).length (pr (pr A B b.length) C c.length), 0) := by
     rcases matmul_ok (txt_mt hok) hC a40 c40 cw (by omega) (by omega) with ⟨⟨i, l, hi, hl, hn⟩, _⟩ | ⟨_, g3⟩
     ·exact absurd (dr_okr (d2 i hi l hl) (by decide) (by decide)) hn
     ·exact g3
    have hy : f_matrix_Mul fuel a (mt b.length (c.getD 0 []).length (pr B C c.length)) = some (mt a.length (c.getD 0 []).length (pr (pr A B b.length) C c.length), 0) := by
     rcases matmul_ok hA (txt_mt hok') a40 b40 cw (by omega) (by omega) with ⟨⟨i, l, hi, hl, hn⟩, _⟩ | ⟨_, g3⟩
     ·rw [← pr_assoc] at hn
      exact absurd (dr_okr (d2 i hi l hl) (by decide) (by decide)) hn
     ·rw [g3, mt_ext fun i _ l _ => (pr_assoc A B C b.length c.length i l).symm]
    rw [g', Option.bind_some]
    simp only
    rw [fine2_true, Option.bind_some, if_pos rfl, hwid', hx, Option.bind_some, hy, Option.bind_some, if_pos (by simp), if_pos (by simp)]
    simp only
    rw [same_mt _ (by omega) (by omega), Option.bind_some, if_neg (by decide)]
    exact htail
theorem matrixRing_plain : ∀ x : List (List ByteArray) × (List (List ByteArray) × (List (List ByteArray) × List ByteArray)), WfL [.slice (.slice .str), .slice (.slice .str), .slice (.slice .str), .slice .str] x → f_gamehallkeep2_MatrixRing fuel x.1 x.2.1 x.2.2.1 x.2.2.2 = some true :=
 fun x h => ring_true x.1 x.2.1 x.2.2.1 x.2.2.2 (wm_of h.1) (wm_of h.2.1) (wm_of h.2.2.1) (by
   have h1 : x.2.2.2.length * 16 ≤ 140737488351232 := h.2.2.2.1
   omega) (fun s hs => Nat.le_trans (h.2.2.2.2 s hs) (by decide))
end Go.Proofs.YtnhdjbbdgegkgaaDoor
