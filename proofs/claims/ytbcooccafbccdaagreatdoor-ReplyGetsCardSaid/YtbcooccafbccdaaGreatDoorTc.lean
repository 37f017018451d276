/- What perfect recall comes to. -/
import Derived.Test.YtbcooccafbccdaaGreatDoorTb
import Derived.Test.YtbcooccafbccdaaGreatDoorIx
namespace Go.Proofs.YtbcooccafbccdaaGreatDoor
open Go Vm
abbrev own (t : List Nd) (p : Int) (i : Nat) : Prop := (nd t i).1 = 2 ∧ (nd t i).2.1 = p
abbrev inf (t : List Nd) (i : Nat) : Int := (nd t i).2.2.1
theorem clone_steps (x : List (Int × Int)) (h : x.length ≤ 100000) : f_slices_Clone_steps x = some x := by
 unfold f_slices_Clone_steps f_slices_Clone_step
 rw [if_neg (by simp), if_pos (by simp only [Option.getD_some]; omega)]
 rfl
theorem len_set {α : Type} {b : List (List α)} {n B : Nat} (hb : ∀ y, (b.getD y []).length ≤ B) (k : Nat) {v : List α} (hv : v.length ≤ B) : ∀ y, ((b.set k v).getD y []).length ≤ B := by
 intro y
 by_cases h : k < b.length
 ·by_cases e : y = k
  ·rw [e, getD_set_eq' _ _ _ _ h]; exact hv
  ·rw [getD_set_ne' _ _ _ _ _ (fun x => e x.symm)]; exact hb y
 ·rw [List.set_eq_of_length_le (by omega)]; exact hb y
theorem paths_in (p : Int) (i n B : Nat) (hi : i < n) (hB : B ≤ 1000) (x : Nd) (hL : (nx x).length ≤ 6) (hk : ∀ k, k ∈ nx x → (i : Int) < k ∧ k < (n : Int)) : ∀ (m j : Nat) (b : List (List (Int × Int))), j ≤ (nx x).length → (nx x).length < m + j → b.length = n →
  (b.getD i []).length ≤ B → (∀ y, (b.getD y []).length ≤ B + 1) →
  ∃ b' d, b'.length = n ∧ (∀ y, (b'.getD y []).length ≤ B + 1) ∧ l_recall_paths_6 m p (i : Int) (nx x) ((nx x).length : Int) (j : Int) b x.1 x.2.1 x.2.2.1 x.2.2.2.1 x.2.2.2.2.1 x.2.2.2.2.2 = some (.exit (b', d))
 | 0, j, b, h1, h2, _, _, _ => by omega
 | m + 1, j, b, h1, h2, h3, h4, h5 => by
  simp only [l_recall_paths_6]
  by_cases hj : j < (nx x).length
  ·have e4 : IntKind.i64.wrap ((j : Int) + 1) = ((j + 1 : Nat) : Int) := by rw [w64 _ (by omega) (by omega)]; omega
   have hmem : (nx x).getD j 0 ∈ nx x := by rw [getD_eq _ j 0 hj]; exact List.getElem_mem hj
   obtain ⟨k0, k1⟩ := hk _ hmem
   obtain ⟨k, ek⟩ := Int.eq_ofNat_of_zero_le (show 0 ≤ (nx x).getD j 0 by omega)
   rw [if_pos (by simpa using hj), if_pos (by omega), if_pos (by omega), if_pos (by omega), if_pos (by omega), Int.toNat_natCast, Int.toNat_natCast, ek, if_pos (by omega), if_pos (by omega), e4, Int.toNat_natCast]
   have hki : k ≠ i := by omega
   have l1 : (b.set k (b.getD i [])).length = n := by rw [List.length_set]; exact h3
   have g1 : (b.set k (b.getD i [])).getD i [] = b.getD i [] := getD_set_ne' _ _ _ _ _ hki
   have s1 := len_set (n := n) h5 k (v := b.getD i []) (by omega)
   split
   ·split
    ·rw [if_pos (by omega), if_pos (by omega), g1, clone_steps _ (by omega), Option.bind_some, if_pos (by omega), if_pos (by omega), if_pos (by omega)]
     refine paths_in p i n B hi hB x hL hk m (j + 1) _ (by omega) (by omega) (by rw [List.length_set]; exact l1) ?_ ?_
     ·rw [getD_set_ne' _ _ _ _ _ hki, g1]; exact h4
     ·exact len_set (n := n) s1 k (by rw [List.length_append, List.length_singleton]; omega)
    ·exact paths_in p i n B hi hB x hL hk m (j + 1) _ (by omega) (by omega) l1 (by rw [g1]; exact h4) s1
   ·exact paths_in p i n B hi hB x hL hk m (j + 1) _ (by omega) (by omega) l1 (by rw [g1]; exact h4) s1
  ·rw [if_neg (by simpa using hj)]
   exact ⟨b, _, h3, h5, rfl⟩
theorem paths_out {t : List Nd} (hv : V t) (p : Int) : ∀ (m i : Nat) (b : List (List (Int × Int))), i ≤ t.length → t.length + 10 < m + i → b.length = t.length → (∀ y, (b.getD y []).length ≤ i) →
  ∃ b', b'.length = t.length ∧ (∀ y, (b'.getD y []).length ≤ t.length) ∧ l_recall_paths_3 m p t (t.length : Int) (i : Int) b = some (.exit (b', ()))
 | 0, i, b, h1, h2, _, _ => by omega
 | m + 1, i, b, h1, h2, h3, h4 => by
  have hn := hv.len
  simp only [l_recall_paths_3]
  by_cases hj : i < t.length
  ·have e4 : IntKind.i64.wrap ((i : Int) + 1) = ((i + 1 : Nat) : Int) := by rw [w64 _ (by omega) (by omega)]; omega
   have hg := hv.good i hj
   rw [if_pos (by simpa using hj), if_pos (by omega), if_pos (by omega), Int.toNat_natCast, e4]
   obtain ⟨b', d, g1, g2, g3⟩ := paths_in p i t.length i hj (by omega) (nd t i) (good_len hg) (good_kids hg) m 0 b (by omega) (by have := good_len hg; omega) h3 (h4 i) (fun y => by have := h4 y; omega)
   have g3 : l_recall_paths_6 m p (i : Int) (nd t i).2.2.2.1 ((nd t i).2.2.2.1.length : Int) 0 b (nd t i).1 (nd t i).2.1 (nd t i).2.2.1 (nd t i).2.2.2.1 (nd t i).2.2.2.2.1 (nd t i).2.2.2.2.2 = _ := g3
   rw [g3]
   exact paths_out hv p m (i + 1) b' (by omega) (by omega) g1 g2
  ·rw [if_neg (by simpa using hj)]
   exact ⟨b, h3, fun y => by have := h4 y; omega, rfl⟩
theorem paths_ok {t : List Nd} (hv : V t) (p : Int) : ∃ b, f_recall_paths fuel t p = some b ∧ b.length = t.length ∧ ∀ y, (b.getD y []).length ≤ t.length := by
 have hf := fuel_ge (n := 2 ^ 100) (by decide)
 have hn := hv.len
 unfold f_recall_paths
 rw [if_pos (by omega), if_pos (by omega), if_pos (by omega), Int.toNat_natCast]
 obtain ⟨b, h1, h2, h3⟩ := paths_out hv p fuel 0 (List.replicate t.length []) (by omega) (by omega) (by simp) (fun y => by
   rw [List.getD_eq_getElem?_getD, List.getElem?_replicate]; split <;> simp)
 have h3 : l_recall_paths_3 fuel p t (t.length : Int) 0 (List.replicate t.length []) = _ := h3
 rw [h3]
 exact ⟨b, rfl, h1, h2⟩
theorem steps_loop (a b : List (Int × Int)) (hl : a.length = b.length) (hs : a.length < 1000000) : ∀ (m i : Nat), i ≤ a.length → a.length < m + i →
  l_slices_Equal_step_4 m a b (a.length : Int) (i : Int) = if a.drop i = b.drop i then some (.exit ()) else some (.ret (false, ()))
 | 0, i, h1, h2 => by omega
 | m + 1, i, h1, h2 => by
  simp only [l_slices_Equal_step_4]
  by_cases hi : i < a.length
  ·have hib : i < b.length := by omega
   rw [if_pos (by simpa using hi), if_pos (by omega), if_pos (by omega), if_pos (by omega), if_pos (by omega), Int.toNat_natCast, getD_eq a i _ hi, getD_eq b i _ hib, List.drop_eq_getElem_cons hi, List.drop_eq_getElem_cons hib]
   by_cases e : a[i] = b[i]
   ·rw [if_neg (by simp [e]), w64 _ (by omega) (by omega), show ((i : Int) + 1) = ((i + 1 : Nat) : Int) by omega, steps_loop a b hl hs m (i + 1) (by omega) (by omega)]
    simp only [e, List.cons.injEq, true_and]
   ·rw [if_pos (by
      simp only [Bool.and_true, Bool.not_eq_true', Bool.and_eq_false_iff, beq_eq_false_iff_ne]
      by_cases e1 : a[i].1 = b[i].1
      · exact .inr fun e2 => e (Prod.ext e1 e2)
      · exact .inl e1), if_neg (fun h => e (List.cons.inj h).1)]
  ·rw [if_neg (by simpa using hi), List.drop_of_length_le (by omega), List.drop_of_length_le (by omega), if_pos rfl]
theorem steps_ok (a b : List (Int × Int)) (hs : a.length < 1000000) : f_slices_Equal_step fuel a b = some (decide (a = b)) := by
 unfold f_slices_Equal_step
 by_cases hl : a.length = b.length
 ·have h := steps_loop a b hl hs fuel 0 (by omega) (by have := fuel_ge (n := 1000000) (by decide); omega)
  have h : l_slices_Equal_step_4 fuel a b (a.length : Int) 0 = _ := h
  rw [List.drop_zero, List.drop_zero] at h
  rw [if_neg (by simp [hl]), h]
  by_cases e : a = b
  ·rw [if_pos e]; simp [e]
  ·rw [if_neg e]; simp [e]
 ·have e : a ≠ b := fun e => hl (by rw [e])
  rw [if_pos (by simp; omega)]
  simp [e]
def SameP (t : List Nd) (p : Int) (b : List (List (Int × Int))) (i k : Nat) : Prop := own t p i → own t p k → inf t i = inf t k → b.getD i [] = b.getD k []
theorem fine_in {t : List Nd} (p : Int) (b : List (List (Int × Int))) (hb : b.length = t.length) (hs : ∀ y, (b.getD y []).length ≤ 120) (i : Nat) (hi : i < t.length) (hn : t.length ≤ 120) : ∀ (m k : Nat), k ≤ i → i < m + k → (∀ j, j < k → SameP t p b i j) →
  ((¬ ∀ j, j < i → SameP t p b i j) ∧ ∃ d, l_recall_Fine_6 m p (i : Int) (t.take i) ((t.take i).length : Int) (k : Int) b (nd t i).1 (nd t i).2.1 (nd t i).2.2.1 (nd t i).2.2.2.1 (nd t i).2.2.2.2.1 (nd t i).2.2.2.2.2 = some (.ret (false, d))) ∨
  ((∀ j, j < i → SameP t p b i j) ∧ ∃ d, l_recall_Fine_6 m p (i : Int) (t.take i) ((t.take i).length : Int) (k : Int) b (nd t i).1 (nd t i).2.1 (nd t i).2.2.1 (nd t i).2.2.2.1 (nd t i).2.2.2.2.1 (nd t i).2.2.2.2.2 = some (.exit (b, d)))
 | 0, k, h1, h2, h3 => by omega
 | m + 1, k, h1, h2, h3 => by
  have hl : (t.take i).length = i := by rw [List.length_take]; omega
  simp only [l_recall_Fine_6]
  by_cases hj : k < i
  ·have e4 : IntKind.i64.wrap ((k : Int) + 1) = ((k + 1 : Nat) : Int) := by rw [w64 _ (by omega) (by omega)]; omega
   have step : SameP t p b i k → _ := fun ha => fine_in p b hb hs i hi hn m (k + 1) (by omega) (by omega) fun j hjk => by
    by_cases e : j = k
    ·rw [e]; exact ha
    ·exact h3 j (by omega)
   rw [if_pos (by rw [hl]; simpa using hj), if_pos (by omega), if_pos (by omega), Int.toNat_natCast, e4, show (t.take i).getD k (0, (0, (0, ([], ([], ByteArray.empty))))) = nd t k from nd_take hj]
   by_cases c1 : (nd t i).1 = 2
   ·rw [if_pos (beq_iff_eq.2 c1)]
    by_cases c2 : (nd t k).1 = 2
    ·rw [if_pos (beq_iff_eq.2 c2)]
     by_cases c3 : (nd t i).2.1 = p
     ·rw [if_pos (beq_iff_eq.2 c3)]
      by_cases c4 : (nd t k).2.1 = p
      ·rw [if_pos (beq_iff_eq.2 c4)]
       by_cases c5 : (nd t i).2.2.1 = (nd t k).2.2.1
       ·rw [if_pos (beq_iff_eq.2 c5), if_pos (by omega), if_pos (by omega), if_pos (by omega), if_pos (by omega), steps_ok _ _ (by have := hs i; rw [Int.toNat_natCast]; omega), Option.bind_some, Int.toNat_natCast]
        by_cases e : b.getD i [] = b.getD k []
        ·rw [if_neg (by rw [e]; simp)]
         exact step fun _ _ _ => e
        ·rw [if_pos (by rw [decide_eq_false e]; rfl)]
         exact .inl ⟨fun h => e (h k hj ⟨c1, c3⟩ ⟨c2, c4⟩ c5), _, rfl⟩
       ·rw [if_neg (fun h => c5 (beq_iff_eq.1 h))]
        exact step fun _ _ h => absurd h c5
      ·rw [if_neg (fun h => c4 (beq_iff_eq.1 h))]
       exact step fun _ h => absurd h.2 c4
     ·rw [if_neg (fun h => c3 (beq_iff_eq.1 h))]
      exact step fun h => absurd h.2 c3
    ·rw [if_neg (fun h => c2 (beq_iff_eq.1 h))]
     exact step fun _ h => absurd h.1 c2
   ·rw [if_neg (fun h => c1 (beq_iff_eq.1 h))]
    exact step fun h => absurd h.1 c1
  ·rw [if_neg (by rw [hl]; simpa using hj)]
   exact .inr ⟨fun j hjk => h3 j (by omega), _, rfl⟩
theorem fine_out {t : List Nd} (p : Int) (b : List (List (Int × Int))) (hb : b.length = t.length) (hs : ∀ y, (b.getD y []).length ≤ 120) (hn : t.length ≤ 120) : ∀ (m i : Nat), i ≤ t.length → t.length + 200 < m + i → (∀ a, a < i → ∀ j, j < a → SameP t p b a j) →
  ((¬ ∀ a, a < t.length → ∀ j, j < a → SameP t p b a j) ∧ ∃ d, l_recall_Fine_3 m t p t (t.length : Int) (i : Int) b = some (.ret (false, d))) ∨
  ((∀ a, a < t.length → ∀ j, j < a → SameP t p b a j) ∧ ∃ d, l_recall_Fine_3 m t p t (t.length : Int) (i : Int) b = some (.exit d))
 | 0, i, h1, h2, h3 => by omega
 | m + 1, i, h1, h2, h3 => by
  simp only [l_recall_Fine_3]
  by_cases hj : i < t.length
  ·have e4 : IntKind.i64.wrap ((i : Int) + 1) = ((i + 1 : Nat) : Int) := by rw [w64 _ (by omega) (by omega)]; omega
   rw [if_pos (by simpa using hj), if_pos (by omega), if_pos (by omega), if_pos (by omega), if_pos (by omega), Int.toNat_natCast, e4, List.drop_zero]
   rcases fine_in p b hb hs i hj hn m 0 (by omega) (by omega) (fun j hj => by omega) with ⟨g, d, e⟩ | ⟨g, d, e⟩
   ·have e : l_recall_Fine_6 m p (i : Int) (t.take i) ((t.take i).length : Int) 0 b (nd t i).1 (nd t i).2.1 (nd t i).2.2.1 (nd t i).2.2.2.1 (nd t i).2.2.2.2.1 (nd t i).2.2.2.2.2 = _ := e
    rw [e]
    exact .inl ⟨fun h => g (h i hj), _, rfl⟩
   ·have e : l_recall_Fine_6 m p (i : Int) (t.take i) ((t.take i).length : Int) 0 b (nd t i).1 (nd t i).2.1 (nd t i).2.2.1 (nd t i).2.2.2.1 (nd t i).2.2.2.2.1 (nd t i).2.2.2.2.2 = _ := e
    rw [e]
    refine fine_out p b hb hs hn m (i + 1) (by omega) (by omega) fun a ha j hja => ?_
    by_cases ea : a = i
    ·subst ea; exact g j hja
    ·exact h3 a (by omega) j hja
  ·rw [if_neg (by simpa using hj)]
   exact .inr ⟨fun a ha => h3 a (by omega), _, rfl⟩
theorem fine_ok {t : List Nd} (hv : V t) (p : Int) : ∃ (b : List (List (Int × Int))) (r : Bool), f_recall_paths fuel t p = some b ∧ f_recall_Fine fuel t p = some r ∧ (r = true ↔ ∀ a, a < t.length → ∀ j, j < a → SameP t p b a j) := by
 have hf := fuel_ge (n := 2 ^ 100) (by decide)
 have hn := hv.len
 obtain ⟨b, h1, h2, h3⟩ := paths_ok hv p
 unfold f_recall_Fine
 rw [h1, Option.bind_some]
 rcases fine_out p b h2 (fun y => by have := h3 y; omega) hn fuel 0 (by omega) (by omega) (fun a ha => by omega) with ⟨g, d, e⟩ | ⟨g, d, e⟩
 ·have e : l_recall_Fine_3 fuel t p t (t.length : Int) 0 b = _ := e
  rw [e]
  exact ⟨b, false, rfl, rfl, ⟨(fun h => by cases h), fun h => absurd h g⟩⟩
 ·have e : l_recall_Fine_3 fuel t p t (t.length : Int) 0 b = _ := e
  rw [e]
  exact ⟨b, true, rfl, rfl, ⟨fun _ => g, fun _ => rfl⟩⟩
end Go.Proofs.YtbcooccafbccdaaGreatDoor
