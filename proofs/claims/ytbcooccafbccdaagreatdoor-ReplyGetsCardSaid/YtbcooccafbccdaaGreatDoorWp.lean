/- Games and strategies whose numbers are short. -/
import Derived.Test.YtbcooccafbccdaaGreatDoorWa
namespace Go.Proofs.YtbcooccafbccdaaGreatDoor
open Go Vm
theorem shortp_in (l : List ByteArray) (hl : l.length ≤ 140737488351232) : ∀ (m i : Nat), i ≤ l.length → l.length < m + i → (∀ x, x ∈ l.take i → x.size ≤ 12) →
  (∃ k : Nat, l_slices_IndexFunc_Rat__slices_ContainsFunc_Rat__gamehallkeep2_plain_1__slices_IndexFunc_TreeChoice__slices_ContainsFunc_TreeChoice__gamehallkeep2_plain_2 m l (l.length : Int) (i : Int) = some (.ret ((k : Int), ()))) ∨
  ((∀ x, x ∈ l → x.size ≤ 12) ∧ l_slices_IndexFunc_Rat__slices_ContainsFunc_Rat__gamehallkeep2_plain_1__slices_IndexFunc_TreeChoice__slices_ContainsFunc_TreeChoice__gamehallkeep2_plain_2 m l (l.length : Int) (i : Int) = some (.exit ()))
 | 0, i, h1, h2, _ => by omega
 | m + 1, i, h1, h2, h3 => by
  simp only [l_slices_IndexFunc_Rat__slices_ContainsFunc_Rat__gamehallkeep2_plain_1__slices_IndexFunc_TreeChoice__slices_ContainsFunc_TreeChoice__gamehallkeep2_plain_2]
  by_cases hi : i < l.length
  ·have e4 : IntKind.i64.wrap ((i : Int) + 1) = ((i + 1 : Nat) : Int) := by rw [w64 _ (by omega) (by omega)]; omega
   rw [if_pos (by simpa using hi), if_pos (by omega), if_pos (by omega), Int.toNat_natCast, e4]
   by_cases c : (l.getD i ByteArray.empty).size ≤ 12
   ·rw [if_neg (by rw [decide_eq_true_eq]; omega)]
    refine shortp_in l hl m (i + 1) (by omega) (by omega) fun x hx => ?_
    rw [List.take_succ_eq_append_getElem hi, List.mem_append, List.mem_singleton] at hx
    rcases hx with hx | rfl
    ·exact h3 x hx
    ·rw [← getD_eq l i ByteArray.empty hi]; exact c
   ·rw [if_pos (by rw [decide_eq_true_eq]; omega)]
    exact .inl ⟨i, rfl⟩
  ·rw [if_neg (by simpa using hi)]
   rw [List.take_of_length_le (by omega)] at h3
   exact .inr ⟨h3, rfl⟩
theorem shortp_out {s : List Ch} (hs : WS s) : ∀ (m i : Nat), i ≤ s.length → s.length + 140737488351300 < m + i → (∀ c, c ∈ s.take i → ∀ x, x ∈ c.2 → x.size ≤ 12) →
  (∃ (k : Nat) (d : _), l_slices_IndexFunc_TreeChoice__slices_ContainsFunc_TreeChoice__gamehallkeep2_plain_2 m s.length (s.length : Int) (i : Int) s = some (.ret ((k : Int), d))) ∨
  ((∀ c, c ∈ s → ∀ x, x ∈ c.2 → x.size ≤ 12) ∧ ∃ d, l_slices_IndexFunc_TreeChoice__slices_ContainsFunc_TreeChoice__gamehallkeep2_plain_2 m s.length (s.length : Int) (i : Int) s = some (.exit d))
 | 0, i, h1, h2, _ => by omega
 | m + 1, i, h1, h2, h3 => by
  have hl := hs.len
  simp only [l_slices_IndexFunc_TreeChoice__slices_ContainsFunc_TreeChoice__gamehallkeep2_plain_2]
  by_cases hi : i < s.length
  ·have e4 : IntKind.i64.wrap ((i : Int) + 1) = ((i + 1 : Nat) : Int) := by rw [w64 _ (by omega) (by omega)]; omega
   have hm : s.getD i c0 ∈ s := by rw [getD_eq s i _ hi]; exact List.getElem_mem hi
   have hol := hs.odds _ hm
   rw [if_pos (by simpa using hi), if_pos (by omega), if_pos (by omega), Int.toNat_natCast, e4]
   rcases shortp_in (s.getD i c0).2 hol m 0 (by omega) (by omega) (fun x hx => by simp at hx) with ⟨k, g⟩ | ⟨h, g⟩
   ·have g : l_slices_IndexFunc_Rat__slices_ContainsFunc_Rat__gamehallkeep2_plain_1__slices_IndexFunc_TreeChoice__slices_ContainsFunc_TreeChoice__gamehallkeep2_plain_2 m (s.getD i (0, [])).2 ((s.getD i (0, [])).2.length : Int) 0 = _ := g
    rw [g]
    simp only
    rw [if_pos (decide_eq_true (show (k : Int) ≥ 0 by omega))]
    exact .inl ⟨i, _, rfl⟩
   ·have g : l_slices_IndexFunc_Rat__slices_ContainsFunc_Rat__gamehallkeep2_plain_1__slices_IndexFunc_TreeChoice__slices_ContainsFunc_TreeChoice__gamehallkeep2_plain_2 m (s.getD i (0, [])).2 ((s.getD i (0, [])).2.length : Int) 0 = _ := g
    rw [g]
    refine shortp_out hs m (i + 1) (by omega) (by omega) fun c hc => ?_
    rw [List.take_succ_eq_append_getElem hi, List.mem_append, List.mem_singleton] at hc
    rcases hc with hc | rfl
    ·exact h3 c hc
    ·rw [getD_eq s i c0 hi] at h; exact h
  ·rw [if_neg (by simpa using hi)]
   rw [List.take_of_length_le (by omega)] at h3
   exact .inr ⟨h3, _, rfl⟩
theorem plain_fin {s : List Ch} (hs : WS s) : ∃ r, (match l_slices_IndexFunc_TreeChoice__slices_ContainsFunc_TreeChoice__gamehallkeep2_plain_2 fuel s.length (s.length : Int) 0 s with
      | none => none
      | some (.exit _) => some true
      | some (.ret d) => some (!(decide (d.1 ≥ 0)))) = some r ∧ (r = true → ∀ c, c ∈ s → ∀ x, x ∈ c.2 → x.size ≤ 12) := by
 have hf := fuel_ge (n := 2 ^ 100) (by decide)
 have hl := hs.len
 rcases shortp_out hs fuel 0 (by omega) (by omega) (fun c hc => by simp at hc) with ⟨k, d, g⟩ | ⟨h, d, g⟩
 ·have g : l_slices_IndexFunc_TreeChoice__slices_ContainsFunc_TreeChoice__gamehallkeep2_plain_2 fuel s.length (s.length : Int) 0 s = _ := g
  rw [g]
  refine ⟨_, rfl, fun h => ?_⟩
  have : decide ((k : Int) ≥ 0) = true := decide_eq_true (by omega)
  simp only [this] at h
  cases h
 ·have g : l_slices_IndexFunc_TreeChoice__slices_ContainsFunc_TreeChoice__gamehallkeep2_plain_2 fuel s.length (s.length : Int) 0 s = _ := g
  rw [g]
  exact ⟨true, rfl, fun _ => h⟩
theorem plain_1 {s : List Ch} (hs : WS s) : ∃ r, f_gamehallkeep2_plain fuel [s] = some r ∧ (r = true → ∀ c, c ∈ s → ∀ x, x ∈ c.2 → x.size ≤ 12) := by
 have hf := fuel_ge (n := 2 ^ 100) (by decide)
 have hl := hs.len
 obtain ⟨m, hm⟩ := fuel_split (n := 10) (by decide)
 have e3 : l_slices_Concat_TreeChoice__gamehallkeep2_plain_3 fuel 0 [s] (([s].length : Nat) : Int) 0 = some (.exit ((s.length : Int), ())) := by
  rw [hm]
  simp only [l_slices_Concat_TreeChoice__gamehallkeep2_plain_3, List.length_singleton]
  rw [if_pos (decide_eq_true (by omega)), if_pos (by omega), if_pos (by omega), show (0 : Int).toNat = 0 from rfl, List.getD_cons_zero, Int.zero_add, w64 (s.length : Int) (by omega) (by omega), if_neg (by rw [decide_eq_true_eq]; omega), show IntKind.i64.wrap (0 + 1) = 1 from by decide, if_neg (by rw [decide_eq_true_eq]; omega)]
 have e11 : ∀ b : List Ch, l_slices_Concat_TreeChoice__gamehallkeep2_plain_11 fuel 0 [s] (([s].length : Nat) : Int) 0 b = some (.exit (s.length, s, ())) := fun b => by
  rw [hm]
  simp only [l_slices_Concat_TreeChoice__gamehallkeep2_plain_11, List.length_singleton]
  rw [if_pos (decide_eq_true (by omega)), if_pos (by omega), if_pos (by omega), show (0 : Int).toNat = 0 from rfl, List.getD_cons_zero, List.take_zero, List.nil_append, List.length_nil, if_pos (by omega), show IntKind.i64.wrap (0 + 1) = 1 from by decide, if_neg (by rw [decide_eq_true_eq]; omega)]
 have fin := plain_fin hs
 unfold f_gamehallkeep2_plain
 rw [e3]
 simp only
 rw [if_neg (fun h => by have h : (s.length : Int) < 0 := of_decide_eq_true h; omega), Int.sub_zero, w64 (s.length : Int) (by omega) (by omega)]
 by_cases h0 : s.length = 0
 ·rw [if_neg (by rw [decide_eq_true_eq]; omega), e11]
  exact fin
 ·rw [if_pos (by rw [decide_eq_true_eq]; omega), if_pos (by omega), if_pos (by omega), if_pos (by omega), e11]
  exact fin
theorem ws_append {a b : List Ch} (ha : WS a) (hb : WS b) (hl : (a.length + b.length) * 32 ≤ 140737488351232) : WS (a ++ b) :=
 ⟨by rw [List.length_append]; omega, fun c hc => (List.mem_append.1 hc).elim (ha.odds c) (hb.odds c), fun c hc => (List.mem_append.1 hc).elim (ha.txt c) (hb.txt c)⟩
theorem plain_2 {a b : List Ch} (ha : WS a) (hb : WS b) (hl : (a.length + b.length) * 32 ≤ 140737488351232) : ∃ r, f_gamehallkeep2_plain fuel [a, b] = some r ∧ (r = true → (∀ c, c ∈ a → ∀ x, x ∈ c.2 → x.size ≤ 12) ∧ ∀ c, c ∈ b → ∀ x, x ∈ c.2 → x.size ≤ 12) := by
 have hf := fuel_ge (n := 2 ^ 100) (by decide)
 obtain ⟨m, hm⟩ := fuel_split (n := 10) (by decide)
 have hs := ws_append ha hb hl
 have e3 : l_slices_Concat_TreeChoice__gamehallkeep2_plain_3 fuel 0 [a, b] (([a, b].length : Nat) : Int) 0 = some (.exit (((a ++ b).length : Int), ())) := by
  rw [hm]
  simp only [l_slices_Concat_TreeChoice__gamehallkeep2_plain_3, List.length_cons, List.length_nil]
  rw [if_pos (decide_eq_true (by omega)), if_pos (by omega), if_pos (by omega), show (0 : Int).toNat = 0 from rfl, List.getD_cons_zero, Int.zero_add, w64 (a.length : Int) (by omega) (by omega), if_neg (by rw [decide_eq_true_eq]; omega), show IntKind.i64.wrap (0 + 1) = 1 from by decide,
    if_pos (decide_eq_true (by omega)), if_pos (by omega), if_pos (by omega), show (1 : Int).toNat = 1 from rfl, List.getD_cons_succ, List.getD_cons_zero, w64 ((a.length : Int) + (b.length : Int)) (by omega) (by omega), if_neg (by rw [decide_eq_true_eq]; omega), show IntKind.i64.wrap (1 + 1) = 2 from by decide,
    if_neg (by rw [decide_eq_true_eq]; omega), List.length_append]
  simp
 have e11 : ∀ z : List Ch, l_slices_Concat_TreeChoice__gamehallkeep2_plain_11 fuel 0 [a, b] (([a, b].length : Nat) : Int) 0 z = some (.exit ((a ++ b).length, a ++ b, ())) := fun z => by
  rw [hm]
  simp only [l_slices_Concat_TreeChoice__gamehallkeep2_plain_11, List.length_cons, List.length_nil]
  rw [if_pos (decide_eq_true (by omega)), if_pos (by omega), if_pos (by omega), show (0 : Int).toNat = 0 from rfl, List.getD_cons_zero, List.take_zero, List.nil_append, List.length_nil, if_pos (by omega), show IntKind.i64.wrap (0 + 1) = 1 from by decide,
    if_pos (decide_eq_true (by omega)), if_pos (by omega), if_pos (by omega), show (1 : Int).toNat = 1 from rfl, List.getD_cons_succ, List.getD_cons_zero, List.take_length, if_pos (by omega), show IntKind.i64.wrap (1 + 1) = 2 from by decide, if_neg (by rw [decide_eq_true_eq]; omega)]
 obtain ⟨r, hr, hr2⟩ := plain_fin hs
 refine ⟨r, ?_, fun h => ⟨fun c hc => hr2 h c (List.mem_append_left _ hc), fun c hc => hr2 h c (List.mem_append_right _ hc)⟩⟩
 have hsl := hs.len
 unfold f_gamehallkeep2_plain
 rw [e3]
 simp only
 rw [if_neg (fun h => by have h : ((a ++ b).length : Int) < 0 := of_decide_eq_true h; omega), Int.sub_zero, w64 ((a ++ b).length : Int) (by omega) (by omega)]
 by_cases h0 : (a ++ b).length = 0
 ·rw [if_neg (by rw [decide_eq_true_eq]; omega), e11]
  exact hr
 ·rw [if_pos (by rw [decide_eq_true_eq]; omega), if_pos (by omega), if_pos (by omega), if_pos (by omega), e11]
  exact hr
theorem mod_in (l : List ByteArray) (hl : l.length ≤ 140737488351232) : ∀ (m i : Nat), i ≤ l.length → l.length < m + i → (∀ x, x ∈ l.take i → x.size ≤ 12) →
  (∃ k : Nat, l_slices_IndexFunc_Rat__slices_ContainsFunc_Rat__gamehallkeep2_modest_1__slices_IndexFunc_TreeNode__slices_ContainsFunc_TreeNode__gamehallkeep2_modest_2 m l (l.length : Int) (i : Int) = some (.ret ((k : Int), ()))) ∨
  ((∀ x, x ∈ l → x.size ≤ 12) ∧ l_slices_IndexFunc_Rat__slices_ContainsFunc_Rat__gamehallkeep2_modest_1__slices_IndexFunc_TreeNode__slices_ContainsFunc_TreeNode__gamehallkeep2_modest_2 m l (l.length : Int) (i : Int) = some (.exit ()))
 | 0, i, h1, h2, _ => by omega
 | m + 1, i, h1, h2, h3 => by
  simp only [l_slices_IndexFunc_Rat__slices_ContainsFunc_Rat__gamehallkeep2_modest_1__slices_IndexFunc_TreeNode__slices_ContainsFunc_TreeNode__gamehallkeep2_modest_2]
  by_cases hi : i < l.length
  ·have e4 : IntKind.i64.wrap ((i : Int) + 1) = ((i + 1 : Nat) : Int) := by rw [w64 _ (by omega) (by omega)]; omega
   rw [if_pos (by simpa using hi), if_pos (by omega), if_pos (by omega), Int.toNat_natCast, e4]
   by_cases c : (l.getD i ByteArray.empty).size ≤ 12
   ·rw [if_neg (by rw [decide_eq_true_eq]; omega)]
    refine mod_in l hl m (i + 1) (by omega) (by omega) fun x hx => ?_
    rw [List.take_succ_eq_append_getElem hi, List.mem_append, List.mem_singleton] at hx
    rcases hx with hx | rfl
    ·exact h3 x hx
    ·rw [← getD_eq l i ByteArray.empty hi]; exact c
   ·rw [if_pos (by rw [decide_eq_true_eq]; omega)]
    exact .inl ⟨i, rfl⟩
  ·rw [if_neg (by simpa using hi)]
   rw [List.take_of_length_le (by omega)] at h3
   exact .inr ⟨h3, rfl⟩
theorem mod_out {t : List Nd} (ht : WT t) (hl : t.length ≤ 40) : ∀ (m i : Nat), i ≤ t.length → t.length + 140737488351300 < m + i → (∀ j, j < i → (nd t j).2.2.2.2.2.size ≤ 12 ∧ ∀ x, x ∈ od (nd t j) → x.size ≤ 12) →
  (∃ (k : Nat) (d : _), l_slices_IndexFunc_TreeNode__slices_ContainsFunc_TreeNode__gamehallkeep2_modest_2 m t (t.length : Int) (i : Int) = some (.ret ((k : Int), d))) ∨
  ((∀ j, j < t.length → (nd t j).2.2.2.2.2.size ≤ 12 ∧ ∀ x, x ∈ od (nd t j) → x.size ≤ 12) ∧ ∃ d, l_slices_IndexFunc_TreeNode__slices_ContainsFunc_TreeNode__gamehallkeep2_modest_2 m t (t.length : Int) (i : Int) = some (.exit d))
 | 0, i, h1, h2, _ => by omega
 | m + 1, i, h1, h2, h3 => by
  simp only [l_slices_IndexFunc_TreeNode__slices_ContainsFunc_TreeNode__gamehallkeep2_modest_2]
  by_cases hi : i < t.length
  ·have e4 : IntKind.i64.wrap ((i : Int) + 1) = ((i + 1 : Nat) : Int) := by rw [w64 _ (by omega) (by omega)]; omega
   have hol : (od (nd t i)).length ≤ 140737488351232 := ht.odds _ (nd_mem hi)
   rw [if_pos (by simpa using hi), if_pos (by omega), if_pos (by omega), Int.toNat_natCast, e4, show t.getD i (0, (0, (0, ([], ([], ByteArray.empty))))) = nd t i from rfl]
   by_cases c : (nd t i).2.2.2.2.2.size ≤ 12
   ·rw [if_pos (by rw [decide_eq_false_iff_not]; omega)]
    rcases mod_in (od (nd t i)) hol m 0 (by omega) (by omega) (fun x hx => by simp at hx) with ⟨k, g⟩ | ⟨h, g⟩
    ·have g : l_slices_IndexFunc_Rat__slices_ContainsFunc_Rat__gamehallkeep2_modest_1__slices_IndexFunc_TreeNode__slices_ContainsFunc_TreeNode__gamehallkeep2_modest_2 m (nd t i).2.2.2.2.1 ((nd t i).2.2.2.2.1.length : Int) 0 = _ := g
     rw [g]
     simp only
     rw [if_pos (decide_eq_true (show (k : Int) ≥ 0 by omega))]
     exact .inl ⟨i, _, rfl⟩
    ·have g : l_slices_IndexFunc_Rat__slices_ContainsFunc_Rat__gamehallkeep2_modest_1__slices_IndexFunc_TreeNode__slices_ContainsFunc_TreeNode__gamehallkeep2_modest_2 m (nd t i).2.2.2.2.1 ((nd t i).2.2.2.2.1.length : Int) 0 = _ := g
     rw [g]
     refine mod_out ht hl m (i + 1) (by omega) (by omega) fun j hj => ?_
     by_cases e : j = i
     ·rw [e]; exact ⟨c, h⟩
     ·exact h3 j (by omega)
   ·rw [if_neg (by rw [decide_eq_false_iff_not]; omega)]
    exact .inl ⟨i, _, rfl⟩
  ·rw [if_neg (by simpa using hi)]
   exact .inr ⟨fun j hj => h3 j (by omega), _, rfl⟩
theorem modest_ok {t : List Nd} (ht : WT t) : ∃ r, f_gamehallkeep2_modest fuel t = some r ∧ (r = true → Mod t) := by
 have hf := fuel_ge (n := 2 ^ 100) (by decide)
 unfold f_gamehallkeep2_modest
 by_cases h40 : t.length ≤ 40
 ·rw [if_pos (by rw [decide_eq_true_eq]; omega)]
  rcases mod_out ht h40 fuel 0 (by omega) (by omega) (fun j hj => by omega) with ⟨k, d, g⟩ | ⟨h, d, g⟩
  ·have g : l_slices_IndexFunc_TreeNode__slices_ContainsFunc_TreeNode__gamehallkeep2_modest_2 fuel t (t.length : Int) 0 = _ := g
   rw [g]
   refine ⟨_, rfl, fun h => ?_⟩
   have : decide ((k : Int) ≥ 0) = true := decide_eq_true (by omega)
   simp only [this] at h
   cases h
  ·have g : l_slices_IndexFunc_TreeNode__slices_ContainsFunc_TreeNode__gamehallkeep2_modest_2 fuel t (t.length : Int) 0 = _ := g
   rw [g]
   exact ⟨true, rfl, fun _ => ⟨h40, fun i hi => (h i hi).1, fun i hi => (h i hi).2⟩⟩
 ·rw [if_neg (by rw [decide_eq_true_eq]; omega)]
  exact ⟨false, rfl, fun h => by cases h⟩
end Go.Proofs.YtbcooccafbccdaaGreatDoor
