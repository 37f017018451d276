/- What the check of a game as a tree finds: each node is good and has one parent. -/
import Derived.Test.YtbcooccafbccdaaGreatDoorTa
namespace Go.Proofs.YtbcooccafbccdaaGreatDoor
open Go Vm
theorem getD_set_add (c : List Nat) (k x : Nat) (hk : k < c.length) (v : Nat) : (c.set k v).getD x 0 = if x = k then v else c.getD x 0 := by
 by_cases h : x = k
 ·rw [h, getD_set_eq' _ _ _ _ hk, if_pos rfl]
 ·rw [getD_set_ne' _ _ _ _ _ (fun e => h e.symm), if_neg h]
theorem parents_loop (L : List Int) (n : Nat) (hL : L.length ≤ 6) (hk : ∀ k, k ∈ L → 0 ≤ k ∧ k < (n : Int)) : ∀ (m j : Nat) (c : List Nat), j ≤ L.length → L.length < m + j → c.length = n → (∀ x, c.getD x 0 + (L.length - j) ≤ 1000000) →
  ∃ c', c'.length = n ∧ (∀ x, c'.getD x 0 = c.getD x 0 + (L.drop j).count (x : Int)) ∧ l_tree_Check_13 m L (L.length : Int) (j : Int) (zs c) = some (.exit (zs c', ()))
 | 0, j, c, h1, h2, h3, h4 => by omega
 | m + 1, j, c, h1, h2, h3, h4 => by
  simp only [l_tree_Check_13]
  by_cases hj : j < L.length
  ·have e4 : IntKind.i64.wrap ((j : Int) + 1) = ((j + 1 : Nat) : Int) := by rw [w64 _ (by omega) (by omega)]; omega
   have hmem : L.getD j 0 ∈ L := by rw [getD_eq L j 0 hj]; exact List.getElem_mem hj
   obtain ⟨k0, k1⟩ := hk _ hmem
   obtain ⟨k, ek⟩ := Int.eq_ofNat_of_zero_le k0
   have hkn : k < c.length := by omega
   have h4k := h4 k
   rw [if_pos (by simpa using hj), if_pos (by omega), if_pos (by omega), Int.toNat_natCast, ek, if_pos (by omega), if_pos (by rw [length_zs]; omega), if_pos (by omega), if_pos (by rw [length_zs]; omega), Int.toNat_natCast, getD_zs, e4,
     w64 _ (by omega) (by omega), show ((c.getD k 0 : Nat) : Int) + 1 = ((c.getD k 0 + 1 : Nat) : Int) by omega, set_zs]
   obtain ⟨c', g1, g2, g3⟩ := parents_loop L n hL hk m (j + 1) (c.set k (c.getD k 0 + 1)) (by omega) (by omega) (by rw [List.length_set]; exact h3) (fun x => by
     have := h4 x
     rw [getD_set_add _ _ _ hkn]
     split <;> omega)
   refine ⟨c', g1, fun x => ?_, g3⟩
   rw [g2, getD_set_add _ _ _ hkn, List.drop_eq_getElem_cons hj, List.count_cons, ← getD_eq L j 0 hj, ek]
   by_cases hx : x = k
   ·subst hx; simp; omega
   ·rw [if_neg hx, if_neg (by simp; omega)]; omega
  ·rw [if_neg (by simpa using hj)]
   exact ⟨c, h3, fun x => by rw [List.drop_of_length_le (by omega)]; simp, rfl⟩
def inc (t : List Nd) (x : Nat) : Nat → Nat
 | 0 => 0
 | i + 1 => inc t x i + (nx (nd t i)).count (x : Int)
theorem good_len {t : List Nd} {i : Nat} (h : Good t i) : (nx (nd t i)).length ≤ 6 := by
 rcases h with ⟨_, h, _⟩ | ⟨_, h, _⟩ | ⟨_, h, _⟩
 ·rw [h]; decide
 ·exact h.2.1
 ·exact h.2.1
theorem good_kids {t : List Nd} {i : Nat} (h : Good t i) : ∀ k, k ∈ nx (nd t i) → (i : Int) < k ∧ k < t.length := by
 rcases h with ⟨_, h, _⟩ | ⟨_, h, _⟩ | ⟨_, h, _⟩
 ·rw [h]; intro k hk; cases hk
 ·exact h.2.2
 ·exact h.2.2
theorem nodes_loop {t : List Nd} (ht : WT t) (hn : t.length ≤ 120) : ∀ (m i : Nat) (c : List Nat), i ≤ t.length → t.length + 10 < m + i → c.length = t.length → (∀ j, j < i → Good t j) → (∀ x, c.getD x 0 = inc t x i) → (∀ x, inc t x i ≤ 6 * i) →
  (∃ (e : Int) (b : List Int), e ≠ 0 ∧ l_tree_Check_7 m t t (t.length : Int) (i : Int) (zs c) = some (.ret (e, b, ()))) ∨
  ((∀ j, j < t.length → Good t j) ∧ ∃ c', c'.length = t.length ∧ (∀ x, c'.getD x 0 = inc t x t.length) ∧ l_tree_Check_7 m t t (t.length : Int) (i : Int) (zs c) = some (.exit (zs c', ())))
 | 0, i, c, h1, h2, _, _, _, _ => by omega
 | m + 1, i, c, h1, h2, hc, hg, hi, hb => by
  simp only [l_tree_Check_7]
  by_cases hj : i < t.length
  ·have e4 : IntKind.i64.wrap ((i : Int) + 1) = ((i + 1 : Nat) : Int) := by rw [w64 _ (by omega) (by omega)]; omega
   obtain ⟨e, he, hgood⟩ := node_ok ht hj
   rw [if_pos (by simpa using hj), if_pos (by omega), if_pos (by omega), he, Option.bind_some, e4, Int.toNat_natCast]
   by_cases e0 : e = 0
   ·rw [if_neg (by simpa using e0)]
    have hgi := hgood e0
    have hlen := good_len hgi
    obtain ⟨c', g1, g2, g3⟩ := parents_loop (nx (nd t i)) t.length hlen (fun k hk => by have := good_kids hgi k hk; omega) m 0 c (by omega) (by omega) hc (fun x => by rw [hi x]; have := hb x; omega)
    have g3 : l_tree_Check_13 m (nx (nd t i)) ((nx (nd t i)).length : Int) 0 (zs c) = _ := g3
    rw [g3]
    have hi' : ∀ x, c'.getD x 0 = inc t x (i + 1) := fun x => by rw [g2, hi, List.drop_zero]; rfl
    refine nodes_loop ht hn m (i + 1) c' (by omega) (by omega) g1 (fun j hjj => ?_) hi' (fun x => ?_)
    ·by_cases e : j = i
     ·rw [e]; exact hgi
     ·exact hg j (by omega)
    ·have := hb x
     have h6 : (nx (nd t i)).count (x : Int) ≤ 6 := Nat.le_trans List.count_le_length hlen
     simp only [inc]; omega
   ·rw [if_pos (by simpa using e0)]
    exact .inl ⟨e, _, e0, rfl⟩
  ·rw [if_neg (by simpa using hj)]
   have : i = t.length := by omega
   subst this
   exact .inr ⟨hg, c, hc, hi, rfl⟩
theorem ones_loop (c : List Nat) (hn : c.length ≤ 120) : ∀ (m i : Nat), i ≤ c.length → c.length < m + i → (∀ j, 0 < j → j < i → c.getD j 0 = 1) →
  (∃ b, l_tree_Check_19 m (c.length : Int) (i : Int) (zs c) = some (.ret (3, b, ()))) ∨ ((∀ j, 0 < j → j < c.length → c.getD j 0 = 1) ∧ ∃ b, l_tree_Check_19 m (c.length : Int) (i : Int) (zs c) = some (.exit (b, ())))
 | 0, i, h1, h2, h3 => by omega
 | m + 1, i, h1, h2, h3 => by
  simp only [l_tree_Check_19, List.length_map]
  by_cases hj : i < c.length
  ·have e4 : IntKind.i64.wrap ((i : Int) + 1) = ((i + 1 : Nat) : Int) := by rw [w64 _ (by omega) (by omega)]; omega
   rw [if_pos (by simpa using hj), if_pos (by omega), if_pos (by omega), Int.toNat_natCast, getD_zs, e4]
   by_cases h0 : i = 0
   ·rw [if_neg (by simp [h0])]
    exact ones_loop c hn m (i + 1) (by omega) (by omega) fun j _ _ => by omega
   ·rw [if_pos (by simp; omega)]
    by_cases hv : c.getD i 0 = 1
    ·rw [if_neg (by rw [hv]; decide)]
     refine ones_loop c hn m (i + 1) (by omega) (by omega) fun j j0 j1 => ?_
     by_cases e : j = i
     ·rw [e]; exact hv
     ·exact h3 j j0 (by omega)
    ·rw [if_pos (by simp only [bne_iff_ne, ne_eq]; omega)]
     exact .inl ⟨_, rfl⟩
  ·rw [if_neg (by simpa using hj)]
   exact .inr ⟨fun j j0 j1 => h3 j j0 (by omega), _, rfl⟩
def Alike (x y : Nd) : Prop := x.1 = 2 → y.1 = 2 → x.2.1 = y.2.1 → x.2.2.1 = y.2.2.1 → (nx x).length = (nx y).length
theorem alike_loop (l : List Nd) (x : Nd) (hn : l.length ≤ 120) : ∀ (m j : Nat), j ≤ l.length → l.length < m + j → (∀ k, k < j → Alike x (nd l k)) →
  (∃ d, l_tree_Check_28 m l (l.length : Int) (j : Int) x.1 x.2.1 x.2.2.1 x.2.2.2.1 x.2.2.2.2.1 x.2.2.2.2.2 = some (.ret (3, d))) ∨
  ((∀ k, k < l.length → Alike x (nd l k)) ∧ ∃ d, l_tree_Check_28 m l (l.length : Int) (j : Int) x.1 x.2.1 x.2.2.1 x.2.2.2.1 x.2.2.2.2.1 x.2.2.2.2.2 = some (.exit d))
 | 0, j, h1, h2, h3 => by omega
 | m + 1, j, h1, h2, h3 => by
  simp only [l_tree_Check_28]
  by_cases hj : j < l.length
  ·have e4 : IntKind.i64.wrap ((j : Int) + 1) = ((j + 1 : Nat) : Int) := by rw [w64 _ (by omega) (by omega)]; omega
   rw [if_pos (by simpa using hj), if_pos (by omega), if_pos (by omega), Int.toNat_natCast, e4]
   have step : Alike x (nd l j) → _ := fun ha => alike_loop l x hn m (j + 1) (by omega) (by omega) fun k hk => by
    by_cases e : k = j
    ·rw [e]; exact ha
    ·exact h3 k (by omega)
   split
   ·split
    ·split
     ·split
      ·split
       ·exact .inl ⟨_, rfl⟩
       ·rename_i hb
        exact step fun _ _ _ _ => by simp only [bne_iff_ne, ne_eq, Decidable.not_not] at hb; exact Int.ofNat_inj.1 hb
      ·rename_i hb
       exact step fun _ _ _ h => absurd h (by simpa using hb)
     ·rename_i hb
      exact step fun _ _ h => absurd h (by simpa using hb)
    ·rename_i hb
     exact step fun _ h => absurd h (by simpa using hb)
   ·rename_i hb
    exact step fun h => absurd h (by simpa using hb)
  ·rw [if_neg (by simpa using hj)]
   exact .inr ⟨fun k hk => h3 k (by omega), _, rfl⟩
theorem nd_take {t : List Nd} {i k : Nat} (h : k < i) : nd (t.take i) k = nd t k := by
 unfold nd
 rw [List.getD_eq_getElem?_getD, List.getD_eq_getElem?_getD, List.getElem?_take_of_lt h]
theorem pairs_loop (t : List Nd) (hn : t.length ≤ 120) : ∀ (m i : Nat), i ≤ t.length → t.length + 200 < m + i → (∀ a, a < i → ∀ k, k < a → Alike (nd t a) (nd t k)) →
  l_tree_Check_25 m t t (t.length : Int) (i : Int) = some (.ret (3, ())) ∨ ((∀ a, a < t.length → ∀ k, k < a → Alike (nd t a) (nd t k)) ∧ l_tree_Check_25 m t t (t.length : Int) (i : Int) = some (.exit ()))
 | 0, i, h1, h2, h3 => by omega
 | m + 1, i, h1, h2, h3 => by
  simp only [l_tree_Check_25]
  by_cases hj : i < t.length
  ·have e4 : IntKind.i64.wrap ((i : Int) + 1) = ((i + 1 : Nat) : Int) := by rw [w64 _ (by omega) (by omega)]; omega
   rw [if_pos (by simpa using hj), if_pos (by omega), if_pos (by omega), if_pos (by omega), if_pos (by omega), Int.toNat_natCast, e4, List.drop_zero]
   have hl : (t.take i).length = i := by rw [List.length_take]; omega
   rcases alike_loop (t.take i) (nd t i) (by omega) m 0 (by omega) (by omega) (fun k hk => by omega) with ⟨d, g⟩ | ⟨ha, d, g⟩
   ·have g : l_tree_Check_28 m (t.take i) ((t.take i).length : Int) 0 (nd t i).1 (nd t i).2.1 (nd t i).2.2.1 (nd t i).2.2.2.1 (nd t i).2.2.2.2.1 (nd t i).2.2.2.2.2 = _ := g
    rw [g]; exact .inl rfl
   ·have g : l_tree_Check_28 m (t.take i) ((t.take i).length : Int) 0 (nd t i).1 (nd t i).2.1 (nd t i).2.2.1 (nd t i).2.2.2.1 (nd t i).2.2.2.2.1 (nd t i).2.2.2.2.2 = _ := g
    rw [g]
    refine pairs_loop t hn m (i + 1) (by omega) (by omega) fun a ha' k hk => ?_
    by_cases e : a = i
    ·subst e
     have := ha k (by omega)
     rw [nd_take hk] at this
     exact this
    ·exact h3 a (by omega) k hk
  ·rw [if_neg (by simpa using hj)]
   exact .inr ⟨fun a ha => h3 a (by omega), rfl⟩
structure V (t : List Nd) : Prop where
 pos : 0 < t.length
 len : t.length ≤ 120
 good : ∀ i, i < t.length → Good t i
 one : ∀ x, 0 < x → x < t.length → inc t x t.length = 1
 alike : ∀ a, a < t.length → ∀ k, k < a → Alike (nd t a) (nd t k)
theorem check_tree {t : List Nd} (ht : WT t) : ∃ e : Int, f_tree_Check fuel t = some e ∧ (e = 0 → V t) := by
 have hf := fuel_ge (n := 2 ^ 100) (by decide)
 unfold f_tree_Check
 by_cases h120 : t.length ≤ 120
 ·rw [if_neg (by simp only [decide_eq_true_eq]; omega)]
  by_cases h0 : t.length = 0
  ·rw [if_pos (by simp [h0])]
   exact ⟨8, rfl, fun h => absurd h (by decide)⟩
  ·rw [if_neg (by simp only [beq_iff_eq]; omega), if_pos (by omega), if_pos (by omega), if_pos (by omega), Int.toNat_natCast]
   have hz : List.replicate t.length (0 : Int) = zs (List.replicate t.length 0) := by simp [List.map_replicate]
   rw [hz]
   rcases nodes_loop ht h120 fuel 0 (List.replicate t.length 0) (by omega) (by omega) (by simp) (fun j hj => by omega) (fun x => by
       simp only [inc, List.getD_eq_getElem?_getD, List.getElem?_replicate]; split <;> rfl) (fun x => by simp [inc]) with ⟨e, b, e0, g⟩ | ⟨hg, c, c1, c2, g⟩
   ·have g : l_tree_Check_7 fuel t t (t.length : Int) 0 (zs (List.replicate t.length 0)) = _ := g
    rw [g]; exact ⟨e, rfl, fun h => absurd h e0⟩
   ·have g : l_tree_Check_7 fuel t t (t.length : Int) 0 (zs (List.replicate t.length 0)) = _ := g
    rw [g]
    simp only
    rcases ones_loop c (by omega) fuel 0 (by omega) (by omega) (fun j _ hj => by omega) with ⟨b, g2⟩ | ⟨ho, b, g2⟩
    ·have g2 : l_tree_Check_19 fuel (c.length : Int) 0 (zs c) = _ := g2
     rw [length_zs, g2]; exact ⟨3, rfl, fun h => absurd h (by decide)⟩
    ·have g2 : l_tree_Check_19 fuel (c.length : Int) 0 (zs c) = _ := g2
     rw [length_zs, g2]
     simp only
     rcases pairs_loop t h120 fuel 0 (by omega) (by omega) (fun a ha => by omega) with g3 | ⟨hp, g3⟩
     ·have g3 : l_tree_Check_25 fuel t t (t.length : Int) 0 = _ := g3
      rw [g3]; exact ⟨3, rfl, fun h => absurd h (by decide)⟩
     ·have g3 : l_tree_Check_25 fuel t t (t.length : Int) 0 = _ := g3
      rw [g3]
      exact ⟨0, rfl, fun _ => ⟨by omega, h120, hg, fun x x0 x1 => by rw [← c2]; exact ho x x0 (by omega), hp⟩⟩
 ·rw [if_pos (by simp only [decide_eq_true_eq]; omega)]
  exact ⟨2, rfl, fun h => absurd h (by decide)⟩
theorem player_ok {t : List Nd} (ht : WT t) (p : Int) : ∃ e : Int, f_tree_Player fuel t p = some e ∧ (e = 0 → V t ∧ (p = 0 ∨ p = 1)) := by
 obtain ⟨e, he, hv⟩ := check_tree ht
 unfold f_tree_Player
 rw [he, Option.bind_some]
 by_cases e0 : e = 0
 ·rw [if_neg (by simpa using e0)]
  split
  ·split
   ·exact ⟨4, rfl, fun h => absurd h (by decide)⟩
   ·rename_i h
    exact ⟨0, rfl, fun _ => ⟨hv e0, .inr (by simpa using h)⟩⟩
  ·rename_i h
   exact ⟨0, rfl, fun _ => ⟨hv e0, .inl (by simpa using h)⟩⟩
 ·rw [if_pos (by simpa using e0)]
  exact ⟨e, rfl, fun h => absurd h e0⟩
end Go.Proofs.YtbcooccafbccdaaGreatDoor
