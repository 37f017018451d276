/- What the checks of games as trees find. -/
import Derived.Test.YtbcooccafbccdaaGreatDoorRs
namespace Go.Proofs.YtbcooccafbccdaaGreatDoor
open Go Vm
abbrev Nd := Int × (Int × (Int × ((List Int) × ((List ByteArray) × ByteArray))))
abbrev nz : Nd := (0, (0, (0, ([], ([], ByteArray.empty)))))
abbrev nd (t : List Nd) (i : Nat) : Nd := t.getD i nz
abbrev nx (x : Nd) : List Int := x.2.2.2.1
abbrev od (x : Nd) : List ByteArray := x.2.2.2.2.1
structure WT (t : List Nd) : Prop where
 len : t.length ≤ 140737488351232
 next : ∀ x, x ∈ t → (nx x).length ≤ 140737488351232
 odds : ∀ x, x ∈ t → (od x).length ≤ 140737488351232
 txt : ∀ x, x ∈ t → ∀ s, s ∈ od x → s.size ≤ 900000000000000
 pay : ∀ x, x ∈ t → x.2.2.2.2.2.size ≤ 900000000000000
theorem nd_mem {t : List Nd} {i : Nat} (h : i < t.length) : nd t i ∈ t := by
 unfold nd; rw [getD_eq t i _ h]; exact List.getElem_mem h
theorem children_loop (t : List Nd) (i : Nat) (L : List Int) (hL : L.length ≤ 140737488351232) : ∀ (m j : Nat), j ≤ L.length → L.length < m + j → (∀ k, k ∈ L.take j → (i : Int) < k ∧ k < t.length) →
  l_tree_children_7 m t (i : Int) L (L.length : Int) (j : Int) = some (.ret (3, ())) ∨ ((∀ k, k ∈ L → (i : Int) < k ∧ k < t.length) ∧ l_tree_children_7 m t (i : Int) L (L.length : Int) (j : Int) = some (.exit ()))
 | 0, j, h1, h2, h3 => by omega
 | m + 1, j, h1, h2, h3 => by
  simp only [l_tree_children_7]
  by_cases hj : j < L.length
  ·have e4 : IntKind.i64.wrap ((j : Int) + 1) = ((j + 1 : Nat) : Int) := by rw [w64 _ (by omega) (by omega)]; omega
   rw [if_pos (by simpa using hj), if_pos (by omega), if_pos (by omega), Int.toNat_natCast, e4]
   by_cases c1 : L.getD j 0 ≤ (i : Int)
   ·rw [if_neg (by simpa using c1)]; exact .inl rfl
   ·rw [if_pos (by simpa using c1)]
    by_cases c2 : L.getD j 0 ≥ (t.length : Int)
    ·rw [if_pos (by simpa using c2)]; exact .inl rfl
    ·rw [if_neg (by simpa using c2)]
     refine children_loop t i L hL m (j + 1) (by omega) (by omega) fun k hk => ?_
     rw [List.take_succ_eq_append_getElem hj, List.mem_append, List.mem_singleton] at hk
     rcases hk with hk | rfl
     ·exact h3 k hk
     ·rw [← getD_eq L j 0 hj]; omega
  ·rw [if_neg (by simpa using hj)]
   rw [List.take_of_length_le (by omega)] at h3
   exact .inr ⟨h3, rfl⟩
def Kids (t : List Nd) (i : Nat) : Prop := nx (nd t i) ≠ [] ∧ (nx (nd t i)).length ≤ 6 ∧ ∀ k, k ∈ nx (nd t i) → (i : Int) < k ∧ k < t.length
theorem children_ok {t : List Nd} (ht : WT t) {i : Nat} (hi : i < t.length) : ∃ e : Int, f_tree_children fuel t (i : Int) = some e ∧ (e = 0 → Kids t i) := by
 have hl := ht.next _ (nd_mem hi)
 have hf := fuel_ge (n := 2 ^ 100) (by decide)
 have hK : Kids t i = (nx (nd t i) ≠ [] ∧ (nx (nd t i)).length ≤ 6 ∧ ∀ k, k ∈ nx (nd t i) → (i : Int) < k ∧ k < t.length) := rfl
 rw [hK]
 unfold f_tree_children
 rw [if_pos (by omega), if_pos (by omega), Int.toNat_natCast]
 generalize hx : t.getD i (0, (0, (0, ([], ([], ByteArray.empty))))) = x
 have hx' : nd t i = x := hx
 rw [hx'] at hl ⊢
 generalize hL : nx x = L at hl ⊢
 rw [show x.2.2.2.1 = L from hL]
 by_cases c1 : L = []
 ·rw [if_pos (by simp [c1])]
  exact ⟨3, rfl, fun h => absurd h (by decide)⟩
 ·rw [if_neg (by simpa using c1)]
  by_cases c2 : L.length ≤ 6
  ·rw [if_neg (by simp only [decide_eq_true_eq]; omega)]
   rcases children_loop t i L hl fuel 0 (by omega) (by omega) (fun k h => by simp at h) with h | ⟨h, g⟩
   ·have h : l_tree_children_7 fuel t (i : Int) L (L.length : Int) 0 = _ := h
    rw [h]; exact ⟨3, rfl, fun h => absurd h (by decide)⟩
   ·have g : l_tree_children_7 fuel t (i : Int) L (L.length : Int) 0 = _ := g
    rw [g]; exact ⟨0, rfl, fun _ => ⟨c1, c2, h⟩⟩
  ·rw [if_pos (by simp only [decide_eq_true_eq]; omega)]
   exact ⟨2, rfl, fun h => absurd h (by decide)⟩
def Good (t : List Nd) (i : Nat) : Prop :=
 ((nd t i).1 = 0 ∧ nx (nd t i) = [] ∧ ∃ r, (nd t i).2.2.2.2.2 = rt r ∧ OkR r) ∨
 ((nd t i).1 = 1 ∧ Kids t i ∧ (od (nd t i)).length = (nx (nd t i)).length ∧ ∃ rs : List Rat, od (nd t i) = rs.map rt ∧ (∀ r, r ∈ rs → OkR r ∧ 0 ≤ r) ∧ psum rs = 1) ∨
 ((nd t i).1 = 2 ∧ Kids t i ∧ 0 ≤ (nd t i).2.1 ∧ (nd t i).2.1 ≤ 1 ∧ 0 ≤ (nd t i).2.2.1 ∧ (nd t i).2.2.1 < 10)
theorem node_ok {t : List Nd} (ht : WT t) {i : Nat} (hi : i < t.length) : ∃ e : Int, f_tree_node fuel t (i : Int) = some e ∧ (e = 0 → Good t i) := by
 have hm := nd_mem hi
 obtain ⟨ec, hc, hck⟩ := children_ok ht hi
 unfold f_tree_node
 rw [if_pos (by omega), if_pos (by omega), Int.toNat_natCast]
 have hG : Good t i = (((nd t i).1 = 0 ∧ nx (nd t i) = [] ∧ ∃ r, (nd t i).2.2.2.2.2 = rt r ∧ OkR r) ∨
   ((nd t i).1 = 1 ∧ Kids t i ∧ (od (nd t i)).length = (nx (nd t i)).length ∧ ∃ rs : List Rat, od (nd t i) = rs.map rt ∧ (∀ r, r ∈ rs → OkR r ∧ 0 ≤ r) ∧ psum rs = 1) ∨
   ((nd t i).1 = 2 ∧ Kids t i ∧ 0 ≤ (nd t i).2.1 ∧ (nd t i).2.1 ≤ 1 ∧ 0 ≤ (nd t i).2.2.1 ∧ (nd t i).2.2.1 < 10)) := rfl
 rw [hG]
 clear hG
 generalize Kids t i = KK at hck ⊢
 generalize hx : t.getD i (0, (0, (0, ([], ([], ByteArray.empty))))) = x
 have hx' : nd t i = x := hx
 rw [hx'] at hm ⊢
 clear hx hx'
 obtain ⟨kd, pl, inf, nxt, ods, pay⟩ := x
 generalize hG : ((kd = 0 ∧ nxt = [] ∧ ∃ r, pay = rt r ∧ OkR r) ∨ (kd = 1 ∧ KK ∧ ods.length = nxt.length ∧ ∃ rs : List Rat, ods = rs.map rt ∧ (∀ r, r ∈ rs → OkR r ∧ 0 ≤ r) ∧ psum rs = 1) ∨
   (kd = 2 ∧ KK ∧ 0 ≤ pl ∧ pl ≤ 1 ∧ 0 ≤ inf ∧ inf < 10)) = GG
 show ∃ e : Int, _ ∧ (e = 0 → GG)
 simp only
 have bad3 : ∃ e : Int, some (3 : Int) = some e ∧ (e = 0 → GG) := ⟨3, rfl, fun h => absurd h (by decide)⟩
 have bad4 : ∃ e : Int, some (4 : Int) = some e ∧ (e = 0 → GG) := ⟨4, rfl, fun h => absurd h (by decide)⟩
 have bad1 : ∃ e : Int, some (1 : Int) = some e ∧ (e = 0 → GG) := ⟨1, rfl, fun h => absurd h (by decide)⟩
 by_cases k0 : kd = 0
 ·rw [if_pos (by simpa using k0)]
  split
  ·split
   ·split
    ·rename_i hx
     have hnil : nxt = [] := by
      simp only [decide_eq_false_iff_not] at hx
      exact List.eq_nil_of_length_eq_zero (by omega)
     split
     ·exact bad3
     ·rcases rcheck_spec _ (ht.pay _ hm) with ⟨e, e0, h⟩ | ⟨r, hr, ho⟩
      ·have h : f_rat_Check fuel pay = _ := h
       rw [h]; exact ⟨e, rfl, fun h => absurd h e0⟩
      ·have hr : pay = rt r := hr
       have h : f_rat_Check fuel pay = some 0 := by rw [hr]; exact rcheck_ok ho
       rw [h]
       refine ⟨0, rfl, fun _ => by rw [← hG]; exact .inl ⟨k0, hnil, r, hr, ho⟩⟩
    ·exact bad3
   ·exact bad3
  ·exact bad3
 ·rw [if_neg (by simpa using k0)]
  by_cases k1 : kd = 1
  ·rw [if_pos (by simpa using k1)]
   split
   ·split
    ·split
     ·exact bad3
     ·rw [hc, Option.bind_some]
      by_cases e0 : ec = 0
      ·rw [if_neg (by simpa using e0)]
       split
       ·exact bad3
       ·rename_i hlen
        obtain ⟨e, he, hr⟩ := odds_spec ods (Nat.le_trans (ht.odds _ hm) (by decide)) (ht.txt _ hm)
        rw [he]
        refine ⟨e, rfl, fun h => ?_⟩
        obtain ⟨rs, h1, _, h2, h3⟩ := hr h
        rw [← hG]
        exact .inr (.inl ⟨k1, hck e0, by simp only [bne_iff_ne, ne_eq, Decidable.not_not] at hlen; omega, rs, h1, h2, h3⟩)
      ·rw [if_pos (by simpa using e0)]
       exact ⟨ec, rfl, fun h => absurd h e0⟩
    ·exact bad3
   ·exact bad3
  ·rw [if_neg (by simpa using k1)]
   by_cases k2 : kd = 2
   ·rw [if_pos (by simpa using k2)]
    split
    ·split
     ·exact bad3
     ·split
      ·rename_i p0
       split
       ·rename_i p1
        split
        ·rename_i i0
         split
         ·exact bad4
         ·rename_i i1
          rw [hc, Option.bind_some]
          simp only [decide_eq_true_eq, decide_eq_false_iff_not] at p0 p1 i0 i1
          exact ⟨ec, rfl, fun h => by rw [← hG]; exact .inr (.inr ⟨k2, hck h, by omega, by omega, by omega, by omega⟩)⟩
        ·exact bad4
       ·exact bad4
      ·exact bad4
    ·exact bad3
   ·rw [if_neg (by simpa using k2)]
    exact bad1
end Go.Proofs.YtbcooccafbccdaaGreatDoor
