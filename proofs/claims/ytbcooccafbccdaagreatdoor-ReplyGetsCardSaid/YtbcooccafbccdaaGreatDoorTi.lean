/- Strategies of a player, and the probabilities of the sequences. -/
import Derived.Test.YtbcooccafbccdaaGreatDoorTg
import Derived.Test.YtbcooccafbccdaaGreatDoorMa
namespace Go.Proofs.YtbcooccafbccdaaGreatDoor
open Go Vm
abbrev Ch := Int × List ByteArray
abbrev c0 : Ch := (0, [])
structure WS (s : List Ch) : Prop where
 len : s.length ≤ 4398046510976
 odds : ∀ c, c ∈ s → c.2.length ≤ 140737488351232
 txt : ∀ c, c ∈ s → ∀ x, x ∈ c.2 → x.size ≤ 900000000000000
def Pb (rs : List Rat) : Prop := (∀ r, r ∈ rs → OkR r ∧ 0 ≤ r) ∧ psum rs = 1
theorem strat_loop {s : List Ch} (hs : WS s) (is ws : List Int) (hi : is.length = s.length) (hw : ws.length = s.length) : ∀ (m i : Nat), i ≤ s.length → s.length < m + i →
  (∀ j, j < i → (s.getD j c0).1 = is.getD j 0 ∧ ((s.getD j c0).2.length : Int) = ws.getD j 0 ∧ ∃ rs : List Rat, (s.getD j c0).2 = rs.map rt ∧ Pb rs) →
  (∃ (e : Int) (d : _), e ≠ 0 ∧ l_recall_Strategy_5 m s (s.length : Int) (i : Int) is ws = some (.ret (e, d))) ∨
  ((∀ j, j < s.length → (s.getD j c0).1 = is.getD j 0 ∧ ((s.getD j c0).2.length : Int) = ws.getD j 0 ∧ ∃ rs : List Rat, (s.getD j c0).2 = rs.map rt ∧ Pb rs) ∧ ∃ d, l_recall_Strategy_5 m s (s.length : Int) (i : Int) is ws = some (.exit d))
 | 0, i, h1, h2, _ => by omega
 | m + 1, i, h1, h2, h3 => by
  simp only [l_recall_Strategy_5]
  by_cases hj : i < s.length
  ·have hl := hs.len
   have e4 : IntKind.i64.wrap ((i : Int) + 1) = ((i + 1 : Nat) : Int) := by rw [w64 _ (by omega) (by omega)]; omega
   have hm : s.getD i c0 ∈ s := by rw [getD_eq s i _ hj]; exact List.getElem_mem hj
   rw [if_pos (by simpa using hj), if_pos (by omega), if_pos (by omega), if_pos (by omega), if_pos (by omega), Int.toNat_natCast, e4]
   generalize hx : s.getD i (0, []) = x
   have hx' : s.getD i c0 = x := hx
   rw [hx'] at hm
   by_cases c1 : x.1 = is.getD i 0
   ·rw [if_pos (by rw [bne_eq_false_iff_eq]; exact c1), if_pos (by omega), if_pos (by omega)]
    by_cases c2 : (x.2.length : Int) = ws.getD i 0
    ·rw [if_neg (fun h => (bne_iff_ne.1 h) c2)]
     obtain ⟨e, he, hr⟩ := odds_spec x.2 (Nat.le_trans (hs.odds _ hm) (by decide)) (hs.txt _ hm)
     rw [he, Option.bind_some]
     by_cases e0 : e = 0
     ·rw [if_neg (by simpa using e0)]
      refine strat_loop hs is ws hi hw m (i + 1) (by omega) (by omega) fun j hji => ?_
      by_cases ej : j = i
      ·subst ej
       rw [hx']
       obtain ⟨rs, h1, _, h2, h3⟩ := hr e0
       exact ⟨c1, c2, rs, h1, h2, h3⟩
      ·exact h3 j (by omega)
     ·rw [if_pos (by simpa using e0)]
      exact .inl ⟨e, _, e0, rfl⟩
    ·rw [if_pos (bne_iff_ne.2 c2)]
     exact .inl ⟨3, _, by decide, rfl⟩
   ·rw [if_neg (by rw [bne_eq_false_iff_eq]; exact c1)]
    exact .inl ⟨3, _, by decide, rfl⟩
  ·rw [if_neg (by simpa using hj)]
   exact .inr ⟨fun j hj' => h3 j (by omega), _, rfl⟩
structure Strat (t : List Nd) (p : Int) (s : List Ch) (pi : Int → List Rat) : Prop where
 eq : s = (sets t p 10).map fun q => (q.1, (pi q.1).map rt)
 ok : ∀ q, q ∈ sets t p 10 → (pi q.1).length = q.2 ∧ Pb (pi q.1)
theorem nodup_idx {α : Type} {l : List α} (h : l.Nodup) {i j : Nat} (hi : i < l.length) (hj : j < l.length) (e : l[i] = l[j]) : i = j := by
 rcases Nat.lt_trichotomy i j with h1 | h1 | h1
 ·exact absurd e (List.pairwise_iff_getElem.1 h i j hi hj h1)
 ·exact h1
 ·exact absurd e.symm (List.pairwise_iff_getElem.1 h j i hj hi h1)
open Classical in
theorem strat_of {t : List Nd} {p : Int} {s : List Ch} (hl : s.length = (sets t p 10).length)
  (h : ∀ j, j < s.length → (s.getD j c0).1 = ((sets t p 10).map (·.1)).getD j 0 ∧ ((s.getD j c0).2.length : Int) = (zs ((sets t p 10).map (·.2))).getD j 0 ∧ ∃ rs : List Rat, (s.getD j c0).2 = rs.map rt ∧ Pb rs) :
  ∃ pi, Strat t p s pi := by
 let pi : Int → List Rat := fun x => if h : ∃ rs : List Rat, (x, rs.map rt) ∈ s then h.choose else []
 have hnd := sets_nodup t p 10
 have key : ∀ j (hj : j < s.length) (hj' : j < (sets t p 10).length), s[j] = ((sets t p 10)[j].1, (pi (sets t p 10)[j].1).map rt) ∧ (pi (sets t p 10)[j].1).length = (sets t p 10)[j].2 ∧ Pb (pi (sets t p 10)[j].1) := by
  intro j hj hj'
  obtain ⟨h1, h2, rs, h3, h4⟩ := h j hj
  rw [getD_eq s j _ hj] at h1 h2 h3
  rw [getD_eq _ j _ (by rw [List.length_map]; exact hj'), List.getElem_map] at h1
  rw [getD_zs, getD_eq _ j _ (by rw [List.length_map]; exact hj'), List.getElem_map] at h2
  have hex : ∃ rs : List Rat, ((sets t p 10)[j].1, rs.map rt) ∈ s := ⟨rs, by
    rw [← h1, ← h3]; exact List.getElem_mem hj⟩
  have hsp : ((sets t p 10)[j].1, (pi (sets t p 10)[j].1).map rt) ∈ s := by
   have := hex.choose_spec
   simp only [pi]
   rw [dif_pos hex]; exact this
  obtain ⟨k, hk, ek⟩ := List.getElem_of_mem hsp
  have hk' : k < (sets t p 10).length := by omega
  have hkj : k = j := by
   refine nodup_idx hnd (by rw [List.length_map]; exact hk') (by rw [List.length_map]; exact hj') ?_
   rw [List.getElem_map, List.getElem_map]
   have hk1 := (h k hk).1
   rw [getD_eq s k _ hk, getD_eq _ k _ (by rw [List.length_map]; exact hk'), List.getElem_map, ek] at hk1
   exact hk1.symm
  subst hkj
  have e2 : (pi (sets t p 10)[k].1) = rs := by
   refine map_rt_inj ?_
   rw [← h3, ek]
  refine ⟨ek, ?_, by rw [e2]; exact h4⟩
  rw [e2]
  have : s[k].2.length = rs.length := by rw [h3, List.length_map]
  omega
 refine ⟨pi, ?_, fun q hq => ?_⟩
 ·refine List.ext_getElem (by rw [List.length_map]; exact hl) fun j h1 h2 => ?_
  rw [List.getElem_map]
  exact (key j h1 (by rw [List.length_map] at h2; exact h2)).1
 ·obtain ⟨j, hj, e⟩ := List.getElem_of_mem hq
  have := key j (by omega) hj
  rw [e] at this
  exact this.2
theorem strategy_ok {t : List Nd} (hv : V t) (p : Int) {s : List Ch} (hs : WS s) : ∃ e : Int, f_recall_Strategy fuel t p s = some e ∧ (e = 0 → ∃ pi, Strat t p s pi) := by
 have hf := fuel_ge (n := 2 ^ 100) (by decide)
 have hl := hs.len
 unfold f_recall_Strategy
 rw [sets_ok hv p, Option.bind_some]
 simp only
 by_cases c1 : s.length = (sets t p 10).length
 ·rw [if_neg (by rw [bne_iff_ne, List.length_map]; simp [c1])]
  rcases strat_loop hs ((sets t p 10).map (·.1)) (zs ((sets t p 10).map (·.2))) (by rw [List.length_map, c1]) (by rw [length_zs, List.length_map, c1]) fuel 0 (by omega) (by omega) (fun j hj => by omega) with ⟨e, d, e0, g⟩ | ⟨h, d, g⟩
  ·have g : l_recall_Strategy_5 fuel s (s.length : Int) 0 ((sets t p 10).map (·.1)) (zs ((sets t p 10).map (·.2))) = _ := g
   rw [g]
   exact ⟨e, rfl, fun h => absurd h e0⟩
  ·have g : l_recall_Strategy_5 fuel s (s.length : Int) 0 ((sets t p 10).map (·.1)) (zs ((sets t p 10).map (·.2))) = _ := g
   rw [g]
   exact ⟨0, rfl, fun _ => strat_of c1 h⟩
 ·rw [if_pos (by rw [bne_iff_ne, List.length_map]; omega)]
  exact ⟨3, rfl, fun h => absurd h (by decide)⟩
theorem choice_ret (s : List Ch) (x : Int) (hs : s.length ≤ 1000000) (j : Nat) (hj : j < s.length) (he : (s.getD j c0).1 = x) (hn : ∀ k, k < j → (s.getD k c0).1 ≠ x) : ∀ (m i : Nat), i ≤ j → s.length < m + i →
  l_slices_IndexFunc_TreeChoice__recall_Odd_2 m s (s.length : Int) (i : Int) x = some (.ret ((j : Int), x, ()))
 | 0, i, h1, h2 => by omega
 | m + 1, i, h1, h2 => by
  have e4 : IntKind.i64.wrap ((i : Int) + 1) = ((i + 1 : Nat) : Int) := by rw [w64 _ (by omega) (by omega)]; omega
  simp only [l_slices_IndexFunc_TreeChoice__recall_Odd_2]
  rw [if_pos (by simp; omega), if_pos (by omega), if_pos (by omega), Int.toNat_natCast, e4]
  by_cases hi : i = j
  ·subst hi
   rw [if_pos (beq_iff_eq.2 he)]
  ·rw [if_neg (fun h => hn i (by omega) (beq_iff_eq.1 h))]
   exact choice_ret s x hs j hj he hn m (i + 1) (by omega) (by omega)
theorem odd_ok {t : List Nd} {p : Int} {s : List Ch} {pi : Int → List Rat} (h : Strat t p s pi) {q : Int × Nat} (hq : q ∈ sets t p 10) {c : Nat} (hc : c < q.2) :
  ∃ z, f_recall_Odd fuel s q.1 (c : Int) = some z ∧ QR ((pi q.1).getD c 0) z := by
 have hf := fuel_ge (n := 2 ^ 100) (by decide)
 obtain ⟨j, hj, ej⟩ := List.getElem_of_mem hq
 have hsl : s.length = (sets t p 10).length := by have := congrArg List.length h.eq; rw [List.length_map] at this; exact this
 have h10 := sets_length t p 10
 have hat : ∀ k (hk : k < (sets t p 10).length), s.getD k c0 = ((sets t p 10)[k].1, (pi (sets t p 10)[k].1).map rt) := by
  intro k hk
  rw [getD_eq s k _ (by omega)]
  have : ∀ (l : List Ch) (e : s = l) (hk2 : k < l.length), s[k]'(by omega) = l[k] := by intro l e hk2; subst e; rfl
  rw [this _ h.eq (by rw [List.length_map]; exact hk), List.getElem_map]
 obtain ⟨h1, h2, _⟩ := h.ok q hq
 have g := choice_ret s q.1 (by omega) j (by omega) (by rw [hat j hj, ej]) (fun k hk e => by
   rw [hat k (by omega)] at e
   have : k = j := nodup_idx (sets_nodup t p 10) (by rw [List.length_map]; omega) (by rw [List.length_map]; exact hj) (by rw [List.getElem_map, List.getElem_map, ej]; exact e)
   omega) fuel 0 (by omega) (by omega)
 have g : l_slices_IndexFunc_TreeChoice__recall_Odd_2 fuel s (s.length : Int) 0 q.1 = _ := g
 unfold f_recall_Odd
 rw [g]
 simp only
 have ho : OkR ((pi q.1).getD c 0) := (h2 _ (by rw [getD_eq _ c 0 (by omega)]; exact List.getElem_mem _)).1
 obtain ⟨z, hz, hqr⟩ := in_ok ho
 have e1 : s.getD j (0, []) = (q.1, (pi q.1).map rt) := by have := hat j hj; rw [ej] at this; exact this
 rw [if_pos (show (0 : Int) ≤ (j : Int) by omega), if_pos (show (j : Int) < (s.length : Int) by omega), Int.toNat_natCast, e1]
 simp only
 rw [if_pos (by omega), if_pos (by rw [List.length_map]; omega), Int.toNat_natCast, getD_mapR _ c (by omega), hz]
 exact ⟨z, rfl, hqr⟩
def WL (pi : Int → List Rat) : List Sq → List Rat → List Rat
 | [], acc => acc
 | s :: r, acc => WL pi r (acc ++ [acc.getD s.2.2.toNat 0 * (pi s.1).getD s.2.1.toNat 0])
theorem WL_old (pi : Int → List Rat) : ∀ (r : List Sq) (acc : List Rat) (i : Nat), i < acc.length → (WL pi r acc).getD i 0 = acc.getD i 0
 | [], _, _, _ => rfl
 | s :: r, acc, i, h => by
  rw [WL, WL_old pi r _ i (by rw [List.length_append]; omega), List.getD_eq_getElem?_getD, List.getElem?_append_left h, ← List.getD_eq_getElem?_getD]
theorem WL_new (pi : Int → List Rat) : ∀ (r : List Sq) (acc : List Rat) (k : Nat) (s : Sq), r[k]? = some s → s.2.2.toNat < acc.length + k →
  (WL pi r acc).getD (acc.length + k) 0 = (WL pi r acc).getD s.2.2.toNat 0 * (pi s.1).getD s.2.1.toNat 0
 | [], _, _, _, h, _ => by simp at h
 | s0 :: r, acc, 0, s, h, hb => by
  simp only [List.getElem?_cons_zero, Option.some.injEq] at h
  subst h
  rw [WL, WL_old pi r _ _ (by rw [List.length_append, List.length_singleton]; omega), WL_old pi r _ s0.2.2.toNat (by rw [List.length_append]; omega)]
  rw [getD_last (by omega), getD_left (by omega)]
 | s0 :: r, acc, k + 1, s, h, hb => by
  rw [List.getElem?_cons_succ] at h
  have := WL_new pi r (acc ++ [acc.getD s0.2.2.toNat 0 * (pi s0.1).getD s0.2.1.toNat 0]) k s h (by rw [List.length_append, List.length_singleton]; omega)
  rw [List.length_append, List.length_singleton, show acc.length + 1 + k = acc.length + (k + 1) by omega] at this
  rw [WL]; exact this
theorem qr_one : QR 1 (false, (zs (cn 1), zs (cn 1))) := ⟨by decide, by rfl, .inl (by rfl)⟩
theorem int_one : f_rat_Int fuel 1 = some (false, (zs (cn 1), zs (cn 1))) := by
 unfold f_rat_Int
 rw [if_neg (by decide), of_one]; rfl
theorem dr_one : Dr 1 1 := dr_nat (n := 1) (by decide) (by decide)
theorem flat_at (pre post : List Bk) (q : Bk) (c : Nat) (h : c < q.2.1) : ((pre ++ q :: post).flatMap blk)[tot pre + c]? = some (q.1, ((c : Int), (q.2.2 : Int))) := by
 rw [List.flatMap_append, List.flatMap_cons, List.getElem?_append_right (by rw [flat_length]; omega), flat_length, show tot pre + c - tot pre = c by omega,
   List.getElem?_append_left (by rw [blk_length]; exact h)]
 simp only [blkAt]
 rw [List.getElem?_map, List.getElem?_range' h]
 simp
def Wt (pi : Int → List Rat) (bs : List Bk) : List Rat := WL pi (bs.flatMap blk) [1]
theorem Wt_root (pi : Int → List Rat) (bs : List Bk) : (Wt pi bs).getD 0 0 = 1 := by rw [Wt, WL_old _ _ _ _ (by simp)]; rfl
theorem Wt_at (pi : Int → List Rat) {bs pre post : List Bk} {q : Bk} (hb : BefOk 1 bs) (e : bs = pre ++ q :: post) {c : Nat} (h : c < q.2.1) :
  (Wt pi bs).getD (tot pre + c + 1) 0 = (Wt pi bs).getD q.2.2 0 * (pi q.1).getD c 0 := by
 subst e
 have hbef := befOk_at hb
 have := WL_new pi ((pre ++ q :: post).flatMap blk) [1] (tot pre + c) _ (flat_at pre post q c h) (by rw [List.length_singleton, Int.toNat_natCast]; omega)
 rw [List.length_singleton, show 1 + (tot pre + c) = tot pre + c + 1 by omega, Int.toNat_natCast, Int.toNat_natCast] at this
 exact this
end Go.Proofs.YtbcooccafbccdaaGreatDoor
