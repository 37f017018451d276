/- What List and Sets make of a valid game, joined. -/
import Derived.Test.YtbcooccafbccdaaGreatDoorTf
namespace Go.Proofs.YtbcooccafbccdaaGreatDoor
open Go Vm
theorem list_loop {t : List Nd} (hv : V t) (p : Int) : ∀ (m i : Nat) (bs : List Bk) (b : List Int), i ≤ t.length → t.length + 2000 < m + i → LI t p i bs b →
  ∃ bs' b', LI t p t.length bs' b' ∧ l_recall_List_4 m p t (t.length : Int) (i : Int) (sqs bs) b = some (.exit (sqs bs', b', ()))
 | 0, i, bs, b, h1, h2, _ => by have := hv.len; omega
 | m + 1, i, bs, b, h1, h2, h => by
  have hn := hv.len
  simp only [l_recall_List_4]
  by_cases hj : i < t.length
  ·have e4 : IntKind.i64.wrap ((i : Int) + 1) = ((i + 1 : Nat) : Int) := by rw [w64 _ (by omega) (by omega)]; omega
   have hg := hv.good i hj
   have hL := good_len hg
   have hk := good_kids hg
   rw [if_pos (by simpa using hj), if_pos (by omega), if_pos (by omega), Int.toNat_natCast, e4]
   have ht := h.total
   -- a node of somebody else
   have other : ∀ f : Int, ¬ own t p i → ∀ o : Bool, o = false → -1 ≤ f → f ≤ 100000 → l_recall_List_18 m (i : Int) o f (nx (nd t i)) ((nx (nd t i)).length : Int) 0 b = some (.exit (kidsSet (nx (nd t i)) (fun _ => b.getD i 0) 0 b, ())) ∧
     LI t p (i + 1) bs (kidsSet (nx (nd t i)) (fun _ => b.getD i 0) 0 b) := by
    intro f ho o hof f1 f2
    subst hof
    refine ⟨kids_loop i t.length hj (by omega) (nx (nd t i)) hL hk false f ⟨f1, f2⟩ (b.getD i 0) m 0 b (by omega) (by omega) h.len rfl, ?_⟩
    refine li_step hv hj h bs [] (by simp) h.nodup (fun q hq => by cases hq) h.bef (by omega) 0 (fun h => absurd h ho) (fun h => absurd h ho) _ ?_
    congr 1; funext c; rw [if_neg ho]
   by_cases c1 : (nd t i).1 = 2
   ·rw [if_pos (beq_iff_eq.2 c1)]
    by_cases c2 : (nd t i).2.1 = p
    ·rw [if_pos (beq_iff_eq.2 c2), show ((nd t i).2.1 == p) = true from beq_iff_eq.2 c2]
     have ho : own t p i := ⟨c1, c2⟩
     obtain ⟨⟨k1, k2, _⟩, k3, k4⟩ := own_kids hv hj ho
     have hw : 0 < (nx (nd t i)).length := List.length_pos_iff.2 k1
     rcases find_ok bs (nd t i) k3 (fun q hq => (li_width hv h1 h hq).1) (by omega) m (by omega) with ⟨k, hf, g⟩ | ⟨hf, g⟩
     ·rw [g]
      simp only
      rw [if_neg (fun h => by have h : ((k + 1 : Nat) : Int) < 0 := of_decide_eq_true h; omega)]
      have g2 := kids_loop i t.length hj (by omega) (nx (nd t i)) hL hk true ((k + 1 : Nat) : Int) (by
        obtain ⟨pre, q, post, e1, _, e2, _⟩ := fst?_some hf
        have : tot bs = tot pre + (q.2.1 + tot post) := by rw [e1, tot_append, tot_cons]
        omega) (b.getD i 0) m 0 b (by omega) (by omega) h.len rfl
      have g2 : l_recall_List_18 m (i : Int) true ((k + 1 : Nat) : Int) (nd t i).2.2.2.1 ((nd t i).2.2.2.1.length : Int) 0 b = _ := g2
      rw [g2]
      refine list_loop hv p m (i + 1) bs _ (by omega) (by omega) (li_step hv hj h bs [] (by simp) h.nodup (fun q hq => by cases hq) h.bef (by omega) k (fun _ => hf) (fun _ => ?_) _ ?_)
      ·obtain ⟨pre, q, post, e1, e0, e2, _⟩ := fst?_some hf
       have e3 : tot bs = tot pre + (q.2.1 + tot post) := by rw [e1, tot_append, tot_cons]
       obtain ⟨j, hj', hoj, hej, hwj, _⟩ := h.blk q (by rw [e1]; simp)
       have ha := hv.alike i hj j hj' ho.1 hoj.1 (by rw [ho.2, hoj.2]) (by rw [← e0] at *; exact hej.symm)
       omega
      ·show kidsSet ((nx (nd t i)).drop 0) (fun c => ((k + 1 : Nat) : Int) + (c : Int)) 0 b = _
       rw [List.drop_zero]
       congr 1; funext c; rw [if_pos ho]
     ·rw [g]
      simp only
      have hb := h.bound i
      obtain ⟨v, ev⟩ := Int.eq_ofNat_of_zero_le hb.1
      have g1 := app_loop i (nd t i) (nx (nd t i)).length b (by have := h.len; omega) (inf t i, ((nx (nd t i)).length, v)) rfl ev.symm hL m 0 (sqs bs) (by omega) (by omega) (by rw [sqs_length]; omega)
      have g1 : l_recall_List_13 m (i : Int) ((nd t i).2.2.2.1.length : Int) 0 (sqs bs) b (nd t i).1 (nd t i).2.1 (nd t i).2.2.1 (nd t i).2.2.2.1 (nd t i).2.2.2.2.1 (nd t i).2.2.2.2.2 = _ := g1
      rw [g1]
      simp only
      have hsl := sqs_length bs
      have g2 := kids_loop i t.length hj (by omega) (nx (nd t i)) hL hk true ((sqs bs).length : Int) (by omega) (b.getD i 0) m 0 b (by omega) (by omega) h.len rfl
      have g2 : l_recall_List_18 m (i : Int) true ((sqs bs).length : Int) (nd t i).2.2.2.1 ((nd t i).2.2.2.1.length : Int) 0 b = _ := g2
      rw [g2]
      have es : sqs bs ++ blkAt (inf t i, ((nx (nd t i)).length, v)) 0 ((nx (nd t i)).length - 0) = sqs (bs ++ [(inf t i, ((nx (nd t i)).length, v))]) := by
       simp [sqs, List.flatMap_append, List.flatMap_cons]
      rw [es]
      have hni : inf t i ∉ bs.map (·.1) := fst?_none hf
      refine list_loop hv p m (i + 1) _ _ (by omega) (by omega) (li_step hv hj h _ [(inf t i, ((nx (nd t i)).length, v))] rfl ?_ (fun q hq => ?_) ?_ ?_ (tot bs) (fun _ => ?_) (fun _ => ?_) _ ?_)
      ·rw [List.map_append, List.map_singleton, List.nodup_append]
       exact ⟨h.nodup, by simp, fun x hx y hy e => hni (by have hy : y = inf t i := List.mem_singleton.1 hy; rw [← hy, ← e]; exact hx)⟩
      ·rw [List.mem_singleton] at hq
       subst hq
       refine ⟨rfl, ho, rfl, fun j' hj' hoj' e => ?_, ev⟩
       obtain ⟨k', hk'⟩ := h.all j' hj' hoj'
       rw [e, hf] at hk'; cases hk'
      ·refine befOk_snoc h.bef ?_
       show v < 1 + tot bs
       have := hb.2; omega
      ·rw [tot_append, tot_cons, tot_nil]
       show tot bs + ((nx (nd t i)).length + 0) ≤ tot bs + 6
       omega
      ·exact fst?_snoc (q := (inf t i, ((nx (nd t i)).length, v))) hni
      ·rw [tot_append, tot_cons, tot_nil]
       show tot bs + (nx (nd t i)).length ≤ tot bs + ((nx (nd t i)).length + 0)
       omega
      ·show kidsSet ((nx (nd t i)).drop 0) (fun c => ((sqs bs).length : Int) + (c : Int)) 0 b = _
       rw [List.drop_zero]
       congr 1; funext c; rw [if_pos ho, hsl]
    ·rw [if_neg (fun h => c2 (beq_iff_eq.1 h)), show ((nd t i).2.1 == p) = false from beq_eq_false_iff_ne.2 c2]
     obtain ⟨g1, g2⟩ := other (-1) (fun h => c2 h.2) false rfl (by decide) (by decide)
     have g1 : l_recall_List_18 m (i : Int) false (-1) (nd t i).2.2.2.1 ((nd t i).2.2.2.1.length : Int) 0 b = _ := g1
     rw [g1]
     exact list_loop hv p m (i + 1) _ _ (by omega) (by omega) g2
   ·rw [if_neg (fun h => c1 (beq_iff_eq.1 h))]
    obtain ⟨g1, g2⟩ := other (-1) (fun h => c1 h.1) false rfl (by decide) (by decide)
    have g1 : l_recall_List_18 m (i : Int) false (-1) (nd t i).2.2.2.1 ((nd t i).2.2.2.1.length : Int) 0 b = _ := g1
    rw [g1]
    exact list_loop hv p m (i + 1) _ _ (by omega) (by omega) g2
  ·rw [if_neg (by simpa using hj)]
   have : i = t.length := by omega
   subst this
   exact ⟨bs, b, h, rfl⟩
theorem list_ok {t : List Nd} (hv : V t) (p : Int) : ∃ bs b, f_recall_List fuel t p = some (sqs bs, b) ∧ LI t p t.length bs b := by
 have hf := fuel_ge (n := 2 ^ 100) (by decide)
 have hn := hv.len
 unfold f_recall_List
 rw [if_pos (by omega), if_pos (by omega), if_pos (by omega), Int.toNat_natCast]
 have z : ∀ y, (List.replicate t.length (0 : Int)).getD y 0 = 0 := fun y => by
  rw [List.getD_eq_getElem?_getD, List.getElem?_replicate]; split <;> rfl
 obtain ⟨bs, b, h, g⟩ := list_loop hv p fuel 0 [] (List.replicate t.length 0) (by omega) (by omega)
  ⟨by simp, by simp, (fun q hq => by cases hq), (fun j hj => by omega), trivial, (fun y => by rw [z y, tot_nil]; omega), z 0, (fun j hj => by omega), by rw [tot_nil]; omega, fun q hq => by cases hq⟩
 have g : l_recall_List_4 fuel p t (t.length : Int) 0 [((-1), ((-1), (-1)))] (List.replicate t.length 0) = _ := g
 rw [g]
 exact ⟨bs, b, rfl, h⟩
theorem first_ret (t : List Nd) (hn : t.length ≤ 120) (p x : Int) (j : Nat) (hj : j < t.length) (ho : own t p j) (he : inf t j = x) (hf : ∀ k, k < j → ¬ (own t p k ∧ inf t k = x)) : ∀ (m i : Nat), i ≤ j → t.length < m + i →
  l_slices_IndexFunc_TreeNode__tree_Sets_2 m t (t.length : Int) (i : Int) p x = some (.ret ((j : Int), p, x, ()))
 | 0, i, h1, h2 => by omega
 | m + 1, i, h1, h2 => by
  have e4 : IntKind.i64.wrap ((i : Int) + 1) = ((i + 1 : Nat) : Int) := by rw [w64 _ (by omega) (by omega)]; omega
  simp only [l_slices_IndexFunc_TreeNode__tree_Sets_2]
  rw [if_pos (by simp; omega), if_pos (by omega), if_pos (by omega), Int.toNat_natCast, e4]
  by_cases hi : i = j
  ·subst hi
   rw [if_pos (beq_iff_eq.2 ho.1), if_pos (beq_iff_eq.2 ho.2), if_pos (beq_iff_eq.2 he)]
  ·have ih := first_ret t hn p x j hj ho he hf m (i + 1) (by omega) (by omega)
   have hno := hf i (by omega)
   by_cases c1 : (nd t i).1 = 2
   ·rw [if_pos (beq_iff_eq.2 c1)]
    by_cases c2 : (nd t i).2.1 = p
    ·rw [if_pos (beq_iff_eq.2 c2), if_neg (fun h => hno ⟨⟨c1, c2⟩, beq_iff_eq.1 h⟩)]
     exact ih
    ·rw [if_neg (fun h => c2 (beq_iff_eq.1 h))]; exact ih
   ·rw [if_neg (fun h => c1 (beq_iff_eq.1 h))]; exact ih
theorem first_exit (t : List Nd) (hn : t.length ≤ 120) (p x : Int) (hf : ∀ k, k < t.length → ¬ (own t p k ∧ inf t k = x)) : ∀ (m i : Nat), i ≤ t.length → t.length < m + i →
  l_slices_IndexFunc_TreeNode__tree_Sets_2 m t (t.length : Int) (i : Int) p x = some (.exit (p, x, ()))
 | 0, i, h1, h2 => by omega
 | m + 1, i, h1, h2 => by
  simp only [l_slices_IndexFunc_TreeNode__tree_Sets_2]
  by_cases hi : i < t.length
  ·have e4 : IntKind.i64.wrap ((i : Int) + 1) = ((i + 1 : Nat) : Int) := by rw [w64 _ (by omega) (by omega)]; omega
   rw [if_pos (by simpa using hi), if_pos (by omega), if_pos (by omega), Int.toNat_natCast, e4]
   have ih := first_exit t hn p x hf m (i + 1) (by omega) (by omega)
   have hno := hf i (by omega)
   by_cases c1 : (nd t i).1 = 2
   ·rw [if_pos (beq_iff_eq.2 c1)]
    by_cases c2 : (nd t i).2.1 = p
    ·rw [if_pos (beq_iff_eq.2 c2), if_neg (fun h => hno ⟨⟨c1, c2⟩, beq_iff_eq.1 h⟩)]
     exact ih
    ·rw [if_neg (fun h => c2 (beq_iff_eq.1 h))]; exact ih
   ·rw [if_neg (fun h => c1 (beq_iff_eq.1 h))]; exact ih
  ·rw [if_neg (by simpa using hi)]
def wid (t : List Nd) (p x : Int) : Option Nat := ((List.range t.length).find? fun j => decide (own t p j ∧ inf t j = x)).map fun j => (nx (nd t j)).length
theorem wid_some {t : List Nd} {p x : Int} {w : Nat} : wid t p x = some w ↔ ∃ j, j < t.length ∧ own t p j ∧ inf t j = x ∧ w = (nx (nd t j)).length ∧ ∀ k, k < j → ¬ (own t p k ∧ inf t k = x) := by
 unfold wid
 rw [Option.map_eq_some_iff]
 constructor
 ·rintro ⟨j, h, rfl⟩
  rw [List.find?_range_eq_some] at h
  obtain ⟨h1, h2, h3⟩ := h
  have h1 := of_decide_eq_true h1
  exact ⟨j, List.mem_range.1 h2, h1.1, h1.2, rfl, fun k hk hh => by have := h3 k hk; rw [decide_eq_true hh] at this; cases this⟩
 ·rintro ⟨j, h1, h2, h3, rfl, h5⟩
  refine ⟨j, ?_, rfl⟩
  rw [List.find?_range_eq_some]
  exact ⟨decide_eq_true ⟨h2, h3⟩, List.mem_range.2 h1, fun k hk => by rw [decide_eq_false (h5 k hk)]; rfl⟩
theorem wid_none {t : List Nd} {p x : Int} (h : wid t p x = none) : ∀ k, k < t.length → ¬ (own t p k ∧ inf t k = x) := by
 unfold wid at h
 rw [Option.map_eq_none_iff, List.find?_eq_none] at h
 intro k hk hh
 exact h k (List.mem_range.2 hk) (decide_eq_true hh)
def sets (t : List Nd) (p : Int) (k : Nat) : List (Int × Nat) := (List.range k).filterMap fun (x : Nat) => (wid t p (x : Int)).map fun w => ((x : Int), w)
theorem sets_succ (t : List Nd) (p : Int) (k : Nat) : sets t p (k + 1) = sets t p k ++ (match wid t p (k : Int) with | some w => [((k : Int), w)] | none => []) := by
 unfold sets
 rw [List.range_succ, List.filterMap_append]
 congr 1
 cases h : wid t p (k : Int) <;> simp [h]
theorem sets_length (t : List Nd) (p : Int) (k : Nat) : (sets t p k).length ≤ k := by
 unfold sets
 exact Nat.le_trans (List.length_filterMap_le ..) (by simp)
theorem sets_loop {t : List Nd} (hn : t.length ≤ 120) (p : Int) : ∀ (m k : Nat), k ≤ 10 → 200 < m + k →
  l_tree_Sets_3 m t (k : Int) p ((sets t p k).map (·.1)) (zs ((sets t p k).map (·.2))) = some (.exit ((sets t p 10).map (·.1), zs ((sets t p 10).map (·.2)), p, ()))
 | 0, k, h1, h2 => by omega
 | m + 1, k, h1, h2 => by
  simp only [l_tree_Sets_3]
  by_cases hk : k < 10
  ·have e4 : IntKind.i64.wrap ((k : Int) + 1) = ((k + 1 : Nat) : Int) := by rw [w64 _ (by omega) (by omega)]; omega
   rw [if_pos (by simp; omega), e4]
   have ih := sets_loop hn p m (k + 1) (by omega) (by omega)
   rw [sets_succ t p k] at ih
   have hl := sets_length t p k
   cases h : wid t p (k : Int) with
   | none =>
    have g := first_exit t hn p (k : Int) (wid_none h) m 0 (by omega) (by omega)
    have g : l_slices_IndexFunc_TreeNode__tree_Sets_2 m t (t.length : Int) 0 p (k : Int) = _ := g
    rw [g]
    rw [h, List.append_nil] at ih
    exact ih
   | some w =>
    obtain ⟨j, hj, ho, he, hw, hf⟩ := wid_some.1 h
    have g := first_ret t hn p (k : Int) j hj ho he hf m 0 (by omega) (by omega)
    have g : l_slices_IndexFunc_TreeNode__tree_Sets_2 m t (t.length : Int) 0 p (k : Int) = _ := g
    rw [g]
    simp only
    rw [if_pos (decide_eq_true (show (j : Int) ≥ 0 by omega)), if_pos (show (0 : Int) ≤ (j : Int) by omega), if_pos (show (j : Int) < (t.length : Int) by omega), if_pos (by rw [List.length_map]; omega), if_pos (by rw [length_zs, List.length_map]; omega), Int.toNat_natCast]
    rw [h] at ih
    simp only [List.map_append, List.map_cons, List.map_nil] at ih
    rw [hw] at ih
    exact ih
  ·rw [if_neg (by simp; omega)]
   have : k = 10 := by omega
   subst this
   rfl
theorem sets_ok {t : List Nd} (hv : V t) (p : Int) : f_tree_Sets fuel t p = some ((sets t p 10).map (·.1), zs ((sets t p 10).map (·.2))) := by
 have hf := fuel_ge (n := 2 ^ 100) (by decide)
 unfold f_tree_Sets
 have g := sets_loop hv.len p fuel 0 (by omega) (by omega)
 have g : l_tree_Sets_3 fuel t 0 p [] [] = _ := g
 rw [g]
theorem sets_mem {t : List Nd} {p : Int} {k : Nat} {q : Int × Nat} : q ∈ sets t p k ↔ 0 ≤ q.1 ∧ q.1 < k ∧ wid t p q.1 = some q.2 := by
 unfold sets
 rw [List.mem_filterMap]
 constructor
 ·rintro ⟨x, hx, h⟩
  rw [Option.map_eq_some_iff] at h
  obtain ⟨w, hw, rfl⟩ := h
  have := List.mem_range.1 hx
  exact ⟨by simp, by simp; omega, hw⟩
 ·rintro ⟨h1, h2, h3⟩
  obtain ⟨x, hx⟩ := Int.eq_ofNat_of_zero_le h1
  refine ⟨x, List.mem_range.2 (by omega), ?_⟩
  rw [← hx, h3]; rfl
theorem sets_nodup (t : List Nd) (p : Int) (k : Nat) : ((sets t p k).map (·.1)).Nodup := by
 induction k with
 | zero => simp [sets]
 | succ k ih =>
  rw [sets_succ]
  cases h : wid t p (k : Int) with
  | none => rw [List.append_nil]; exact ih
  | some w =>
   rw [List.map_append, List.nodup_append]
   refine ⟨ih, by simp, fun x hx y hy e => ?_⟩
   rw [List.mem_map] at hx
   obtain ⟨q, hq, rfl⟩ := hx
   have := sets_mem.1 hq
   simp only [List.map_cons, List.map_nil, List.mem_singleton] at hy
   omega
theorem blocks_sets {t : List Nd} (hv : V t) {p : Int} {bs : List Bk} {b : List Int} (h : LI t p t.length bs b) : (bs.map fun q => (q.1, q.2.1)).Perm (sets t p 10) := by
 have n1 : (bs.map fun q => (q.1, q.2.1)).Nodup := by
  have := h.nodup
  have e : bs.map (·.1) = (bs.map fun q => (q.1, q.2.1)).map (·.1) := by rw [List.map_map]; rfl
  rw [e] at this
  exact List.Pairwise.of_map (·.1) (fun a b hab e => hab (by rw [e])) this
 have n2 : (sets t p 10).Nodup := List.Pairwise.of_map (·.1) (fun a b hab e => hab (by rw [e])) (sets_nodup t p 10)
 rw [List.perm_ext_iff_of_nodup n1 n2]
 rintro ⟨x, w⟩
 rw [sets_mem, List.mem_map]
 constructor
 ·rintro ⟨q, hq, e⟩
  cases e
  have hw := li_width hv (Nat.le_refl _) h hq
  obtain ⟨j, hj, ho, he, hwj, hf⟩ := h.blk q hq
  refine ⟨hw.2.2.1, by simpa using hw.2.2.2, wid_some.2 ⟨j, hj, ho, he, hwj, fun k hk hh => hf k hk hh.1 hh.2⟩⟩
 ·rintro ⟨h1, h2, h3⟩
  obtain ⟨j, hj, ho, he, hw, hf⟩ := wid_some.1 h3
  obtain ⟨k, hk⟩ := h.all j hj ho
  obtain ⟨pre, q, post, e1, e2, _, _⟩ := fst?_some hk
  have hq : q ∈ bs := by rw [e1]; simp
  obtain ⟨j', hj', ho', he', hw', hf'⟩ := h.blk q hq
  have : j = j' := by
   rcases Nat.lt_trichotomy j j' with hlt | rfl | hlt
   ·exact absurd (he.trans (by rw [e2]; exact he.symm ▸ rfl)) (hf' j hlt ho)
   ·rfl
   ·exact absurd ⟨ho', by rw [he', e2, he]⟩ (hf j' hlt)
  subst this
  exact ⟨q, hq, by simp only [Prod.mk.injEq]; exact ⟨by rw [e2]; exact he, hw'.trans hw.symm⟩⟩
end Go.Proofs.YtbcooccafbccdaaGreatDoor
