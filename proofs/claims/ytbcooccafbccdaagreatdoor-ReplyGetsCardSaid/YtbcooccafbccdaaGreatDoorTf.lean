/- What List makes of a valid game: the sequences of a player, and the sequence of each node. -/
import Derived.Test.YtbcooccafbccdaaGreatDoorTe
namespace Go.Proofs.YtbcooccafbccdaaGreatDoor
open Go Vm
abbrev xx (s : List Sq) (x : Nd) (k : Int) : Int × (List Sq × (Int × (Int × (Int × (List Int × (List ByteArray × (ByteArray × Unit))))))) := (k, s, x.1, x.2.1, x.2.2.1, x.2.2.2.1, x.2.2.2.2.1, x.2.2.2.2.2, ())
theorem find_ret (s : List Sq) (x : Nd) (hs : s.length ≤ 1000000) (j : Nat) (hj : j < s.length) (he : (s.getD j sz0).1 = x.2.2.1) (hn : ∀ k, k < j → (s.getD k sz0).1 ≠ x.2.2.1) : ∀ (m i : Nat), i ≤ j → s.length < m + i →
  l_slices_IndexFunc_RecallSeq__recall_List_2 m (s.length : Int) (i : Int) s x.1 x.2.1 x.2.2.1 x.2.2.2.1 x.2.2.2.2.1 x.2.2.2.2.2 = some (.ret (xx s x (j : Int)))
 | 0, i, h1, h2 => by omega
 | m + 1, i, h1, h2 => by
  have e4 : IntKind.i64.wrap ((i : Int) + 1) = ((i + 1 : Nat) : Int) := by rw [w64 _ (by omega) (by omega)]; omega
  simp only [l_slices_IndexFunc_RecallSeq__recall_List_2]
  rw [if_pos (by simp; omega), if_pos (by omega), if_pos (by omega), Int.toNat_natCast, e4]
  by_cases hi : i = j
  ·subst hi
   rw [if_pos (beq_iff_eq.2 he)]
   rfl
  ·rw [if_neg (fun h => hn i (by omega) (beq_iff_eq.1 h))]
   exact find_ret s x hs j hj he hn m (i + 1) (by omega) (by omega)
theorem find_exit (s : List Sq) (x : Nd) (hs : s.length ≤ 1000000) (hn : ∀ k, k < s.length → (s.getD k sz0).1 ≠ x.2.2.1) : ∀ (m i : Nat), i ≤ s.length → s.length < m + i →
  l_slices_IndexFunc_RecallSeq__recall_List_2 m (s.length : Int) (i : Int) s x.1 x.2.1 x.2.2.1 x.2.2.2.1 x.2.2.2.2.1 x.2.2.2.2.2 = some (.exit (s, x.1, x.2.1, x.2.2.1, x.2.2.2.1, x.2.2.2.2.1, x.2.2.2.2.2, ()))
 | 0, i, h1, h2 => by omega
 | m + 1, i, h1, h2 => by
  simp only [l_slices_IndexFunc_RecallSeq__recall_List_2]
  by_cases hi : i < s.length
  ·have e4 : IntKind.i64.wrap ((i : Int) + 1) = ((i + 1 : Nat) : Int) := by rw [w64 _ (by omega) (by omega)]; omega
   rw [if_pos (by simpa using hi), if_pos (by omega), if_pos (by omega), Int.toNat_natCast, e4, if_neg (fun h => hn i hi (beq_iff_eq.1 h))]
   exact find_exit s x hs hn m (i + 1) (by omega) (by omega)
  ·rw [if_neg (by simpa using hi)]
theorem sqs_ne {bs : List Bk} {x : Int} (h0 : 0 ≤ x) (h : x ∉ bs.map (·.1)) : ∀ k, k < (sqs bs).length → ((sqs bs).getD k sz0).1 ≠ x := by
 intro k hk e
 rw [getD_eq _ k _ hk] at e
 cases k with
 | zero =>
  have : (-1 : Int) = x := e
  omega
 | succ k =>
  have : ((sqs bs)[k + 1]).1 ∈ bs.map (·.1) := flat_mem (by simp only [sqs, List.getElem_cons_succ]; exact List.getElem_mem _)
  rw [e] at this
  exact h this
theorem find_ok (bs : List Bk) (x : Nd) (h0 : 0 ≤ x.2.2.1) (hw : ∀ q, q ∈ bs → 0 < q.2.1) (hs : tot bs ≤ 10000) (m : Nat) (hm : tot bs + 1 < m) :
  (∃ k, fst? bs x.2.2.1 = some k ∧ l_slices_IndexFunc_RecallSeq__recall_List_2 m ((sqs bs).length : Int) 0 (sqs bs) x.1 x.2.1 x.2.2.1 x.2.2.2.1 x.2.2.2.2.1 x.2.2.2.2.2 = some (.ret (xx (sqs bs) x ((k + 1 : Nat) : Int)))) ∨
  (fst? bs x.2.2.1 = none ∧ l_slices_IndexFunc_RecallSeq__recall_List_2 m ((sqs bs).length : Int) 0 (sqs bs) x.1 x.2.1 x.2.2.1 x.2.2.2.1 x.2.2.2.2.1 x.2.2.2.2.2 = some (.exit (sqs bs, x.1, x.2.1, x.2.2.1, x.2.2.2.1, x.2.2.2.2.1, x.2.2.2.2.2, ()))) := by
 have hl := sqs_length bs
 cases hf : fst? bs x.2.2.1 with
 | none => exact .inr ⟨rfl, find_exit (sqs bs) x (by omega) (sqs_ne h0 (fst?_none hf)) m 0 (by omega) (by omega)⟩
 | some k =>
  obtain ⟨pre, q, post, rfl, h2, rfl, h4⟩ := fst?_some hf
  have hq := hw q (by simp)
  have ht : tot (pre ++ q :: post) = tot pre + (q.2.1 + tot post) := by rw [tot_append, tot_cons]
  refine .inl ⟨_, rfl, find_ret (sqs (pre ++ q :: post)) x (by omega) (tot pre + 1) (by omega) ?_ (fun k hk => ?_) m 0 (by omega) (by omega)⟩
  ·have := sqs_at pre post q 0 hq
   rw [Nat.add_zero] at this
   rw [this]; exact h2
  ·have e : (sqs (pre ++ q :: post)).getD k sz0 = (sqs pre).getD k sz0 := by
    rw [List.getD_eq_getElem?_getD, List.getD_eq_getElem?_getD, sqs, sqs, List.flatMap_append, ← List.cons_append, List.getElem?_append_left (by rw [List.length_cons, flat_length]; omega)]
   rw [e]
   exact sqs_ne h0 h4 k (by rw [sqs_length]; omega)
theorem app_loop (i : Nat) (x : Nd) (w : Nat) (at' : List Int) (hi : i < at'.length) (q : Bk) (hq : q.1 = x.2.2.1) (hb : (q.2.2 : Int) = at'.getD i 0) (hw : w ≤ 6) : ∀ (m c : Nat) (s : List Sq), c ≤ w → w < m + c → s.length + (w - c) ≤ 100000 →
  l_recall_List_13 m (i : Int) (w : Int) (c : Int) s at' x.1 x.2.1 x.2.2.1 x.2.2.2.1 x.2.2.2.2.1 x.2.2.2.2.2 = some (.exit (s ++ blkAt q c (w - c), at', x.1, x.2.1, x.2.2.1, x.2.2.2.1, x.2.2.2.2.1, x.2.2.2.2.2, ()))
 | 0, c, s, h1, h2, _ => by omega
 | m + 1, c, s, h1, h2, h3 => by
  simp only [l_recall_List_13]
  by_cases hc : c < w
  ·have e4 : IntKind.i64.wrap ((c : Int) + 1) = ((c + 1 : Nat) : Int) := by rw [w64 _ (by omega) (by omega)]; omega
   rw [if_pos (by simpa using hc), if_pos (by omega), if_pos (by omega), if_pos (by omega), Int.toNat_natCast, e4, app_loop i x w at' hi q hq hb hw m (c + 1) _ (by omega) (by omega) (by rw [List.length_append, List.length_singleton]; omega)]
   obtain ⟨r, hr⟩ : ∃ r, w - c = r + 1 := ⟨w - c - 1, by omega⟩
   rw [hr, show w - (c + 1) = r by omega, List.append_assoc]
   simp only [blkAt, List.range'_succ, List.map_cons, List.singleton_append, hq, hb]
  ·rw [if_neg (by simpa using hc), show w - c = 0 by omega]
   simp [blkAt]
def kidsSet : List Int → (Nat → Int) → Nat → List Int → List Int
 | [], _, _, b => b
 | k :: L, f, j, b => kidsSet L f (j + 1) (b.set k.toNat (f j))
theorem kidsSet_length : ∀ (L : List Int) (f : Nat → Int) (j : Nat) (b : List Int), (kidsSet L f j b).length = b.length
 | [], _, _, _ => rfl
 | k :: L, f, j, b => by rw [kidsSet, kidsSet_length L f, List.length_set]
theorem kidsSet_ne : ∀ {L : List Int} {f : Nat → Int} {j : Nat} {b : List Int} {y : Nat}, (∀ k, k ∈ L → k.toNat ≠ y) → (kidsSet L f j b).getD y 0 = b.getD y 0
 | [], _, _, _, _, _ => rfl
 | k :: L, f, j, b, y, h => by
  rw [kidsSet, kidsSet_ne fun k' hk => h k' (List.mem_cons_of_mem _ hk), getD_set_ne' _ _ _ _ _ (h k (List.mem_cons_self ..))]
theorem kidsSet_at : ∀ {L : List Int} {f : Nat → Int} {j : Nat} {b : List Int}, L.Nodup → (∀ k, k ∈ L → 0 ≤ k ∧ k.toNat < b.length) → ∀ {c : Nat} {k : Int}, L[c]? = some k → (kidsSet L f j b).getD k.toNat 0 = f (j + c)
 | [], _, _, _, _, _, c, k, h => by simp at h
 | k0 :: L, f, j, b, hn, hb, 0, k, h => by
  simp only [List.getElem?_cons_zero, Option.some.injEq] at h
  subst h
  rw [List.nodup_cons] at hn
  have h0 := hb k0 (List.mem_cons_self ..)
  rw [kidsSet, kidsSet_ne fun k' hk e => hn.1 (by
    have h1 := hb k' (List.mem_cons_of_mem _ hk)
    rwa [show k0 = k' by omega]), getD_set_eq' _ _ _ _ h0.2]
  rfl
 | k0 :: L, f, j, b, hn, hb, c + 1, k, h => by
  rw [List.getElem?_cons_succ] at h
  rw [List.nodup_cons] at hn
  rw [kidsSet, kidsSet_at hn.2 (fun k' hk => by rw [List.length_set]; exact hb k' (List.mem_cons_of_mem _ hk)) h]
  congr 1; omega
theorem kidsSet_all {P : Int → Prop} : ∀ (L : List Int) (f : Nat → Int) (j : Nat) (b : List Int), (∀ y, P (b.getD y 0)) → (∀ c, j ≤ c → c < j + L.length → P (f c)) → ∀ y, P ((kidsSet L f j b).getD y 0)
 | [], _, _, _, h, _, y => h y
 | k :: L, f, j, b, h, hf, y => by
  rw [kidsSet]
  refine kidsSet_all L f (j + 1) _ (fun y => ?_) (fun c h1 h2 => hf c (by omega) (by rw [List.length_cons]; omega)) y
  by_cases hk : k.toNat < b.length
  ·by_cases e : y = k.toNat
   ·rw [e, getD_set_eq' _ _ _ _ hk]; exact hf j (by omega) (by rw [List.length_cons]; omega)
   ·rw [getD_set_ne' _ _ _ _ _ (fun h => e h.symm)]; exact h y
  ·rw [List.set_eq_of_length_le (by omega)]; exact h y
theorem kids_loop (i n : Nat) (hi : i < n) (hn : n ≤ 1000) (L : List Int) (hL : L.length ≤ 6) (hk : ∀ k, k ∈ L → (i : Int) < k ∧ k < (n : Int)) (o : Bool) (f : Int) (hf : -1 ≤ f ∧ f ≤ 100000) (v : Int) : ∀ (m j : Nat) (b : List Int), j ≤ L.length → L.length < m + j → b.length = n → b.getD i 0 = v →
  l_recall_List_18 m (i : Int) o f L (L.length : Int) (j : Int) b = some (.exit (kidsSet (L.drop j) (fun j => if o = true then f + (j : Int) else v) j b, ()))
 | 0, j, b, h1, h2, _, _ => by omega
 | m + 1, j, b, h1, h2, h3, h4 => by
  simp only [l_recall_List_18]
  by_cases hj : j < L.length
  ·have e4 : IntKind.i64.wrap ((j : Int) + 1) = ((j + 1 : Nat) : Int) := by rw [w64 _ (by omega) (by omega)]; omega
   have hmem : L.getD j 0 ∈ L := by rw [getD_eq _ j 0 hj]; exact List.getElem_mem hj
   obtain ⟨k0, k1⟩ := hk _ hmem
   obtain ⟨k, ek⟩ := Int.eq_ofNat_of_zero_le (show 0 ≤ L.getD j 0 by omega)
   rw [if_pos (by simpa using hj), if_pos (by omega), if_pos (by omega), if_pos (by omega), if_pos (by omega), Int.toNat_natCast, Int.toNat_natCast, ek, if_pos (by omega), if_pos (by omega), e4, Int.toNat_natCast, h4]
   have hd : L.drop j = (k : Int) :: L.drop (j + 1) := by rw [List.drop_eq_getElem_cons hj, ← getD_eq L j 0 hj, ek]
   rw [hd, kidsSet, Int.toNat_natCast]
   have hki : k ≠ i := by omega
   cases o with
   | true =>
    rw [if_pos rfl, if_pos (by omega), if_pos (by rw [List.length_set]; omega), w64 _ (by omega) (by omega), List.set_set]
    exact kids_loop i n hi hn L hL hk true f hf v m (j + 1) _ (by omega) (by omega) (by rw [List.length_set]; exact h3) (by rw [getD_set_ne' _ _ _ _ _ hki]; exact h4)
   | false =>
    rw [if_neg (by decide)]
    exact kids_loop i n hi hn L hL hk false f hf v m (j + 1) _ (by omega) (by omega) (by rw [List.length_set]; exact h3) (by rw [getD_set_ne' _ _ _ _ _ hki]; exact h4)
  ·rw [if_neg (by simpa using hj), List.drop_of_length_le (by omega)]
   rfl
theorem inc_mono (t : List Nd) (x : Nat) : ∀ {i j : Nat}, i ≤ j → inc t x i ≤ inc t x j
 | i, 0, h => by have : i = 0 := by omega
                 rw [this]; exact Nat.le_refl _
 | i, j + 1, h => by
  by_cases e : i = j + 1
  ·rw [e]; exact Nat.le_refl _
  ·exact Nat.le_trans (inc_mono t x (show i ≤ j by omega)) (by simp only [inc]; omega)
theorem count_le_inc {t : List Nd} {x i n : Nat} (h : i < n) : (nx (nd t i)).count (x : Int) ≤ inc t x n :=
 Nat.le_trans (by simp only [inc]; omega) (inc_mono t x (show i + 1 ≤ n by omega))
theorem kids_nodup {t : List Nd} (hv : V t) {i : Nat} (hi : i < t.length) : (nx (nd t i)).Nodup := by
 rw [List.nodup_iff_count]
 intro k
 by_cases hm : k ∈ nx (nd t i)
 ·have h := good_kids (hv.good i hi) k hm
  have := hv.one k.toNat (by omega) (by omega)
  have h2 := count_le_inc (t := t) (x := k.toNat) hi
  rw [show ((k.toNat : Nat) : Int) = k by omega] at h2
  omega
 ·rw [List.count_eq_zero.2 hm]; omega
theorem kids_apart {t : List Nd} (hv : V t) {i j : Nat} (hij : i < j) (hj : j < t.length) {k : Int} (h1 : k ∈ nx (nd t i)) : k ∉ nx (nd t j) := by
 intro h2
 have h := good_kids (hv.good j hj) k h2
 have ho := hv.one k.toNat (by omega) (by omega)
 have e : ((k.toNat : Nat) : Int) = k := by omega
 have g2 := inc_mono t k.toNat (show j + 1 ≤ t.length by omega)
 have g1 := count_le_inc (t := t) (x := k.toNat) hij
 have c1 : 0 < (nx (nd t i)).count ((k.toNat : Nat) : Int) := List.count_pos_iff.2 (by rw [e]; exact h1)
 have c2 : 0 < (nx (nd t j)).count ((k.toNat : Nat) : Int) := List.count_pos_iff.2 (by rw [e]; exact h2)
 simp only [inc] at g2
 omega
structure LI (t : List Nd) (p : Int) (i : Nat) (bs : List Bk) (b : List Int) : Prop where
 len : b.length = t.length
 nodup : (bs.map (·.1)).Nodup
 blk : ∀ q, q ∈ bs → ∃ j, j < i ∧ own t p j ∧ inf t j = q.1 ∧ q.2.1 = (nx (nd t j)).length ∧ ∀ j', j' < j → own t p j' → inf t j' ≠ q.1
 all : ∀ j, j < i → own t p j → ∃ k, fst? bs (inf t j) = some k
 bef : BefOk 1 bs
 bound : ∀ y, 0 ≤ b.getD y 0 ∧ b.getD y 0 < (tot bs + 1 : Nat)
 root : b.getD 0 0 = 0
 kid : ∀ j, j < i → ∀ (c : Nat) (k : Int), (nx (nd t j))[c]? = some k → b.getD k.toNat 0 = if own t p j then (((fst? bs (inf t j)).getD 0 + 1 : Nat) : Int) + (c : Int) else b.getD j 0
 total : tot bs ≤ 6 * i
 frm : ∀ q, q ∈ bs → ∃ j, j < i ∧ own t p j ∧ inf t j = q.1 ∧ b.getD j 0 = (q.2.2 : Int)
theorem own_kids {t : List Nd} (hv : V t) {i : Nat} (hi : i < t.length) {p : Int} (ho : own t p i) : Kids t i ∧ 0 ≤ inf t i ∧ inf t i < 10 := by
 rcases hv.good i hi with ⟨h, _⟩ | ⟨h, _⟩ | ⟨_, h1, _, _, h2, h3⟩
 ·have := ho.1; omega
 ·have := ho.1; omega
 ·exact ⟨h1, h2, h3⟩
theorem li_width {t : List Nd} (hv : V t) {p : Int} {i : Nat} (hi : i ≤ t.length) {bs : List Bk} {b : List Int} (h : LI t p i bs b) {q : Bk} (hq : q ∈ bs) : 0 < q.2.1 ∧ q.2.1 ≤ 6 ∧ 0 ≤ q.1 ∧ q.1 < 10 := by
 obtain ⟨j, hj, ho, he, hw, _⟩ := h.blk q hq
 obtain ⟨⟨h1, h2, _⟩, h3, h4⟩ := own_kids hv (show j < t.length by omega) ho
 have : 0 < (nx (nd t j)).length := List.length_pos_iff.2 h1
 omega
theorem li_step {t : List Nd} (hv : V t) {p : Int} {i : Nat} (hi : i < t.length) {bs : List Bk} {b : List Int} (h : LI t p i bs b) (bs' : List Bk) (e : List Bk) (hbs : bs' = bs ++ e)
  (hnd : (bs'.map (·.1)).Nodup) (hblk : ∀ q, q ∈ e → q.1 = inf t i ∧ own t p i ∧ q.2.1 = (nx (nd t i)).length ∧ (∀ j', j' < i → own t p j' → inf t j' ≠ q.1) ∧ b.getD i 0 = (q.2.2 : Int)) (hbef : BefOk 1 bs') (htot : tot bs' ≤ tot bs + 6)
  (f : Nat) (hf : own t p i → fst? bs' (inf t i) = some f) (hfb : own t p i → f + (nx (nd t i)).length ≤ tot bs') (b' : List Int)
  (hb' : b' = kidsSet (nx (nd t i)) (fun c => if own t p i then ((f + 1 : Nat) : Int) + (c : Int) else b.getD i 0) 0 b) : LI t p (i + 1) bs' b' := by
 have hk := good_kids (hv.good i hi)
 have ht : tot bs ≤ tot bs' := by rw [hbs, tot_append]; omega
 have keep : ∀ y, y ≤ i → b'.getD y 0 = b.getD y 0 := fun y hy => by
  rw [hb']; exact kidsSet_ne fun k hkm => by have := hk k hkm; omega
 refine ⟨by rw [hb', kidsSet_length]; exact h.len, hnd, fun q hq => ?_, fun j hj ho => ?_, hbef, fun y => ?_, by rw [keep 0 (by omega)]; exact h.root, fun j hj c k hck => ?_, by have := h.total; omega, fun q hq => ?_⟩
 ·rw [hbs, List.mem_append] at hq
  rcases hq with hq | hq
  ·obtain ⟨j, hj, h1⟩ := h.blk q hq
   exact ⟨j, by omega, h1⟩
  ·obtain ⟨h1, h2, h3, h4, _⟩ := hblk q hq
   exact ⟨i, by omega, h2, h1.symm, h3, h4⟩
 ·by_cases e : j = i
  ·subst e; exact ⟨f, hf ho⟩
  ·obtain ⟨k, hk⟩ := h.all j (by omega) ho
   exact ⟨k, by rw [hbs]; exact fst?_append hk⟩
 ·have hall := kidsSet_all (P := fun z => 0 ≤ z ∧ z < ((tot bs' + 1 : Nat) : Int)) (nx (nd t i)) (fun c => if own t p i then ((f + 1 : Nat) : Int) + (c : Int) else b.getD i 0) 0 b
   (fun y => by have := h.bound y; omega) (fun c _ hc => by
     by_cases ho : own t p i
     · simp only [if_pos ho]
       have := hfb ho
       omega
     · simp only [if_neg ho]
       have := h.bound i; omega) y
  rw [hb']; exact hall
 ·by_cases e : j = i
  ·subst e
   rw [keep j (by omega)]
   have := kidsSet_at (f := fun c => if own t p j then ((f + 1 : Nat) : Int) + (c : Int) else b.getD j 0) (j := 0) (b := b) (kids_nodup hv hi) (fun k hkm => by have := hk k hkm; have := h.len; omega) hck
   rw [hb', this, Nat.zero_add]
   by_cases ho : own t p j
   ·simp only [if_pos ho, hf ho, Option.getD_some]
   ·simp only [if_neg ho]
  ·have hjl : j < i := by omega
   have hm : k ∈ nx (nd t j) := List.mem_of_getElem? hck
   have ap := kids_apart hv hjl hi hm
   have hkj := good_kids (hv.good j (by omega)) k hm
   have h1 : b'.getD k.toNat 0 = b.getD k.toNat 0 := by
    rw [hb']
    refine kidsSet_ne fun k' hk' e => ap ?_
    have := hk k' hk'
    rwa [show k = k' by omega]
   rw [h1, h.kid j hjl c k hck, keep j (by omega)]
   by_cases ho : own t p j
   ·obtain ⟨f', hf'⟩ := h.all j hjl ho
    rw [if_pos ho, if_pos ho, hf', hbs, fst?_append hf']
   ·rw [if_neg ho, if_neg ho]
 ·rw [hbs, List.mem_append] at hq
  rcases hq with hq | hq
  ·obtain ⟨j, hj, h1, h2, h3⟩ := h.frm q hq
   exact ⟨j, by omega, h1, h2, by rw [keep j (by omega)]; exact h3⟩
  ·obtain ⟨h1, h2, _, _, h5⟩ := hblk q hq
   exact ⟨i, by omega, h2, h1.symm, by rw [keep i (by omega)]; exact h5⟩
end Go.Proofs.YtbcooccafbccdaaGreatDoor
