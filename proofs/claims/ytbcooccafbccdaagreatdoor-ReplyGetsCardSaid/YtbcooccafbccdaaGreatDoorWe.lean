/- Perfect recall: what a player did on the way to a node is told by its sequence. -/
import Derived.Test.YtbcooccafbccdaaGreatDoorWc
namespace Go.Proofs.YtbcooccafbccdaaGreatDoor
open Go Vm
theorem paths_in' (p : Int) (i n : Nat) (hi : i < n) (hn : n ≤ 1000) (x : Nd) (hL : (nx x).length ≤ 6) (hk : ∀ k, k ∈ nx x → (i : Int) < k ∧ k < (n : Int)) (v : List (Int × Int)) (hv : v.length ≤ 1000) : ∀ (m j : Nat) (b : List (List (Int × Int))) (f : Nat → List (Int × Int)), j ≤ (nx x).length → (nx x).length < m + j → b.length = n → (∀ y, b.getD y [] = f y) → f i = v →
  ∃ b' d, b'.length = n ∧ (∀ y, b'.getD y [] = kset ((nx x).drop j) (fun c => if x.1 = 2 ∧ x.2.1 = p then v ++ [(x.2.2.1, (c : Int))] else v) j f y) ∧ l_recall_paths_6 m p (i : Int) (nx x) ((nx x).length : Int) (j : Int) b x.1 x.2.1 x.2.2.1 x.2.2.2.1 x.2.2.2.2.1 x.2.2.2.2.2 = some (.exit (b', d))
 | 0, j, b, f, h1, h2, _, _, _ => by omega
 | m + 1, j, b, f, h1, h2, h3, h4, h5 => by
  simp only [l_recall_paths_6]
  by_cases hj : j < (nx x).length
  ·have e4 : IntKind.i64.wrap ((j : Int) + 1) = ((j + 1 : Nat) : Int) := by rw [w64 _ (by omega) (by omega)]; omega
   have hmem : (nx x).getD j 0 ∈ nx x := by rw [getD_eq _ j 0 hj]; exact List.getElem_mem hj
   obtain ⟨k0, k1⟩ := hk _ hmem
   obtain ⟨k, ek⟩ := Int.eq_ofNat_of_zero_le (show 0 ≤ (nx x).getD j 0 by omega)
   have hdr : (nx x).drop j = (nx x).getD j 0 :: (nx x).drop (j + 1) := by rw [List.drop_eq_getElem_cons hj, getD_eq _ j 0 hj]
   rw [hdr, kset]
   simp only [Int.toNat_natCast]
   rw [ek]
   have hki : k ≠ i := by omega
   have hkn : k < n := by omega
   rw [if_pos (decide_eq_true (show (j : Int) < ((nx x).length : Int) by omega)), if_pos (show (0 : Int) ≤ (j : Int) by omega), if_pos (show (j : Int) < ((nx x).length : Int) by omega), if_pos (show (0 : Int) ≤ (i : Int) by omega), if_pos (show (i : Int) < (b.length : Int) by omega), if_pos (show (0 : Int) ≤ (k : Int) by omega), if_pos (show (k : Int) < (b.length : Int) by omega), e4]
   simp only [Int.toNat_natCast, List.length_set]
   have hb1 : (b.set k (b.getD i [])).getD i [] = v := by rw [getD_set_ne' _ _ _ _ _ hki, h4, h5]
   have next : ∀ (b' : List (List (Int × Int))) (w : List (Int × Int)), b'.length = n → (∀ y, b'.getD y [] = if y = k then w else f y) → w = (if x.1 = 2 ∧ x.2.1 = p then v ++ [(x.2.2.1, (j : Int))] else v) →
     ∃ b'' d, b''.length = n ∧ (∀ y, b''.getD y [] = kset ((nx x).drop (j + 1)) (fun c => if x.1 = 2 ∧ x.2.1 = p then v ++ [(x.2.2.1, (c : Int))] else v) (j + 1) (fun y => if y = k then (if x.1 = 2 ∧ x.2.1 = p then v ++ [(x.2.2.1, (j : Int))] else v) else f y) y) ∧
     l_recall_paths_6 m p (i : Int) (nx x) ((nx x).length : Int) ((j + 1 : Nat) : Int) b' x.1 x.2.1 x.2.2.1 x.2.2.2.1 x.2.2.2.2.1 x.2.2.2.2.2 = some (.exit (b'', d)) := fun b' w g1 g2 g3 => by
    refine paths_in' p i n hi hn x hL hk v hv m (j + 1) b' _ (by omega) (by omega) g1 (fun y => ?_) (by rw [if_neg (fun e => hki e.symm)]; exact h5)
    rw [g2 y, g3]
   have copy : ∀ y, (b.set k (b.getD i [])).getD y [] = if y = k then v else f y := fun y => by
    by_cases e : y = k
    ·rw [if_pos e, e, getD_set_eq' _ _ _ _ (by omega), h4, h5]
    ·rw [if_neg e, getD_set_ne' _ _ _ _ _ (fun e' => e e'.symm), h4]
   by_cases c1 : x.1 = 2
   ·rw [if_pos (beq_iff_eq.2 c1)]
    by_cases c2 : x.2.1 = p
    ·rw [if_pos (beq_iff_eq.2 c2), if_pos (show (0 : Int) ≤ (i : Int) by omega), if_pos (show (i : Int) < (b.length : Int) by omega), hb1, clone_steps _ (by omega), Option.bind_some, if_pos (show (v.length + 1) * 16 ≤ 140737488355328 by omega), if_pos (show (0 : Int) ≤ (k : Int) by omega), if_pos (show (k : Int) < (b.length : Int) by omega)]
     refine next _ (v ++ [(x.2.2.1, (j : Int))]) (by rw [List.length_set, List.length_set]; exact h3) (fun y => ?_) (by rw [if_pos ⟨c1, c2⟩])
     by_cases e : y = k
     ·rw [if_pos e, e, getD_set_eq' _ _ _ _ (by rw [List.length_set]; omega)]
     ·rw [if_neg e, getD_set_ne' _ _ _ _ _ (fun e' => e e'.symm), copy y, if_neg e]
    ·rw [if_neg (fun h => c2 (beq_iff_eq.1 h))]
     exact next _ v (by rw [List.length_set]; exact h3) copy (by rw [if_neg (fun h => c2 h.2)])
   ·rw [if_neg (fun h => c1 (beq_iff_eq.1 h))]
    exact next _ v (by rw [List.length_set]; exact h3) copy (by rw [if_neg (fun h => c1 h.1)])
  ·rw [if_neg (by simpa using hj), List.drop_of_length_le (by omega)]
   exact ⟨b, _, h3, h4, rfl⟩
structure PI (t : List Nd) (p : Int) (i : Nat) (f : Nat → List (Int × Int)) : Prop where
 root : f 0 = []
 kid : ∀ j, j < i → ∀ (c : Nat) (k : Int), (nx (nd t j))[c]? = some k → f k.toNat = if own t p j then f j ++ [(inf t j, (c : Int))] else f j
 len : ∀ y, (f y).length ≤ i
open Classical in
theorem paths_out' {t : List Nd} (hv : V t) (p : Int) : ∀ (m i : Nat) (b : List (List (Int × Int))) (f : Nat → List (Int × Int)), i ≤ t.length → t.length + 10 < m + i → b.length = t.length → (∀ y, b.getD y [] = f y) → PI t p i f →
  ∃ b' f', (∀ y, b'.getD y [] = f' y) ∧ PI t p t.length f' ∧ l_recall_paths_3 m p t (t.length : Int) (i : Int) b = some (.exit (b', ()))
 | 0, i, b, f, h1, h2, _, _, _ => by omega
 | m + 1, i, b, f, h1, h2, h3, h4, h5 => by
  have hn := hv.len
  simp only [l_recall_paths_3]
  by_cases hj : i < t.length
  ·have e4 : IntKind.i64.wrap ((i : Int) + 1) = ((i + 1 : Nat) : Int) := by rw [w64 _ (by omega) (by omega)]; omega
   have hg := hv.good i hj
   have hk := good_kids hg
   rw [if_pos (by simpa using hj), if_pos (by omega), if_pos (by omega), Int.toNat_natCast, e4]
   have hlen := h5.len i
   obtain ⟨b', d, g1, g2, g3⟩ := paths_in' p i t.length hj (by omega) (nd t i) (good_len hg) hk (f i) (by omega) m 0 b f (by omega) (by have := good_len hg; omega) h3 h4 rfl
   have g3 : l_recall_paths_6 m p (i : Int) (nd t i).2.2.2.1 ((nd t i).2.2.2.1.length : Int) 0 b (nd t i).1 (nd t i).2.1 (nd t i).2.2.1 (nd t i).2.2.2.1 (nd t i).2.2.2.2.1 (nd t i).2.2.2.2.2 = _ := g3
   rw [g3]
   rw [List.drop_zero] at g2
   have hat : ∀ {c : Nat} {k : Int}, (nx (nd t i))[c]? = some k → kset (nx (nd t i)) (fun c => if own t p i then f i ++ [(inf t i, (c : Int))] else f i) 0 f k.toNat = if own t p i then f i ++ [(inf t i, (c : Int))] else f i := fun {c k} h => by
    rw [kset_at (kids_nodup hv hj) (fun k hk' => by have := hk k hk'; omega) h, Nat.zero_add]
   have hne : ∀ {y}, (∀ k, k ∈ nx (nd t i) → k.toNat ≠ y) → kset (nx (nd t i)) (fun c => if own t p i then f i ++ [(inf t i, (c : Int))] else f i) 0 f y = f y := fun h => kset_ne h
   have hle : ∀ y, y ≤ i → kset (nx (nd t i)) (fun c => if own t p i then f i ++ [(inf t i, (c : Int))] else f i) 0 f y = f y := fun y hy => hne fun k hkm => by have := hk k hkm; omega
   have g2 : ∀ y, b'.getD y [] = kset (nx (nd t i)) (fun c => if own t p i then f i ++ [(inf t i, (c : Int))] else f i) 0 f y := fun y => by rw [g2 y]
   refine paths_out' hv p m (i + 1) b' _ (by omega) (by omega) g1 g2 ⟨by rw [hle 0 (by omega)]; exact h5.root, fun j hj' c k hck => ?_, fun y => ?_⟩
   ·by_cases e : j = i
    ·subst e
     rw [hat hck, hle j (by omega)]
    ·have hjl : j < i := by omega
     have hm : k ∈ nx (nd t j) := List.mem_of_getElem? hck
     have ap := kids_apart hv hjl hj hm
     have hkj := good_kids (hv.good j (by omega)) k hm
     rw [hne (fun k' hk' e => ap (by have := hk k' hk'; rwa [show k = k' by omega])), hle j (by omega)]
     exact h5.kid j hjl c k hck
   ·by_cases e : ∃ k, k ∈ nx (nd t i) ∧ k.toNat = y
    ·obtain ⟨k, hkm, e⟩ := e
     obtain ⟨c, hc⟩ := List.mem_iff_getElem?.1 hkm
     rw [← e, hat hc]
     split
     ·rw [List.length_append, List.length_singleton]; omega
     ·omega
    ·rw [hne fun k hkm e' => e ⟨k, hkm, e'⟩]
     have := h5.len y; omega
  ·rw [if_neg (by simpa using hj)]
   have : i = t.length := by omega
   subst this
   exact ⟨b, f, h4, h5, rfl⟩
theorem paths_told {t : List Nd} (hv : V t) (p : Int) {b : List (List (Int × Int))} (hb : f_recall_paths fuel t p = some b) : PI t p t.length (fun y => b.getD y []) := by
 have hf := fuel_ge (n := 2 ^ 100) (by decide)
 have hn := hv.len
 unfold f_recall_paths at hb
 rw [if_pos (by omega), if_pos (by omega), if_pos (by omega), Int.toNat_natCast] at hb
 have z : ∀ y, (List.replicate t.length ([] : List (Int × Int))).getD y [] = [] := fun y => by
  rw [List.getD_eq_getElem?_getD, List.getElem?_replicate]; split <;> rfl
 obtain ⟨b', f', g1, g2, g3⟩ := paths_out' hv p fuel 0 (List.replicate t.length []) (fun _ => []) (by omega) (by omega) (by simp) z ⟨rfl, fun j hj => by omega, fun y => by simp⟩
 have g3 : l_recall_paths_3 fuel p t (t.length : Int) 0 (List.replicate t.length []) = _ := g3
 rw [g3] at hb
 simp only [Option.some.injEq] at hb
 subst hb
 have : (fun y => b'.getD y []) = f' := funext g1
 rw [this]; exact g2
def idx (bs : List Bk) (l : List (Int × Int)) : Int := match l.getLast? with
 | none => 0
 | some (x, c) => (((fst? bs x).getD 0 + 1 : Nat) : Int) + c
theorem idx_snoc (bs : List Bk) (l : List (Int × Int)) (x c : Int) : idx bs (l ++ [(x, c)]) = (((fst? bs x).getD 0 + 1 : Nat) : Int) + c := by
 unfold idx; rw [List.getLast?_concat]
open Classical in
theorem at_path {t : List Nd} (hv : V t) {p : Int} {bs : List Bk} {b : List Int} (h : LI t p t.length bs b) {f : Nat → List (Int × Int)} (hf : PI t p t.length f) : ∀ n y : Nat, y < n → y < t.length → b.getD y 0 = idx bs (f y)
 | 0, y, h1, _ => by omega
 | n + 1, y, h1, hy => by
  by_cases h0 : y = 0
  ·subst h0; rw [h.root, hf.root]; rfl
  ·obtain ⟨j, c, hj, hc⟩ := parent hv (show 0 < y by omega) hy
   have e1 := h.kid j (by omega) c _ hc
   have e2 := hf.kid j (by omega) c _ hc
   rw [Int.toNat_natCast] at e1 e2
   rw [e1, e2]
   by_cases ho : own t p j
   ·rw [if_pos ho, if_pos ho, idx_snoc]
   ·rw [if_neg ho, if_neg ho]
    exact at_path hv h hf n j (by omega) (by omega)
structure PR (t : List Nd) (p : Int) (bs : List Bk) (b : List Int) : Prop where
 li : LI t p t.length bs b
 same : ∀ j, j < t.length → own t p j → ∀ q, q ∈ bs → q.1 = inf t j → b.getD j 0 = (q.2.2 : Int)
theorem pr_of {t : List Nd} (hv : V t) {p : Int} (hfine : f_recall_Fine fuel t p = some true) {bs : List Bk} {b : List Int} (h : LI t p t.length bs b) : PR t p bs b := by
 obtain ⟨pb, r, h1, h2, h3⟩ := fine_ok hv p
 rw [hfine, Option.some.injEq] at h2
 subst h2
 have hs := h3.1 rfl
 have hf := paths_told hv p h1
 have hat : ∀ y, y < t.length → b.getD y 0 = idx bs (pb.getD y []) := fun y hy => at_path hv h hf t.length y hy hy
 refine ⟨h, fun j hj ho q hq he => ?_⟩
 obtain ⟨j0, g1, g2, g3, g4⟩ := h.frm q hq
 rw [← g4, hat j hj, hat j0 g1]
 have e : inf t j = inf t j0 := by rw [g3, he]
 rcases Nat.lt_trichotomy j j0 with hl | rfl | hl
 ·rw [hs j0 g1 j hl g2 ho e.symm]
 ·rfl
 ·rw [hs j hj j0 hl ho g2 e]
structure Wgt (bs : List Bk) (pi : Int → List Rat) (W : Nat → Rat) : Prop where
 root : W 0 = 1
 at_ : ∀ pre q post c, bs = pre ++ q :: post → c < q.2.1 → W (tot pre + 1 + c) = W q.2.2 * (pi q.1).getD c 0
theorem wgt_of {bs : List Bk} (pi : Int → List Rat) (hb : BefOk 1 bs) : Wgt bs pi fun k => (Wt pi bs).getD k 0 :=
 ⟨Wt_root pi bs, fun pre q post c e hc => by
   have := Wt_at pi hb e hc
   rwa [show tot pre + c + 1 = tot pre + 1 + c by omega] at this⟩
open Classical in
theorem reach_split {t : List Nd} (hv : V t) {p : Int} {bs : List Bk} {b : List Int} (h : PR t p bs b) {pi : Int → List Rat} {W : Nat → Rat} (hW : Wgt bs pi W) {ρ ρ' : Nat → Nat → Rat} {R C : Nat → Rat} (hR : RR t ρ t.length R) (hC : RR t ρ' t.length C)
  (h1 : ∀ i, own t p i → ∀ c, ρ i c = (pi (inf t i)).getD c 0 ∧ ρ' i c = 1) (h2 : ∀ i, i < t.length → ¬ own t p i → ∀ c, c < (nx (nd t i)).length → ρ i c = ρ' i c) : ∀ n y : Nat, y < n → y < t.length → R y = C y * W (b.getD y 0).toNat
 | 0, y, g1, _ => by omega
 | n + 1, y, g1, hy => by
  by_cases h0 : y = 0
  ·subst h0; rw [h.li.root, hR.root, hC.root, Int.toNat_zero, hW.root, Rat.mul_one]
  ·obtain ⟨j, c, hj, hc⟩ := parent hv (show 0 < y by omega) hy
   have hjl : j < t.length := by omega
   have e1 := h.li.kid j hjl c _ hc
   have e2 := hR.kid j hjl c _ hc
   have e3 := hC.kid j hjl c _ hc
   rw [Int.toNat_natCast] at e1 e2 e3
   have ih := reach_split hv h hW hR hC h1 h2 n j (by omega) hjl
   rw [e1, e2, e3, ih]
   by_cases ho : own t p j
   ·obtain ⟨r1, r2⟩ := h1 j ho c
    obtain ⟨k, hk⟩ := h.li.all j hjl ho
    obtain ⟨pre, q, post, q1, q2, q3, _⟩ := fst?_some hk
    have hq : q ∈ bs := by rw [q1]; simp
    have hs := h.same j hjl ho q hq q2
    have hcl : c < (nx (nd t j)).length := (List.getElem?_eq_some_iff.1 hc).1
    have hw : q.2.1 = (nx (nd t j)).length := by
     obtain ⟨j', hj', ho', he', hw', hf'⟩ := h.li.blk q hq
     rcases Nat.lt_trichotomy j j' with hl | rfl | hl
     ·exact absurd (q2.symm) (hf' j hl ho)
     ·exact hw'
     ·rw [hw']
      exact (hv.alike j hjl j' hl ho.1 ho'.1 (by rw [ho.2, ho'.2]) (by show inf t j = inf t j'; rw [he', q2])).symm
    rw [if_pos ho, hk, Option.getD_some, r1, r2, Rat.mul_one, hs, Int.toNat_natCast, show ((((k + 1 : Nat) : Int) + (c : Int)).toNat) = tot pre + 1 + c by rw [q3]; omega, hW.at_ pre q post c q1 (by omega), q2]
    grind
   ·rw [if_neg ho, h2 j hjl ho c (List.getElem?_eq_some_iff.1 hc).1]
    grind
end Go.Proofs.YtbcooccafbccdaaGreatDoor
