/- Matrices of numbers and their texts: Check, In, small. -/
import Derived.Test.YtcdcoeofhnfjdaaDoorQf
import Derived.Test.YtcdcoeofhnfjdaaDoorVmD
namespace Go.Proofs.YtcdcoeofhnfjdaaDoor
open Go Vm
structure WM (a : List (List ByteArray)) : Prop where
 len : a.length ≤ 140737488351232
 row : ∀ x, x ∈ a → x.length ≤ 140737488351232
 txt : ∀ x, x ∈ a → ∀ s, s ∈ x → s.size ≤ 900000000000000
theorem w5l {a : List (List ByteArray)} {i : Nat} (h : i < a.length) : a.getD i [] ∈ a := by rw [z36 a i _ h]; exact List.getElem_mem h
def Txt (a : List (List ByteArray)) (R C : Nat) (M : Nat → Nat → Rat) : Prop := a.length = R ∧ ∀ i, i < R → a.getD i [] = ((List.range C).map (M i)).map rt ∧ ∀ j, j < C → OkR (M i j)
theorem y8c {a : List (List ByteArray)} (ha : WM a) : ∀ (m i : Nat), i ≤ a.length → a.length < m + i → (∀ k, k < i → (a.getD k []).length = (a.getD 0 []).length ∧ (a.getD k []).length ≤ 40 ∧ ∃ rs : List Rat, a.getD k [] = rs.map rt ∧ ∀ r, r ∈ rs → OkR r) →
  (∃ (e : Int), e ≠ 0 ∧ z2p m a a (a.length : Int) (i : Int) = some (.ret (e, ()))) ∨
  ((∀ k, k < a.length → (a.getD k []).length = (a.getD 0 []).length ∧ (a.getD k []).length ≤ 40 ∧ ∃ rs : List Rat, a.getD k [] = rs.map rt ∧ ∀ r, r ∈ rs → OkR r) ∧ z2p m a a (a.length : Int) (i : Int) = some (.exit ()))
 | 0, i, h1, h2, _ => by omega
 | m + 1, i, h1, h2, h3 => by
  have hl := ha.len
  simp only [z2p]
  by_cases hi : i < a.length
  ·have e4 : IntKind.i64.wrap ((i : Int) + 1) = ((i + 1 : Nat) : Int) := by rw [w64 _ (by omega) (by omega)]; omega
   have hm := w5l hi
   rw [if_pos (by simpa using hi), if_pos (by omega), if_pos (by omega), if_pos (by omega), Int.toNat_natCast, e4]
   by_cases c1 : (a.getD i []).length = (a.getD 0 []).length
   ·rw [if_neg (by rw [bne_iff_ne]; omega)]
    rcases zh1 (a.getD i []) (Nat.le_trans (ha.row _ hm) (by decide)) (ha.txt _ hm) with ⟨e, e0, g⟩ | ⟨g, g40, grs⟩
    ·rw [g, Option.bind_some, if_pos (by simpa using e0)]
     exact .inl ⟨e, e0, rfl⟩
    ·rw [g, Option.bind_some, if_neg (by decide)]
     refine y8c ha m (i + 1) (by omega) (by omega) fun k hk => ?_
     by_cases e : k = i
     ·rw [e]; exact ⟨c1, g40, grs⟩
     ·exact h3 k (by omega)
   ·rw [if_pos (by rw [bne_iff_ne]; omega)]
    exact .inl ⟨3, by decide, rfl⟩
  ·rw [if_neg (by simpa using hi)]
   exact .inr ⟨fun k hk => h3 k (by omega), rfl⟩
theorem yv8 {a : List (List ByteArray)} (ha : WM a) : (∃ e : Int, e ≠ 0 ∧ z4w fuel a = some e) ∨
  (z4w fuel a = some 0 ∧ a.length ≤ 40 ∧ (a.getD 0 []).length ≤ 40 ∧ ∃ M, Txt a a.length (a.getD 0 []).length M) := by
 have hf := z82 (n := 2 ^ 100) (by decide)
 have hl := ha.len
 unfold z4w
 by_cases h40 : a.length ≤ 40
 ·rw [if_neg (by rw [decide_eq_true_eq]; omega)]
  rcases y8c ha fuel 0 (by omega) (by omega) (fun k hk => by omega) with ⟨e, e0, g⟩ | ⟨h, g⟩
  ·have g : z2p fuel a a (a.length : Int) 0 = _ := g
   rw [g]; exact .inl ⟨e, e0, rfl⟩
  ·have g : z2p fuel a a (a.length : Int) 0 = _ := g
   rw [g]
   refine .inr ⟨rfl, h40, ?_, ?_⟩
   ·by_cases h0 : 0 < a.length
    ·exact (h 0 h0).2.1
    ·have : a = [] := List.eq_nil_of_length_eq_zero (by omega)
     rw [this]; decide
   ·have h' : ∀ k, ∃ rs : List Rat, k < a.length → a.getD k [] = rs.map rt ∧ ∀ r, r ∈ rs → OkR r := fun k => by
     by_cases hk : k < a.length
     ·obtain ⟨rs, h1, h2⟩ := (h k hk).2.2
      exact ⟨rs, fun _ => ⟨h1, h2⟩⟩
     ·exact ⟨[], fun h => absurd h hk⟩
    obtain ⟨F, hF⟩ := Classical.axiomOfChoice h'
    refine ⟨fun i j => (F i).getD j 0, rfl, fun i hi => ?_⟩
    obtain ⟨h1, h2⟩ := hF i hi
    have hlen : (F i).length = (a.getD 0 []).length := by
     have := (h i hi).1
     rw [h1, List.length_map] at this
     exact this
    refine ⟨?_, fun j hj => ?_⟩
    ·rw [h1]
     congr 1
     refine List.ext_getElem (by rw [hlen, List.length_map, List.length_range]) fun j g1 g2 => ?_
     rw [List.getElem_map, List.getElem_range]
     exact (z36 _ j 0 g1).symm
    ·refine h2 _ ?_
     show (F i).getD j 0 ∈ F i
     rw [z36 _ j 0 (by omega)]; exact List.getElem_mem _
 ·rw [if_pos (by rw [decide_eq_true_eq]; omega)]
  exact .inl ⟨2, by decide, rfl⟩
def QG (R C : Nat) (M : Nat → Nat → Rat) (g : List (List Qd)) : Prop := g.length = R ∧ ∀ i, i < R → QF C (M i) (g.getD i [])
theorem w4g {a : List (List ByteArray)} {R C : Nat} {M : Nat → Nat → Rat} (h : Txt a R C M) (hR : R ≤ 100) (hC : C ≤ 100) : ∀ (m i : Nat) (g : List (List Qd)), i ≤ R → R < m + i → QG i C M g →
  ∃ g', z7f m a (R : Int) (i : Int) g = some (.exit (g', ())) ∧ QG R C M g'
 | 0, i, g, h1, h2, _ => by omega
 | m + 1, i, g, h1, h2, hg => by
  have hl := h.1
  simp only [z7f]
  by_cases hi : i < R
  ·have e4 : IntKind.i64.wrap ((i : Int) + 1) = ((i + 1 : Nat) : Int) := by rw [w64 _ (by omega) (by omega)]; omega
   obtain ⟨h3, h4⟩ := h.2 i hi
   obtain ⟨qs, gq, hq⟩ := yo7 ((List.range C).map (M i)) (by rw [List.length_map, List.length_range]; omega) (fun r hr => by
     obtain ⟨j, hj, rfl⟩ := List.mem_map.1 hr
     exact h4 j (List.mem_range.1 hj))
   have hgl := hg.1
   rw [if_pos (by simpa using hi), if_pos (by omega), if_pos (by omega), Int.toNat_natCast, h3, gq, Option.bind_some, if_pos (by omega), e4]
   refine w4g h hR hC m (i + 1) _ (by omega) (by omega) ⟨by rw [List.length_append, hgl]; rfl, fun k hk => ?_⟩
   by_cases e : k = i
   ·subst e
    rw [y8u hgl.symm]
    have := QF.of hq
    rw [List.length_map, List.length_range] at this
    exact this.ext fun j hj => y5t hj
   ·rw [y43 (by omega)]; exact hg.2 k (by omega)
  ·rw [if_neg (by simpa using hi)]
   have : i = R := by omega
   subst this
   exact ⟨g, rfl, hg⟩
theorem w89 {a : List (List ByteArray)} {R C : Nat} {M : Nat → Nat → Rat} (h : Txt a R C M) (hR : R ≤ 100) (hC : C ≤ 100) : ∃ g, za1 fuel a = some g ∧ QG R C M g := by
 have hf := z82 (n := 2 ^ 100) (by decide)
 obtain ⟨g, e, hg⟩ := w4g h hR hC fuel 0 [] (by omega) (by omega) ⟨rfl, fun i hi => by omega⟩
 have e : z7f fuel a (R : Int) 0 [] = _ := e
 unfold za1
 rw [h.1, e]
 exact ⟨g, rfl, hg⟩
theorem wg7 (l : List ByteArray) (hl : l.length ≤ 140737488351232) : ∀ (m i : Nat), i ≤ l.length → l.length < m + i → (∀ x, x ∈ l.take i → x.size ≤ 12) →
  (∃ k : Nat, z00 m l (l.length : Int) (i : Int) = some (.ret ((k : Int), ()))) ∨
  ((∀ x, x ∈ l → x.size ≤ 12) ∧ z00 m l (l.length : Int) (i : Int) = some (.exit ()))
 | 0, i, h1, h2, _ => by omega
 | m + 1, i, h1, h2, h3 => by
  simp only [z00]
  by_cases hi : i < l.length
  ·have e4 : IntKind.i64.wrap ((i : Int) + 1) = ((i + 1 : Nat) : Int) := by rw [w64 _ (by omega) (by omega)]; omega
   rw [if_pos (by simpa using hi), if_pos (by omega), if_pos (by omega), Int.toNat_natCast, e4]
   by_cases c : (l.getD i ByteArray.empty).size ≤ 12
   ·rw [if_neg (by rw [decide_eq_true_eq]; omega)]
    refine wg7 l hl m (i + 1) (by omega) (by omega) fun x hx => ?_
    rw [List.take_succ_eq_append_getElem hi, List.mem_append, List.mem_singleton] at hx
    rcases hx with hx | rfl
    ·exact h3 x hx
    ·rw [← z36 l i ByteArray.empty hi]; exact c
   ·rw [if_pos (by rw [decide_eq_true_eq]; omega)]
    exact .inl ⟨i, rfl⟩
  ·rw [if_neg (by simpa using hi)]
   rw [List.take_of_length_le (by omega)] at h3
   exact .inr ⟨h3, rfl⟩
theorem w8q {a : List (List ByteArray)} (ha : WM a) (n : Nat) : ∀ (m i : Nat), i ≤ a.length → a.length + 140737488351300 < m + i → (∀ k, k < i → (a.getD k []).length ≤ n ∧ ∀ x, x ∈ a.getD k [] → x.size ≤ 12) →
  (∃ (k : Nat) (d : _), z03 m a (a.length : Int) (i : Int) (n : Int) = some (.ret ((k : Int), d))) ∨
  ((∀ k, k < a.length → (a.getD k []).length ≤ n ∧ ∀ x, x ∈ a.getD k [] → x.size ≤ 12) ∧ z03 m a (a.length : Int) (i : Int) (n : Int) = some (.exit ((n : Int), ())))
 | 0, i, h1, h2, _ => by omega
 | m + 1, i, h1, h2, h3 => by
  have hl := ha.len
  simp only [z03]
  by_cases hi : i < a.length
  ·have e4 : IntKind.i64.wrap ((i : Int) + 1) = ((i + 1 : Nat) : Int) := by rw [w64 _ (by omega) (by omega)]; omega
   have hm := w5l hi
   have hrl := ha.row _ hm
   rw [if_pos (by simpa using hi), if_pos (by omega), if_pos (by omega), Int.toNat_natCast, e4]
   by_cases c1 : (a.getD i []).length ≤ n
   ·rw [if_pos (by rw [decide_eq_false_iff_not]; omega)]
    rcases wg7 (a.getD i []) hrl m 0 (by omega) (by omega) (fun x hx => by simp at hx) with ⟨k, g⟩ | ⟨h, g⟩
    ·have g : z00 m (a.getD i []) ((a.getD i []).length : Int) 0 = _ := g
     rw [g]
     simp only
     rw [if_pos (decide_eq_true (show (k : Int) ≥ 0 by omega))]
     exact .inl ⟨i, _, rfl⟩
    ·have g : z00 m (a.getD i []) ((a.getD i []).length : Int) 0 = _ := g
     rw [g]
     refine w8q ha n m (i + 1) (by omega) (by omega) fun k hk => ?_
     by_cases e : k = i
     ·rw [e]; exact ⟨c1, h⟩
     ·exact h3 k (by omega)
   ·rw [if_neg (by rw [decide_eq_false_iff_not]; omega)]
    exact .inl ⟨i, _, rfl⟩
  ·rw [if_neg (by simpa using hi)]
   exact .inr ⟨fun k hk => h3 k (by omega), rfl⟩
theorem wj9 {a : List (List ByteArray)} (h : Wf (.slice (.slice .str)) a) : WM a := by
 obtain ⟨h1, h2⟩ := h
 have e : ∀ (n b : Nat), 1 ≤ b → n * b ≤ 140737488351232 → n ≤ 140737488351232 := fun n b hb h => Nat.le_trans (Nat.le_mul_of_pos_right n hb) h
 exact ⟨e _ _ (by decide) h1, fun x hx => e _ _ (by decide) (h2 x hx).1, fun x hx s hs => Nat.le_trans ((h2 x hx).2 s hs) (by decide)⟩
end Go.Proofs.YtcdcoeofhnfjdaaDoor
