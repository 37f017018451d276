/- Vectors of numbers and their texts: Row, Out. -/
import Derived.Test.YtcdcoeofhnfjdaaDoorRs
namespace Go.Proofs.YtcdcoeofhnfjdaaDoor
open Go Vm
theorem y43 {α : Type} {a b : List α} {i : Nat} {d : α} (h : i < a.length) : (a ++ b).getD i d = a.getD i d := by
 rw [List.getD_eq_getElem?_getD, List.getElem?_append_left h, ← List.getD_eq_getElem?_getD]
theorem y8u {α : Type} {a : List α} {x d : α} {i : Nat} (h : i = a.length) : (a ++ [x]).getD i d = x := by
 rw [List.getD_eq_getElem?_getD, List.getElem?_append_right (by omega), h, Nat.sub_self]; rfl
def QRs (rs : List Rat) (qs : List Qd) : Prop := rs.length = qs.length ∧ ∀ i, i < rs.length → QR (rs.getD i 0) (qs.getD i (false, ([], [])))
theorem w7i {rs : List Rat} {qs : List Qd} (h : QRs rs qs) {r : Rat} {q : Qd} (hr : QR r q) : QRs (rs ++ [r]) (qs ++ [q]) := by
 refine ⟨by rw [List.length_append, List.length_append, h.1]; rfl, fun i hi => ?_⟩
 rw [List.length_append, List.length_singleton] at hi
 by_cases e : i < rs.length
 ·rw [List.getD_eq_getElem?_getD, List.getD_eq_getElem?_getD, List.getElem?_append_left e, List.getElem?_append_left (by rw [← h.1]; exact e), ← List.getD_eq_getElem?_getD, ← List.getD_eq_getElem?_getD]
  exact h.2 i e
 ·have : i = rs.length := by omega
  subst this
  rw [List.getD_eq_getElem?_getD, List.getD_eq_getElem?_getD, List.getElem?_append_right (by omega), List.getElem?_append_right (by rw [h.1]; omega), Nat.sub_self, h.1, Nat.sub_self]
  exact hr
theorem w74 {α : Type} (n i : Nat) (x : α) : (List.replicate n x).getD i x = x := by
 rw [List.getD_eq_getElem?_getD, List.getElem?_replicate]; split <;> rfl
theorem w0z (rs : List Rat) (hl : rs.length ≤ 1000000) (h : ∀ r, r ∈ rs → OkR r) : ∀ (m i : Nat) (qs : List Qd), i ≤ rs.length → rs.length < m + i → QRs (rs.take i) qs →
  ∃ qs', z6g m (rs.map rt) (rs.length : Int) (i : Int) qs = some (.exit (qs', ())) ∧ QRs rs qs'
 | 0, i, qs, h1, h2, _ => by omega
 | m + 1, i, qs, h1, h2, hq => by
  simp only [z6g, List.length_map]
  by_cases hi : i < rs.length
  ·have e4 : IntKind.i64.wrap ((i : Int) + 1) = ((i + 1 : Nat) : Int) := by rw [w64 _ (by omega) (by omega)]; omega
   obtain ⟨z, hz, hqz⟩ := wf5 (h (rs.getD i 0) (by rw [z36 rs i 0 hi]; exact List.getElem_mem hi))
   have hql : qs.length = i := by have := hq.1; rw [List.length_take] at this; omega
   rw [if_pos (by simpa using hi), if_pos (by omega), if_pos (by omega), Int.toNat_natCast, yl8 rs i hi, hz, Option.bind_some, if_pos (by omega), e4]
   refine w0z rs hl h m (i + 1) _ (by omega) (by omega) ?_
   rw [List.take_succ_eq_append_getElem hi, ← z36 rs i 0 hi]
   exact w7i hq hqz
  ·rw [if_neg (by simpa using hi)]
   rw [List.take_of_length_le (by omega)] at hq
   exact ⟨qs, rfl, hq⟩
theorem yo7 (rs : List Rat) (hl : rs.length ≤ 1000000) (h : ∀ r, r ∈ rs → OkR r) : ∃ qs, z31 fuel (rs.map rt) = some qs ∧ QRs rs qs := by
 have hf := z82 (n := 2 ^ 100) (by decide)
 obtain ⟨qs, g, hq⟩ := w0z rs hl h fuel 0 [] (by omega) (by omega) ⟨rfl, fun i hi => by simp at hi⟩
 have g : z6g fuel (rs.map rt) (rs.length : Int) 0 [] = _ := g
 unfold z31
 rw [List.length_map, g]
 exact ⟨qs, rfl, hq⟩
theorem w0s (rs : List Rat) (qs : List Qd) (h : QRs rs qs) {K : Nat} (hK : K ≤ 4194304) (hl : rs.length ≤ 1000000) (hd : ∀ i, i < rs.length → Dr K (rs.getD i 0)) : ∀ (m i : Nat), i ≤ rs.length → rs.length < m + i → (∀ j, j < i → OkR (rs.getD j 0)) →
  ((∃ j, j < rs.length ∧ ¬ OkR (rs.getD j 0)) ∧ ∃ (e : Int) (d : _), e ≠ 0 ∧ z4y m qs (qs.length : Int) (i : Int) ((rs.take i).map rt) = some (.ret (e, d))) ∨
  ((∀ j, j < rs.length → OkR (rs.getD j 0)) ∧ z4y m qs (qs.length : Int) (i : Int) ((rs.take i).map rt) = some (.exit (rs.map rt, ())))
 | 0, i, h1, h2, _ => by omega
 | m + 1, i, h1, h2, h3 => by
  have hql := h.1
  simp only [z4y]
  by_cases hi : i < rs.length
  ·have e4 : IntKind.i64.wrap ((i : Int) + 1) = ((i + 1 : Nat) : Int) := by rw [w64 _ (by omega) (by omega)]; omega
   have hq := h.2 i hi
   have hdi := hd i hi
   have f1 := yg0 hq hdi hK
   have f1 : zh7 fuel ((qs.getD i (false, ([], []))).1, ((qs.getD i (false, ([], []))).2)) = _ := f1
   rw [if_pos (by simp; omega), if_pos (by omega), if_pos (by omega), Int.toNat_natCast, f1, Option.bind_some, e4]
   by_cases ho : OkR (rs.getD i 0)
   ·have f2 := w5a hq hdi hK
    have f2 : z8j fuel ((qs.getD i (false, ([], []))).1, ((qs.getD i (false, ([], []))).2)) = _ := f2
    rw [if_pos ho, if_neg (by decide), f2, Option.bind_some, if_pos (by rw [List.length_map, List.length_take]; omega)]
    have e : (rs.take i).map rt ++ [rt (rs.getD i 0)] = (rs.take (i + 1)).map rt := by
     rw [List.take_succ_eq_append_getElem hi, List.map_append, z36 rs i 0 hi]; rfl
    rw [e]
    refine w0s rs qs h hK hl hd m (i + 1) (by omega) (by omega) fun j hj => ?_
    by_cases ej : j = i
    ·rw [ej]; exact ho
    ·exact h3 j (by omega)
   ·rw [if_neg ho, if_pos (by decide)]
    exact .inl ⟨⟨i, hi, ho⟩, 2, _, by decide, rfl⟩
  ·rw [if_neg (by simp; omega), List.take_of_length_le (by omega)]
   exact .inr ⟨fun j hj => h3 j (by omega), rfl⟩
theorem w7g {rs : List Rat} {qs : List Qd} (h : QRs rs qs) {K : Nat} (hK : K ≤ 4194304) (hl : rs.length ≤ 1000000) (hd : ∀ i, i < rs.length → Dr K (rs.getD i 0)) :
  ((∃ j, j < rs.length ∧ ¬ OkR (rs.getD j 0)) ∧ ∃ e : Int, e ≠ 0 ∧ z5z fuel qs = some ([], e)) ∨ ((∀ j, j < rs.length → OkR (rs.getD j 0)) ∧ z5z fuel qs = some (rs.map rt, 0)) := by
 have hf := z82 (n := 2 ^ 100) (by decide)
 unfold z5z
 rcases w0s rs qs h hK hl hd fuel 0 (by omega) (by omega) (fun j hj => by omega) with ⟨hb, e, d, e0, g⟩ | ⟨ho, g⟩
 ·have g : z4y fuel qs (qs.length : Int) 0 [] = _ := g
  rw [g]; exact .inl ⟨hb, e, e0, rfl⟩
 ·have g : z4y fuel qs (qs.length : Int) 0 [] = _ := g
  rw [g]; exact .inr ⟨ho, rfl⟩
theorem zh1 (l : List ByteArray) (hs : l.length ≤ 4611686018427387904) (hb : ∀ s, s ∈ l → s.size ≤ 900000000000000) :
  (∃ e : Int, e ≠ 0 ∧ z2b fuel l = some e) ∨ (z2b fuel l = some 0 ∧ l.length ≤ 40 ∧ ∃ rs : List Rat, l = rs.map rt ∧ ∀ r, r ∈ rs → OkR r) := by
 unfold z2b
 by_cases h : l.length ≤ 40
 ·rw [if_neg (by rw [decide_eq_true_eq]; omega)]
  rcases ye8 l hs hb with ⟨e, e0, g⟩ | ⟨rs, h1, h2, g⟩
  ·rw [g]; exact .inl ⟨e, e0, rfl⟩
  ·rw [g]; exact .inr ⟨rfl, h, rs, h1, h2⟩
 ·rw [if_pos (by rw [decide_eq_true_eq]; omega)]
  exact .inl ⟨2, by decide, rfl⟩
end Go.Proofs.YtcdcoeofhnfjdaaDoor
