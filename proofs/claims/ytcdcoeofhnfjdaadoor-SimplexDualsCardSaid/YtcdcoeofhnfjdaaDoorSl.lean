/- The simplex method: what Solve gives is accepted. -/
import Derived.Test.YtcdcoeofhnfjdaaDoorSk
namespace Go.Proofs.YtcdcoeofhnfjdaaDoor
open Go Vm
theorem y7b : z50 fuel = some true := by kernel_rfl
def WV (v : List ByteArray) : Prop := v.length ≤ 140737488351232 ∧ ∀ s, s ∈ v → s.size ≤ 900000000000000
theorem wh5 {v : List ByteArray} (h : Wf (.slice .str) v) : WV v := by
 have h1 : v.length * 16 ≤ 140737488351232 := h.1
 exact ⟨by omega, fun s hs => Nat.le_trans (h.2 s hs) (by decide)⟩
theorem wb9 {l : List (List ByteArray)} (hl : l.length ≤ 1000) (h : ∀ v, v ∈ l → WV v) : WM l := ⟨by omega, fun x hx => (h x hx).1, fun x hx => (h x hx).2⟩
theorem w17 {N i : Nat} {l : List (List ByteArray)} (h : Sm N l) (hi : i < l.length) {rs : List Rat} (e : l.getD i [] = rs.map rt) : rs.length ≤ N ∧ ∀ j, j < rs.length → Dr 12 (rs.getD j 0) := by
 obtain ⟨h1, h2⟩ := h.2 i hi
 rw [e] at h1 h2
 rw [List.length_map] at h1
 refine ⟨h1, fun j hj => ?_⟩
 have h3 := h2 (rt (rs.getD j 0)) (List.mem_map_of_mem (by rw [z36 rs j 0 hj]; exact List.getElem_mem _))
 rw [w5m] at h3
 exact z80 h3 (w84 _)
theorem wj6 {N : Nat} {a : List (List ByteArray)} {R C : Nat} {M : Nat → Nat → Rat} (h : Txt a R C M) (s : Sm N a) : ∀ i, i < R → ∀ j, j < C → Dr 12 (M i j) := by
 intro i hi j hj
 have h1 := (s.2 i (by rw [h.1]; exact hi)).2 (rt (M i j)) (by
   rw [(h.2 i hi).1]
   exact List.mem_map_of_mem (List.mem_map_of_mem (List.mem_range.2 hj)))
 rw [w5m] at h1
 exact z80 h1 (w84 _)
theorem yx8 {N : Nat} (hN : N ≤ 6) {a : List (List ByteArray)} (ha : WM a) {b c : List ByteArray} (hb : WV b) (hc : WV c) {l : List (List ByteArray)} (s1 : Sm N a) (s2 : Sm N l) (l0 : 0 < l.length) (l1 : 1 < l.length) (e0 : l.getD 0 [] = b) (e1 : l.getD 1 [] = c) :
  (∃ e : Int, e ≠ 0 ∧ z2c fuel (a, (b, c)) = some e ∧ z3l fuel (a, (b, c)) = some ((0, ([], ([], ([], ByteArray.empty)))), e)) ∨
  ∃ (bs cs : List Rat) (m n : Nat) (A : Nat → Nat → Rat) (out : _), b = bs.map rt ∧ c = cs.map rt ∧ m ≤ N ∧ n ≤ N ∧ Prob m n A (fun j => bs.getD j 0) (fun j => cs.getD j 0) a bs cs ∧ (∀ i, i < m → ∀ k, k < n → Dr 12 (A i k)) ∧ (∀ i, i < m → Dr 12 (bs.getD i 0)) ∧ (∀ i, i < n → Dr 12 (cs.getD i 0)) ∧
   z3l fuel (a, (b, c)) = some out ∧ Sol m n A (fun j => bs.getD j 0) (fun j => cs.getD j 0) out := by
 rcases yx4 ha (Nat.le_trans hb.1 (by decide)) hb.2 (Nat.le_trans hc.1 (by decide)) hc.2 with ⟨e, h0, h1⟩ | ⟨h1, bs, cs, A, rfl, rfl, hbo, hco, hbl, hA, ha40, hc40⟩
 ·refine .inl ⟨e, h0, h1, ?_⟩
  unfold z3l
  rw [h1, Option.bind_some, if_pos (by simpa using h0)]
 ·obtain ⟨lb, db⟩ := w17 s2 l0 e0
  obtain ⟨lc, dc⟩ := w17 s2 l1 e1
  have dA := wj6 hA s1
  have lm : a.length ≤ N := s1.1
  rw [hbl] at db
  obtain ⟨out, o1, o2⟩ := w18 (by omega) (by omega) hA hbl rfl hbo hco dA db dc h1
  exact .inr ⟨bs, cs, a.length, cs.length, A, out, rfl, rfl, lm, lc, ⟨ha40, hc40, hA, hbl, rfl, hbo, hco, rfl, rfl, h1⟩, dA, db, dc, o1, o2⟩
end Go.Proofs.YtcdcoeofhnfjdaaDoor
