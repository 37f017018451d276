/- Vectors of numbers and their texts: Row, Out. -/
import Derived.Test.YtbcooccafbccdaaGreatDoorRs
namespace Go.Proofs.YtbcooccafbccdaaGreatDoor
open Go Vm

theorem getD_left {α : Type} {a b : List α} {i : Nat} {d : α} (h : i < a.length) : (a ++ b).getD i d = a.getD i d := by
  rw [List.getD_eq_getElem?_getD, List.getElem?_append_left h, ← List.getD_eq_getElem?_getD]
theorem getD_last {α : Type} {a : List α} {x d : α} {i : Nat} (h : i = a.length) : (a ++ [x]).getD i d = x := by
  rw [List.getD_eq_getElem?_getD, List.getElem?_append_right (by omega), h, Nat.sub_self]; rfl
/-- Numbers and their forms, one by one. -/
def QRs (rs : List Rat) (qs : List Qd) : Prop := rs.length = qs.length ∧ ∀ i, i < rs.length → QR (rs.getD i 0) (qs.getD i (false, ([], [])))
theorem qrs_snoc {rs : List Rat} {qs : List Qd} (h : QRs rs qs) {r : Rat} {q : Qd} (hr : QR r q) : QRs (rs ++ [r]) (qs ++ [q]) := by
  refine ⟨by rw [List.length_append, List.length_append, h.1]; rfl, fun i hi => ?_⟩
  rw [List.length_append, List.length_singleton] at hi
  by_cases e : i < rs.length
  · rw [List.getD_eq_getElem?_getD, List.getD_eq_getElem?_getD, List.getElem?_append_left e, List.getElem?_append_left (by rw [← h.1]; exact e), ← List.getD_eq_getElem?_getD, ← List.getD_eq_getElem?_getD]
    exact h.2 i e
  · have : i = rs.length := by omega
    subst this
    rw [List.getD_eq_getElem?_getD, List.getD_eq_getElem?_getD, List.getElem?_append_right (by omega), List.getElem?_append_right (by rw [h.1]; omega), Nat.sub_self, h.1, Nat.sub_self]
    exact hr


theorem qrs_at {rs : List Rat} {qs : List Qd} (h : QRs rs qs) {i : Nat} (hi : i < rs.length) : QR (rs.getD i 0) ((qs.getD i (false, ([], []))).1, ((qs.getD i (false, ([], []))).2)) := h.2 i hi
theorem qrs_set {rs : List Rat} {qs : List Qd} (h : QRs rs qs) {i : Nat} (hi : i < rs.length) {r : Rat} {q : Qd} (hr : QR r q) : QRs (rs.set i r) (qs.set i q) := by
  refine ⟨by rw [List.length_set, List.length_set, h.1], fun j hj => ?_⟩
  rw [List.length_set] at hj
  by_cases e : j = i
  · rw [e, getD_set_eq' _ _ _ _ hi, getD_set_eq' _ _ _ _ (by rw [← h.1]; exact hi)]; exact hr
  · rw [getD_set_ne' _ _ _ _ _ (fun x => e x.symm), getD_set_ne' _ _ _ _ _ (fun x => e x.symm)]; exact h.2 j hj
theorem getD_rep {α : Type} (n i : Nat) (x : α) : (List.replicate n x).getD i x = x := by
  rw [List.getD_eq_getElem?_getD, List.getElem?_replicate]; split <;> rfl
theorem qrs_rep (n : Nat) : QRs (List.replicate n 0) (List.replicate n (false, ([], []))) := ⟨by simp, fun i _ => by rw [getD_rep, getD_rep]; exact qr_zero⟩

/-- A list of probabilities is accepted if its sums may be. -/
theorem odds_true (rs : List Rat) (hl : rs.length ≤ 256) (h : ∀ r, r ∈ rs → OkR r) (h0 : ∀ r, r ∈ rs → 0 ≤ r) (h1 : psum rs = 1) (hp : ∀ k, k ≤ rs.length → OkR (psum (rs.take k))) : f_rat_Odds fuel (rs.map rt) = some 0 := by
  have hf := fuel40
  unfold f_rat_Odds
  rcases sum_ok rs hl h with ⟨⟨k, hk, hn⟩, _⟩ | ⟨ho, g⟩
  · exact absurd (hp k hk) hn
  · rw [g, Option.bind_some, if_neg (by simp), List.length_map]
    rcases odds_loop rs hl h fuel 0 (by omega) (by omega) (fun r h => by simp at h) with ⟨⟨r, hr, hn⟩, _⟩ | ⟨_, g2⟩
    · exact absurd (h0 r hr) hn
    · have g2 : l_rat_Odds_5 fuel (rs.map rt) (rs.length : Int) 0 = _ := g2
      rw [g2]
      simp only
      rw [h1, rt_one, if_neg (by simp)]

end Go.Proofs.YtbcooccafbccdaaGreatDoor
