/- Vectors of numbers and their texts: Row, Out. -/
import Derived.Test.YtbcooccafbccdaaGreatDoorRs
namespace Go.Proofs.YtbcooccafbccdaaGreatDoor
open Go Vm
theorem getD_left {α : Type} {a b : List α} {i : Nat} {d : α} (h : i < a.length) : (a ++ b).getD i d = a.getD i d := by
 rw [List.getD_eq_getElem?_getD, List.getElem?_append_left h, ← List.getD_eq_getElem?_getD]
theorem getD_last {α : Type} {a : List α} {x d : α} {i : Nat} (h : i = a.length) : (a ++ [x]).getD i d = x := by
 rw [List.getD_eq_getElem?_getD, List.getElem?_append_right (by omega), h, Nat.sub_self]; rfl
def QRs (rs : List Rat) (qs : List Qd) : Prop := rs.length = qs.length ∧ ∀ i, i < rs.length → QR (rs.getD i 0) (qs.getD i (false, ([], [])))
theorem getD_rep {α : Type} (n i : Nat) (x : α) : (List.replicate n x).getD i x = x := by
 rw [List.getD_eq_getElem?_getD, List.getElem?_replicate]; split <;> rfl
theorem odds_true (rs : List Rat) (hl : rs.length ≤ 256) (h : ∀ r, r ∈ rs → OkR r) (h0 : ∀ r, r ∈ rs → 0 ≤ r) (h1 : psum rs = 1) (hp : ∀ k, k ≤ rs.length → OkR (psum (rs.take k))) : f_rat_Odds fuel (rs.map rt) = some 0 := by
 have hf := fuel40
 unfold f_rat_Odds
 rcases sum_ok rs hl h with ⟨⟨k, hk, hn⟩, _⟩ | ⟨ho, g⟩
 ·exact absurd (hp k hk) hn
 ·rw [g, Option.bind_some, if_neg (by simp), List.length_map]
  rcases odds_loop rs hl h fuel 0 (by omega) (by omega) (fun r h => by simp at h) with ⟨⟨r, hr, hn⟩, _⟩ | ⟨_, g2⟩
  ·exact absurd (h0 r hr) hn
  ·have g2 : l_rat_Odds_5 fuel (rs.map rt) (rs.length : Int) 0 = _ := g2
   rw [g2]
   simp only
   rw [h1, rt_one, if_neg (by simp)]
end Go.Proofs.YtbcooccafbccdaaGreatDoor
