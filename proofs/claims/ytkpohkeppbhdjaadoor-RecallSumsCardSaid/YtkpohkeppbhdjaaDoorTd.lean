/- The plain law of RecallAlone. -/
import Derived.Test.YtkpohkeppbhdjaaDoorTc
import Derived.Test.YtkpohkeppbhdjaaDoorVmD
namespace Go.Proofs.YtkpohkeppbhdjaaDoor
open Go Vm

theorem recallFact_true : f_gamehallkeep2_recallFact fuel = some true := by kernel_rfl

theorem perfect_ok {t : List Nd} (ht : WT t) (p : Int) : (∃ e : Int, e ≠ 0 ∧ f_recall_Perfect fuel t p = some (false, e)) ∨
    (V t ∧ (p = 0 ∨ p = 1) ∧ ∃ (b : List (List (Int × Int))) (r : Bool), f_recall_Perfect fuel t p = some (r, 0) ∧ (r = true ↔ ∀ a, a < t.length → ∀ j, j < a → SameP t p b a j)) := by
  obtain ⟨e, he, hv⟩ := player_ok ht p
  unfold f_recall_Perfect
  rw [he, Option.bind_some]
  by_cases e0 : e = 0
  · obtain ⟨v, hp⟩ := hv e0
    obtain ⟨b, r, _, h2, h3⟩ := fine_ok v p
    rw [if_neg (by simpa using e0), h2]
    exact .inr ⟨v, hp, b, r, rfl, h3⟩
  · rw [if_pos (by simpa using e0)]
    exact .inl ⟨e, e0, rfl⟩

theorem wt_of {t : List Nd} (h : Wf (.slice (.pair (.int .i64) (.pair (.int .i64) (.pair (.int .i64) (.pair (.slice (.int .i64)) (.pair (.slice .str) .str)))))) t) : WT t := by
  obtain ⟨h1, h2⟩ := h
  have e : ∀ (n b : Nat), 1 ≤ b → n * b ≤ 140737488351232 → n ≤ 140737488351232 := fun n b hb h => Nat.le_trans (Nat.le_mul_of_pos_right n hb) h
  refine ⟨e _ _ (by decide) h1, fun x hx => ?_, fun x hx => ?_, fun x hx s hs => ?_, fun x hx => ?_⟩
  · exact e _ _ (by decide) (h2 x hx).2.2.2.1.1
  · exact e _ _ (by decide) (h2 x hx).2.2.2.2.1.1
  · exact Nat.le_trans ((h2 x hx).2.2.2.2.1.2 s hs) (by decide)
  · exact Nat.le_trans (h2 x hx).2.2.2.2.2 (by decide)

end Go.Proofs.YtkpohkeppbhdjaaDoor
