/- The plain law of RecallNumbers. -/
import Derived.Test.YtkpohkeppbhdjaaDoorTg
import Derived.Test.YtkpohkeppbhdjaaDoorTd
namespace Go.Proofs.YtkpohkeppbhdjaaDoor
open Go Vm

theorem rfine_ok {t : List Nd} (ht : WT t) (p : Int) : ∃ e : Int, f_recall_fine fuel t p = some e ∧ (e = 0 → V t ∧ (p = 0 ∨ p = 1) ∧ ∃ b : List (List (Int × Int)), f_recall_paths fuel t p = some b ∧ ∀ a, a < t.length → ∀ j, j < a → SameP t p b a j) := by
  obtain ⟨e, he, hv⟩ := player_ok ht p
  unfold f_recall_fine
  rw [he, Option.bind_some]
  by_cases e0 : e = 0
  · obtain ⟨v, hp⟩ := hv e0
    obtain ⟨b, r, h1, h2, h3⟩ := fine_ok v p
    rw [if_neg (by simpa using e0), h2, Option.bind_some]
    cases r with
    | false => exact ⟨10, rfl, fun h => absurd h (by decide)⟩
    | true => exact ⟨0, rfl, fun _ => ⟨v, hp, b, h1, h3.1 rfl⟩⟩
  · rw [if_pos (by simpa using e0)]
    exact ⟨e, rfl, fun h => absurd h e0⟩

theorem sequences_ok {t : List Nd} (ht : WT t) (p : Int) : (∃ e : Int, e ≠ 0 ∧ f_recall_fine fuel t p = some e ∧ f_recall_Sequences fuel t p = some ([], e)) ∨
    (f_recall_fine fuel t p = some 0 ∧ V t ∧ ∃ bs b, f_recall_Sequences fuel t p = some (sqs bs, 0) ∧ f_recall_List fuel t p = some (sqs bs, b) ∧ LI t p t.length bs b) := by
  obtain ⟨e, he, hv⟩ := rfine_ok ht p
  unfold f_recall_Sequences
  rw [he, Option.bind_some]
  by_cases e0 : e = 0
  · obtain ⟨v, _⟩ := hv e0
    obtain ⟨bs, b, h1, h2⟩ := list_ok v p
    rw [if_neg (by simpa using e0), h1]
    exact .inr ⟨by rw [e0], v, bs, b, rfl, rfl, h2⟩
  · rw [if_pos (by simpa using e0)]
    exact .inl ⟨e, e0, rfl, rfl⟩

theorem infos_ok {t : List Nd} {p : Int} (hp : f_tree_Player fuel t p = some 0) (hv : V t) : f_tree_Infos fuel t p = some ((sets t p 10).map (·.1), zs ((sets t p 10).map (·.2)), 0) := by
  unfold f_tree_Infos
  rw [hp, Option.bind_some, if_neg (by decide), sets_ok hv p]; rfl
theorem infos_any {t : List Nd} (ht : WT t) (p : Int) : ∃ r, f_tree_Infos fuel t p = some r := by
  obtain ⟨e, he, hv⟩ := player_ok ht p
  unfold f_tree_Infos
  rw [he, Option.bind_some]
  by_cases e0 : e = 0
  · rw [if_neg (by simpa using e0), sets_ok (hv e0).1 p]; exact ⟨_, rfl⟩
  · rw [if_pos (by simpa using e0)]; exact ⟨_, rfl⟩
theorem player_of_fine {t : List Nd} (ht : WT t) {p : Int} (h : f_recall_fine fuel t p = some 0) : f_tree_Player fuel t p = some 0 := by
  obtain ⟨e, he, _⟩ := player_ok ht p
  unfold f_recall_fine at h
  rw [he, Option.bind_some] at h
  by_cases e0 : e = 0
  · rw [he, e0]
  · rw [if_pos (by simpa using e0)] at h
    exact absurd (Option.some.inj h) e0

end Go.Proofs.YtkpohkeppbhdjaaDoor
