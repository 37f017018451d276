/- The plain law of RecallAlone. -/
import Derived.Test.YtkpohkeppbhdjaaDoorTc
import Derived.Test.YtkpohkeppbhdjaaDoorVmD
namespace Go.Proofs.YtkpohkeppbhdjaaDoor
open Go Vm

theorem recallFact_true : f_gamehallkeep2_recallFact fuel = some true := by kernel_rfl

theorem perfect_ok {t : List Nd} (ht : WT t) (p : Int) : (∃ e : Int, e ≠ 0 ∧ f_recall_Perfect fuel t p = some (false, e)) ∨
    (V t ∧ (p = 0 ∨ p = 1) ∧ ∃ (b : List (List (Int × Int))) (r : Bool), f_recall_Perfect fuel t p = some (r, 0) ∧ (r = true ↔ ∀ a, a < t.length → ∀ j, j < a → SameP t p b a j)) := by
  obtain ⟨e, he, hv⟩ := player_ok ht p
  unfold f_recall_Perfect
  rw [he, Option.bind_some]
  by_cases e0 : e = 0
  · obtain ⟨v, hp⟩ := hv e0
    obtain ⟨b, r, _, h2, h3⟩ := fine_ok v p
    rw [if_neg (by simpa using e0), h2]
    exact .inr ⟨v, hp, b, r, rfl, h3⟩
  · rw [if_pos (by simpa using e0)]
    exact .inl ⟨e, e0, rfl⟩

theorem alone_loop {t : List Nd} (p : Int) (hn : t.length ≤ 120) : ∀ (m i : Nat) (b : List Int), i ≤ t.length → t.length < m + i → b.length ≤ i → (∀ k, k < i → own t p k → inf t k ∈ b) → (∀ a, a < i → ∀ k, k < a → own t p a → own t p k → inf t a ≠ inf t k) →
    (∃ d, l_gamehallkeep2_RecallAlone_8 m p t (t.length : Int) (i : Int) b = some (.ret (true, d))) ∨
    ((∀ a, a < t.length → ∀ k, k < a → own t p a → own t p k → inf t a ≠ inf t k) ∧ ∃ d, l_gamehallkeep2_RecallAlone_8 m p t (t.length : Int) (i : Int) b = some (.exit d))
  | 0, i, b, h1, h2, _, _, _ => by omega
  | m + 1, i, b, h1, h2, hb, h3, h4 => by
    simp only [l_gamehallkeep2_RecallAlone_8]
    by_cases hj : i < t.length
    · have e4 : IntKind.i64.wrap ((i : Int) + 1) = ((i + 1 : Nat) : Int) := by rw [w64 _ (by omega) (by omega)]; omega
      rw [if_pos (by simpa using hj), if_pos (by omega), if_pos (by omega), Int.toNat_natCast, e4]
      have skip : ¬ own t p i → _ := fun hno => alone_loop (t := t) p hn m (i + 1) b (by omega) (by omega) (by omega) (fun k hk ho => by
          by_cases e : k = i
          · rw [e] at ho; exact absurd ho hno
          · exact h3 k (by omega) ho) (fun a ha k hk oa ok => by
          by_cases e : a = i
          · rw [e] at oa; exact absurd oa hno
          · exact h4 a (by omega) k hk oa ok)
      by_cases c1 : (nd t i).1 = 2
      · rw [if_pos (by rw [bne_eq_false_iff_eq]; exact c1)]
        by_cases c2 : (nd t i).2.1 = p
        · rw [if_neg (fun h => (bne_iff_ne.1 h) c2), f26_ok b _ (by omega), Option.bind_some]
          by_cases c3 : (nd t i).2.2.1 ∈ b
          · rw [if_pos (decide_eq_true c3)]
            exact .inl ⟨_, rfl⟩
          · rw [if_neg (fun h => c3 (of_decide_eq_true h)), if_pos (by omega)]
            refine alone_loop p hn m (i + 1) _ (by omega) (by omega) (by rw [List.length_append, List.length_singleton]; omega) (fun k hk ho => ?_) (fun a ha k hk oa ok => ?_)
            · by_cases e : k = i
              · rw [e]; exact List.mem_append_right _ (List.mem_singleton.2 rfl)
              · exact List.mem_append_left _ (h3 k (by omega) ho)
            · by_cases e : a = i
              · subst e
                intro he
                exact c3 (by have := h3 k hk ok; rw [← he] at this; exact this)
              · exact h4 a (by omega) k hk oa ok
        · rw [if_pos (bne_iff_ne.2 c2)]
          exact skip fun h => c2 h.2
      · rw [if_neg (by rw [bne_eq_false_iff_eq]; exact c1)]
        exact skip fun h => c1 h.1
    · rw [if_neg (by simpa using hj)]
      exact .inr ⟨fun a ha => h4 a (by omega), _, rfl⟩

theorem alone_true (t : List Nd) (p : Int) (ht : WT t) : f_gamehallkeep2_RecallAlone fuel t p = some true := by
  have hf := fuel_ge (n := 2 ^ 100) (by decide)
  unfold f_gamehallkeep2_RecallAlone
  rw [recallFact_true, Option.bind_some, if_neg (by decide)]
  rcases perfect_ok ht p with ⟨e, e0, h⟩ | ⟨hv, _, b, r, h, hr⟩
  · rw [h, Option.bind_some, if_pos (by simpa using e0)]; rfl
  · rw [h, Option.bind_some, if_neg (by simp)]
    have hn := hv.len
    rcases alone_loop p hn fuel 0 [] (by omega) (by omega) (by simp) (fun k hk => by omega) (fun a ha => by omega) with ⟨d, g⟩ | ⟨ha, d, g⟩
    · have g : l_gamehallkeep2_RecallAlone_8 fuel p t (t.length : Int) 0 [] = _ := g
      rw [g]
    · have g : l_gamehallkeep2_RecallAlone_8 fuel p t (t.length : Int) 0 [] = _ := g
      rw [g]
      simp only
      rw [hr.2 fun a ha' j hj oa oj he => absurd he (ha a ha' j hj oa oj)]

theorem wt_of {t : List Nd} (h : Wf (.slice (.pair (.int .i64) (.pair (.int .i64) (.pair (.int .i64) (.pair (.slice (.int .i64)) (.pair (.slice .str) .str)))))) t) : WT t := by
  obtain ⟨h1, h2⟩ := h
  have e : ∀ (n b : Nat), 1 ≤ b → n * b ≤ 140737488351232 → n ≤ 140737488351232 := fun n b hb h => Nat.le_trans (Nat.le_mul_of_pos_right n hb) h
  refine ⟨e _ _ (by decide) h1, fun x hx => ?_, fun x hx => ?_, fun x hx s hs => ?_, fun x hx => ?_⟩
  · exact e _ _ (by decide) (h2 x hx).2.2.2.1.1
  · exact e _ _ (by decide) (h2 x hx).2.2.2.2.1.1
  · exact Nat.le_trans ((h2 x hx).2.2.2.2.1.2 s hs) (by decide)
  · exact Nat.le_trans (h2 x hx).2.2.2.2.2 (by decide)

theorem recallAlone_plain : ∀ x : List Nd × Int, WfL [.slice (.pair (.int .i64) (.pair (.int .i64) (.pair (.int .i64) (.pair (.slice (.int .i64)) (.pair (.slice .str) .str))))), .int .i64] x → f_gamehallkeep2_RecallAlone fuel x.1 x.2 = some true :=
  fun x h => alone_true x.1 x.2 (wt_of h.1)

end Go.Proofs.YtkpohkeppbhdjaaDoor
