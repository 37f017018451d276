/- The plain law of RecallNumbers. -/
import Derived.Test.YtkpohkeppbhdjaaDoorTg
import Derived.Test.YtkpohkeppbhdjaaDoorTd
namespace Go.Proofs.YtkpohkeppbhdjaaDoor
open Go Vm

theorem rfine_ok {t : List Nd} (ht : WT t) (p : Int) : ∃ e : Int, f_recall_fine fuel t p = some e ∧ (e = 0 → V t ∧ (p = 0 ∨ p = 1) ∧ ∃ b : List (List (Int × Int)), f_recall_paths fuel t p = some b ∧ ∀ a, a < t.length → ∀ j, j < a → SameP t p b a j) := by
  obtain ⟨e, he, hv⟩ := player_ok ht p
  unfold f_recall_fine
  rw [he, Option.bind_some]
  by_cases e0 : e = 0
  · obtain ⟨v, hp⟩ := hv e0
    obtain ⟨b, r, h1, h2, h3⟩ := fine_ok v p
    rw [if_neg (by simpa using e0), h2, Option.bind_some]
    cases r with
    | false => exact ⟨10, rfl, fun h => absurd h (by decide)⟩
    | true => exact ⟨0, rfl, fun _ => ⟨v, hp, b, h1, h3.1 rfl⟩⟩
  · rw [if_pos (by simpa using e0)]
    exact ⟨e, rfl, fun h => absurd h e0⟩

theorem sequences_ok {t : List Nd} (ht : WT t) (p : Int) : (∃ e : Int, e ≠ 0 ∧ f_recall_fine fuel t p = some e ∧ f_recall_Sequences fuel t p = some ([], e)) ∨
    (f_recall_fine fuel t p = some 0 ∧ V t ∧ ∃ bs b, f_recall_Sequences fuel t p = some (sqs bs, 0) ∧ f_recall_List fuel t p = some (sqs bs, b) ∧ LI t p t.length bs b) := by
  obtain ⟨e, he, hv⟩ := rfine_ok ht p
  unfold f_recall_Sequences
  rw [he, Option.bind_some]
  by_cases e0 : e = 0
  · obtain ⟨v, _⟩ := hv e0
    obtain ⟨bs, b, h1, h2⟩ := list_ok v p
    rw [if_neg (by simpa using e0), h1]
    exact .inr ⟨by rw [e0], v, bs, b, rfl, rfl, h2⟩
  · rw [if_pos (by simpa using e0)]
    exact .inl ⟨e, e0, rfl, rfl⟩

theorem infos_ok {t : List Nd} {p : Int} (hp : f_tree_Player fuel t p = some 0) (hv : V t) : f_tree_Infos fuel t p = some ((sets t p 10).map (·.1), zs ((sets t p 10).map (·.2)), 0) := by
  unfold f_tree_Infos
  rw [hp, Option.bind_some, if_neg (by decide), sets_ok hv p]; rfl
theorem infos_any {t : List Nd} (ht : WT t) (p : Int) : ∃ r, f_tree_Infos fuel t p = some r := by
  obtain ⟨e, he, hv⟩ := player_ok ht p
  unfold f_tree_Infos
  rw [he, Option.bind_some]
  by_cases e0 : e = 0
  · rw [if_neg (by simpa using e0), sets_ok (hv e0).1 p]; exact ⟨_, rfl⟩
  · rw [if_pos (by simpa using e0)]; exact ⟨_, rfl⟩
theorem player_of_fine {t : List Nd} (ht : WT t) {p : Int} (h : f_recall_fine fuel t p = some 0) : f_tree_Player fuel t p = some 0 := by
  obtain ⟨e, he, _⟩ := player_ok ht p
  unfold f_recall_fine at h
  rw [he, Option.bind_some] at h
  by_cases e0 : e = 0
  · rw [he, e0]
  · rw [if_pos (by simpa using e0)] at h
    exact absurd (Option.some.inj h) e0

theorem many_loop (ws : List Nat) (hl : ws.length ≤ 100) : ∀ (m i s : Nat), i ≤ ws.length → ws.length < m + i → s + (ws.drop i).sum ≤ 100000 →
    l_gamehallkeep2_RecallNumbers_9 m (s : Int) (ws.length : Int) (i : Int) (zs ws) = some (.exit (((s + (ws.drop i).sum : Nat) : Int), zs ws, ()))
  | 0, i, s, h1, h2, _ => by omega
  | m + 1, i, s, h1, h2, h3 => by
    simp only [l_gamehallkeep2_RecallNumbers_9, List.length_map]
    by_cases hi : i < ws.length
    · have e4 : IntKind.i64.wrap ((i : Int) + 1) = ((i + 1 : Nat) : Int) := by rw [w64 _ (by omega) (by omega)]; omega
      have hd : ws.drop i = ws.getD i 0 :: ws.drop (i + 1) := by rw [List.drop_eq_getElem_cons hi, ← getD_eq ws i 0 hi]
      rw [hd, List.sum_cons] at h3 ⊢
      rw [if_pos (by simpa using hi), if_pos (by omega), if_pos (by omega), Int.toNat_natCast, getD_zs, e4, w64 _ (by omega) (by omega), show (s : Int) + ((ws.getD i 0 : Nat) : Int) = ((s + ws.getD i 0 : Nat) : Int) by omega,
        many_loop ws hl m (i + 1) _ (by omega) (by omega) (by omega), Nat.add_assoc]
    · rw [if_neg (by simpa using hi), List.drop_of_length_le (by omega)]
      rfl

theorem nums_loop (bs : List Bk) (is : List Int) (ht : tot bs ≤ 1000) (hb : BefOk 1 bs) (hi : ∀ q, q ∈ bs → q.1 ∈ is) (hl : is.length ≤ 1000) : ∀ (m k : Nat), k ≤ tot bs → tot bs < m + k →
    l_gamehallkeep2_RecallNumbers_16 m 1 (tot bs) (tot bs : Int) (k : Int) (sqs bs) is = some (.exit (sqs bs, is, ()))
  | 0, k, h1, h2 => by omega
  | m + 1, k, h1, h2 => by
    simp only [l_gamehallkeep2_RecallNumbers_16]
    by_cases hk : k < tot bs
    · have e4 : IntKind.i64.wrap ((k : Int) + 1) = ((k + 1 : Nat) : Int) := by rw [w64 _ (by omega) (by omega)]; omega
      have ih := nums_loop bs is ht hb hi hl m (k + 1) (by omega) (by omega)
      obtain ⟨pre, q, post, c, e, hc, ek⟩ := place hk
      have hat : (sqs bs).getD (k + 1) sz0 = (q.1, ((c : Int), (q.2.2 : Int))) := by rw [e, ek]; exact sqs_at pre post q c hc
      have hbef : q.2.2 < 1 + tot pre := befOk_at (by rw [← e]; exact hb)
      have hmem : q.1 ∈ is := hi q (by rw [e]; simp)
      rw [if_pos (by simpa using hk), if_pos (by omega), if_pos (by omega), e4, show (((1 : Nat) : Int) + (k : Int)).toNat = k + 1 by omega, show (sqs bs).getD (k + 1) (0, (0, 0)) = _ from hat]
      simp only
      rw [f26_ok is _ (by omega), Option.bind_some, if_pos (by rw [decide_eq_true hmem]; rfl), if_pos (by rw [decide_eq_false_iff_not]; omega), if_pos (by rw [decide_eq_false_iff_not]; omega)]
      cases c with
      | zero => rw [if_neg (by simp)]; exact ih
      | succ c =>
        have hprev : (sqs bs).getD k sz0 = (q.1, ((c : Int), (q.2.2 : Int))) := by rw [e, ek]; exact sqs_at pre post q c (by omega)
        rw [if_pos (decide_eq_true (show ((c + 1 : Nat) : Int) > 0 by omega)), if_pos (by omega), if_pos (by rw [sqs_length]; omega), Int.toNat_natCast, show (sqs bs).getD k (0, (0, 0)) = _ from hprev]
        simp only
        have h6 : k ≤ 1000 := by omega
        rw [w64 _ (by omega) (by omega), if_neg (by simp)]
        exact ih
    · rw [if_neg (by simpa using hk)]

theorem numbers_true (t : List Nd) (p : Int) (ht : WT t) : f_gamehallkeep2_RecallNumbers fuel t p = some true := by
  have hf := fuel_ge (n := 2 ^ 100) (by decide)
  unfold f_gamehallkeep2_RecallNumbers
  rw [recallFact_true, Option.bind_some, if_neg (by decide)]
  rcases sequences_ok ht p with ⟨e, e0, _, h⟩ | ⟨h0, hv, bs, b, h, _, hli⟩
  · obtain ⟨r, hr⟩ := infos_any ht p
    rw [h, Option.bind_some, hr, Option.bind_some, if_neg (by simpa using e0)]; rfl
  · rw [h, Option.bind_some, infos_ok (player_of_fine ht h0) hv, Option.bind_some]
    simp only
    have hn := hv.len
    have htot := hli.total
    have hsl := sqs_length bs
    have hperm := blocks_sets hv hli
    have hsum : ((sets t p 10).map (·.2)).sum = tot bs := by
      rw [← (hperm.map (·.2)).sum_nat, List.map_map]; rfl
    have hslen := sets_length t p 10
    rw [if_pos (by decide), if_pos (by decide), if_neg (by rw [beq_iff_eq]; omega)]
    have g := many_loop ((sets t p 10).map (·.2)) (by rw [List.length_map]; omega) fuel 0 1 (by omega) (by rw [List.length_map]; omega) (by rw [List.drop_zero, hsum]; omega)
    rw [List.drop_zero, hsum] at g
    have g : l_gamehallkeep2_RecallNumbers_9 fuel 1 (((sets t p 10).map (·.2)).length : Int) 0 (zs ((sets t p 10).map (·.2))) = _ := g
    rw [length_zs, g]
    simp only
    rw [if_pos (by rw [bne_eq_false_iff_eq, hsl]; omega), if_pos (by rw [hsl]; omega), if_neg (by simp [sqs]), if_pos (by rw [hsl]; omega), hsl, show tot bs + 1 - 1 = tot bs by omega]
    have g2 := nums_loop bs ((sets t p 10).map (·.1)) (by omega) hli.bef (fun q hq => by
      have : (q.1, q.2.1) ∈ sets t p 10 := hperm.mem_iff.1 (List.mem_map_of_mem (f := fun q : Bk => (q.1, q.2.1)) hq)
      exact List.mem_map_of_mem (f := fun q : Int × Nat => q.1) this) (by rw [List.length_map]; omega) fuel 0 (by omega) (by omega)
    have g2 : l_gamehallkeep2_RecallNumbers_16 fuel 1 (tot bs) (tot bs : Int) 0 (sqs bs) ((sets t p 10).map (·.1)) = _ := g2
    rw [g2]

theorem recallNumbers_plain : ∀ x : List Nd × Int, WfL [.slice (.pair (.int .i64) (.pair (.int .i64) (.pair (.int .i64) (.pair (.slice (.int .i64)) (.pair (.slice .str) .str))))), .int .i64] x → f_gamehallkeep2_RecallNumbers fuel x.1 x.2 = some true :=
  fun x h => numbers_true x.1 x.2 (wt_of h.1)

end Go.Proofs.YtkpohkeppbhdjaaDoor
