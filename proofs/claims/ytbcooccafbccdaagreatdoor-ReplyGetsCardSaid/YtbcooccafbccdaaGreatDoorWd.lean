/- The plain law of ReplyEnds. -/
import Derived.Test.YtbcooccafbccdaaGreatDoorWc
import Derived.Test.YtbcooccafbccdaaGreatDoorVmD
namespace Go.Proofs.YtbcooccafbccdaaGreatDoor
open Go Vm
theorem replyFact_true : f_gamehallkeep2_replyFact fuel = some true := by kernel_rfl
def es (t : List Nd) (R : Nat → Rat) (i : Nat) : List Rat := ((List.range i).filter fun j => decide ((nd t j).1 = 0)).map R
theorem wt_of' {t : List Nd} (h : Wf (.slice (.pair (.int .i64) (.pair (.int .i64) (.pair (.int .i64) (.pair (.slice (.int .i64)) (.pair (.slice .str) .str)))))) t) : WT t := by
 obtain ⟨h1, h2⟩ := h
 have e : ∀ (n b : Nat), 1 ≤ b → n * b ≤ 140737488351232 → n ≤ 140737488351232 := fun n b hb h => Nat.le_trans (Nat.le_mul_of_pos_right n hb) h
 refine ⟨e _ _ (by decide) h1, fun x hx => ?_, fun x hx => ?_, fun x hx s hs => ?_, fun x hx => ?_⟩
 ·exact e _ _ (by decide) (h2 x hx).2.2.2.1.1
 ·exact e _ _ (by decide) (h2 x hx).2.2.2.2.1.1
 ·exact Nat.le_trans ((h2 x hx).2.2.2.2.1.2 s hs) (by decide)
 ·exact Nat.le_trans (h2 x hx).2.2.2.2.2 (by decide)
theorem ws_of' {s : List Ch} (h : Wf (.slice (.pair (.int .i64) (.slice .str))) s) : WS s := by
 obtain ⟨h1, h2⟩ := h
 have e : ∀ (n b : Nat), 1 ≤ b → n * b ≤ 140737488351232 → n ≤ 140737488351232 := fun n b hb h => Nat.le_trans (Nat.le_mul_of_pos_right n hb) h
 refine ⟨?_, fun c hc => e _ _ (by decide) (h2 c hc).2.1, fun c hc x hx => Nat.le_trans ((h2 c hc).2.2 x hx) (by decide)⟩
 have h1 : s.length * 32 ≤ 140737488351232 := h1
 omega
end Go.Proofs.YtbcooccafbccdaaGreatDoor
