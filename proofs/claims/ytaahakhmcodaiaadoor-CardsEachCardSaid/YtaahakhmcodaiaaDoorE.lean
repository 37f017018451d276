/- The plain law of CardsEach: six cases, each computed. -/
import Derived.Test.YtaahakhmcodaiaaDoorPf
import Derived.Test.YtaahakhmcodaiaaDoorVmD
namespace Go.Proofs.YtaahakhmcodaiaaDoor
open Go Vm

theorem f6_true : f6 fuel = some true := by kernel_rfl

/-- What CardsEach does behind its pick. -/
def each (r2 : Int) : Option Bool :=
    (f12 fuel r2).bind fun r3 =>
    if (r3.2 != 0) = true then
      some false
    else
      match l4_9 fuel 1 r2 0 with
      | none => none
      | some (.exit d4) =>
        match l4_15 fuel r2 d4.1 0 r3.1 [] with
        | none => none
        | some (.exit _) =>
          some true
        | some (.ret d5) =>
          some d5.1
      | some (.ret _) =>
        none
theorem each0 : each 0 = some true := by kernel_rfl
theorem each1 : each 1 = some true := by kernel_rfl
theorem each2 : each 2 = some true := by kernel_rfl
theorem each3 : each 3 = some true := by kernel_rfl
theorem each4 : each 4 = some true := by kernel_rfl
theorem each5 : each 5 = some true := by kernel_rfl

theorem f11_ok (x : Int) (n : Nat) (h0 : 0 < n) (h1 : n < 1000) : ∃ b : Nat, b < n ∧ f11 fuel x (n : Int) = some (b : Int) := by
  unfold f11
  have h4 : IntKind.u64.wrap (n : Int) = (n : Int) := Go.IntWalk.u64_in _ ⟨by omega, by omega⟩
  rw [h4, if_neg (by omega)]
  have hz : 0 ≤ IntKind.u64.wrap x := by
    unfold IntKind.wrap
    have e1 : IntKind.u64.bits = 64 := rfl
    have e2 : IntKind.u64.signed = false := rfl
    simp only [e1, e2, Bool.false_and, Bool.false_eq_true, if_false]
    exact Int.emod_nonneg _ (by decide)
  obtain ⟨m, hm⟩ : ∃ m : Nat, IntKind.u64.wrap x = (m : Int) := ⟨(IntKind.u64.wrap x).toNat, by omega⟩
  have hlt := Nat.mod_lt m h0
  rw [hm, show ((m : Int).tmod (n : Int)) = ((m % n : Nat) : Int) from (Int.ofNat_tmod m n).symm, w64 _ (by omega) (by omega)]
  exact ⟨m % n, hlt, rfl⟩

theorem cardsEach_plain : ∀ x : Int, WfL [.int .i64] x → f4 fuel x = some true := by
  intro x _
  unfold f4
  rw [f6_true]
  simp only [Option.bind_some]
  rw [if_neg (by simp)]
  obtain ⟨b, hb, h⟩ := f11_ok x 6 (by decide) (by decide)
  have h : f11 fuel x 6 = some (b : Int) := h
  rw [h, Option.bind_some]
  show each (b : Int) = some true
  match b, hb with
  | 0, _ => exact each0
  | 1, _ => exact each1
  | 2, _ => exact each2
  | 3, _ => exact each3
  | 4, _ => exact each4
  | 5, _ => exact each5
end Go.Proofs.YtaahakhmcodaiaaDoor
