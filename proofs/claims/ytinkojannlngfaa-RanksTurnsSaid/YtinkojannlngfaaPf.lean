/- Pure functions, printed by a program of this session out of the program. -/
import Derived.Test.YtinkojannlngfaaVmD
import Derived.Test.YtinkojannlngfaaProg
set_option linter.unusedVariables false
namespace Go.Proofs.Ytinkojannlngfaa
open Go Vm Go.Proofs
def te : TE := [(3, ⟨.int .i64, .sc, 8⟩),
  (4, ⟨.bool, .sc, 1⟩),
  (22, ⟨.slice (.int .i64), .slice 3, 24⟩),
  (24, ⟨.int .i64, .sc, 8⟩),
  (37, ⟨.slice (.slice (.int .i64)), .slice 22, 24⟩),
  (40, ⟨.slice (.pair (.int .i64) (.int .i64)), .slice 54, 24⟩),
  (43, ⟨.slice (.int .i64), .slice 24, 24⟩),
  (48, ⟨.int .u64, .sc, 8⟩),
  (54, ⟨.pair (.int .i64) (.int .i64), .st [3, 3], 16⟩),
  (55, ⟨.arr 13 (.int .i64), .ar 13 3, 104⟩)]
theorem ok : EOk Try.prog ⟨te, [], []⟩ := eok_of (by kernel_rfl)
/-! slices.Index[[]int,int] -/
noncomputable def E37 : Env := { te := te, spec := [], body := [] }
def l37_2H : Ann := { slots := [(0, .one (.val (.slice (.int .i64)))), (1, .one (.val (.int .i64))), (7, .one (.val (.int .i64))), (8, .one (.val (.int .i64)))], objs := [] }
def l37_2X : Ann := { slots := [], objs := [] }
def l37_2R : Ann := { slots := [(4, .one (.val (.int .i64)))], objs := [] }
def l37_2 : Nat → List Int → Int → Int → Int → Option (LR l37_2X l37_2R)
  | 0, _, _, _, _ => none
  | m + 1, s0, s1, s7, s8 =>
    if decide (s8 < s7) = true then
      if (0 : Int) ≤ s8 then
        if s8 < s0.length then
          if (s1 == s0.getD s8.toNat 0) = true then
            some (.ret (s8, ()))
          else
            l37_2 m s0 s1 s7 (IntKind.i64.wrap (s8 + 1))
        else none
      else none
    else
      some (.exit ())
def l37_2L : LSpec := { h := l37_2H, x := l37_2X, r := l37_2R, xid := 0, rt := true, pins := [], f := fun k d => l37_2 k d.1 d.2.1 d.2.2.1 d.2.2.2.1 }
def LL37 : Loops := [([37], [(2, l37_2L)])]
def f37 (k : Nat) (a0 : List Int) (a1 : Int) : Option (Int) :=
  match l37_2 k a0 a1 (a0.length : Int) 0 with
  | none => none
  | some (.exit d1) =>
    some (-1)
  | some (.ret d1) =>
    some d1.1
theorem l37_2_step (m : Nat) (d : dens l37_2H.tys) : l37_2L.f (m + 1) d = round E37 LL37 m [37] 19 (loopN (bodyOf Try.f37) 0) l37_2L (l37_2L.f m) d := by kernel_rfl
theorem f37_run (k : Nat) (x : denL [.slice (.int .i64), .int .i64]) : runFn E37 LL37 k 37 Try.f37 [.slice (.int .i64), .int .i64] [.imm (.int .i64)] x = f37 k x.1 x.2 := by kernel_rfl
noncomputable def S37 : Vm.Spec := { ps := [.slice (.int .i64), .int .i64], rs := [.imm (.int .i64)], f := fun x => f37 fuel x.1 x.2 }
theorem f37_holds : Vm.Spec.holds Try.prog 37 S37 := by
  have hB : BodiesOk Try.prog E37 := bodies_none rfl
  have hBS : BodiesStepped E37 LL37 := bodies_stepped_none rfl
  have hS : SpecsOk Try.prog E37 := specs_ok (by exact trivial)
  have hE : EOk Try.prog E37 := eok_te ok
  exact fn_sound (L := LL37) hE hS hB (draws_ok hE hS (by kernel_rfl)) hBS (fn := Try.f37) (by kernel_rfl) (c := bodyOf Try.f37) (by kernel_rfl) (stepped_of (ls := [(2, l37_2L)]) rfl rfl ⟨by kernel_rfl, fun _ => rfl, l37_2_step, stepsI_end (by kernel_rfl)⟩) fun x r h => ⟨fuel, (f37_run fuel x).trans h⟩

/-! slices.Contains[[]int,int] -/
noncomputable def E33 : Env := { te := te, spec := [(37, S37)], body := [] }
def LL33 : Loops := []
def f33 (k : Nat) (a0 : List Int) (a1 : Int) : Option (Bool) :=
  (f37 fuel a0 a1).bind fun r1 =>
  some (decide (r1 ≥ 0))
theorem f33_run (k : Nat) (x : denL [.slice (.int .i64), .int .i64]) : runFn E33 LL33 k 33 Try.f33 [.slice (.int .i64), .int .i64] [.imm .bool] x = f33 k x.1 x.2 := by kernel_rfl
noncomputable def S33 : Vm.Spec := { ps := [.slice (.int .i64), .int .i64], rs := [.imm .bool], f := fun x => f33 fuel x.1 x.2 }
theorem f33_holds : Vm.Spec.holds Try.prog 33 S33 := by
  have hB : BodiesOk Try.prog E33 := bodies_none rfl
  have hBS : BodiesStepped E33 LL33 := bodies_stepped_none rfl
  have hS : SpecsOk Try.prog E33 := specs_ok (by exact ⟨⟨by kernel_rfl, f37_holds⟩, trivial⟩)
  have hE : EOk Try.prog E33 := eok_te ok
  exact fn_sound (L := LL33) hE hS hB (draws_ok hE hS (by kernel_rfl)) hBS (fn := Try.f33) (by kernel_rfl) (c := bodyOf Try.f33) (by kernel_rfl) (stepped_none rfl) fun x r h => ⟨fuel, (f33_run fuel x).trans h⟩

/-! gamehall/cards.Check -/
noncomputable def E22 : Env := { te := te, spec := [(33, S33)], body := [] }
def l22_4H : Ann := { slots := [(0, .one (.val (.slice (.int .i64)))), (8, .one (.val (.slice (.int .i64)))), (9, .one (.val (.int .i64))), (10, .one (.val (.int .i64)))], objs := [] }
def l22_4X : Ann := { slots := [], objs := [] }
def l22_4R : Ann := { slots := [(2, .one (.val (.int .i64)))], objs := [] }
def l22_4 : Nat → List Int → List Int → Int → Int → Option (LR l22_4X l22_4R)
  | 0, _, _, _, _ => none
  | m + 1, s0, s8, s9, s10 =>
    if decide (s10 < s9) = true then
      if (0 : Int) ≤ s10 then
        if s10 < s8.length then
          if decide (s8.getD s10.toNat 0 < 0) = false then
            if decide (s8.getD s10.toNat 0 ≥ 52) = true then
              some (.ret (4, ()))
            else
              if (0 : Int) ≤ s10 then
                if s10 ≤ s0.length then
                  (f33 fuel ((s0.take s10.toNat).drop 0) (s8.getD s10.toNat 0)).bind fun r1 =>
                  if r1 = true then
                    some (.ret (7, ()))
                  else
                    l22_4 m s0 s8 s9 (IntKind.i64.wrap (s10 + 1))
                else none
              else none
          else
            some (.ret (4, ()))
        else none
      else none
    else
      some (.exit ())
def l22_4L : LSpec := { h := l22_4H, x := l22_4X, r := l22_4R, xid := 0, rt := true, pins := [], f := fun k d => l22_4 k d.1 d.2.1 d.2.2.1 d.2.2.2.1 }
def LL22 : Loops := [([22], [(4, l22_4L)])]
def f22 (k : Nat) (a0 : List Int) : Option (Int) :=
  if decide ((a0.length : Int) > 52) = true then
    some 2
  else
    match l22_4 k a0 a0 (a0.length : Int) 0 with
    | none => none
    | some (.exit d1) =>
      some 0
    | some (.ret d1) =>
      some d1.1
theorem l22_4_step (m : Nat) (d : dens l22_4H.tys) : l22_4L.f (m + 1) d = round E22 LL22 m [22] 27 (loopN (bodyOf Try.f22) 0) l22_4L (l22_4L.f m) d := by kernel_rfl
theorem f22_run (k : Nat) (x : denL [.slice (.int .i64)]) : runFn E22 LL22 k 22 Try.f22 [.slice (.int .i64)] [.imm (.int .i64)] x = f22 k x := by kernel_rfl
noncomputable def S22 : Vm.Spec := { ps := [.slice (.int .i64)], rs := [.imm (.int .i64)], f := fun x => f22 fuel x }
theorem f22_holds : Vm.Spec.holds Try.prog 22 S22 := by
  have hB : BodiesOk Try.prog E22 := bodies_none rfl
  have hBS : BodiesStepped E22 LL22 := bodies_stepped_none rfl
  have hS : SpecsOk Try.prog E22 := specs_ok (by exact ⟨⟨by kernel_rfl, f33_holds⟩, trivial⟩)
  have hE : EOk Try.prog E22 := eok_te ok
  exact fn_sound (L := LL22) hE hS hB (draws_ok hE hS (by kernel_rfl)) hBS (fn := Try.f22) (by kernel_rfl) (c := bodyOf Try.f22) (by kernel_rfl) (stepped_of (ls := [(4, l22_4L)]) rfl rfl ⟨by kernel_rfl, fun _ => rfl, l22_4_step, stepsI_end (by kernel_rfl)⟩) fun x r h => ⟨fuel, (f22_run fuel x).trans h⟩

/-! gamehall/ranks.Check -/
noncomputable def E16 : Env := { te := te, spec := [(22, S22)], body := [] }
def LL16 : Loops := []
def f16 (k : Nat) (a0 : List Int) : Option (Int) :=
  (f22 fuel a0).bind fun r1 =>
  if (r1 != 0) = true then
    some r1
  else
    if ((a0.length : Int) != 5) = true then
      some 3
    else
      some 0
theorem f16_run (k : Nat) (x : denL [.slice (.int .i64)]) : runFn E16 LL16 k 16 Try.f16 [.slice (.int .i64)] [.imm (.int .i64)] x = f16 k x := by kernel_rfl
noncomputable def S16 : Vm.Spec := { ps := [.slice (.int .i64)], rs := [.imm (.int .i64)], f := fun x => f16 fuel x }
theorem f16_holds : Vm.Spec.holds Try.prog 16 S16 := by
  have hB : BodiesOk Try.prog E16 := bodies_none rfl
  have hBS : BodiesStepped E16 LL16 := bodies_stepped_none rfl
  have hS : SpecsOk Try.prog E16 := specs_ok (by exact ⟨⟨by kernel_rfl, f22_holds⟩, trivial⟩)
  have hE : EOk Try.prog E16 := eok_te ok
  exact fn_sound (L := LL16) hE hS hB (draws_ok hE hS (by kernel_rfl)) hBS (fn := Try.f16) (by kernel_rfl) (c := bodyOf Try.f16) (by kernel_rfl) (stepped_none rfl) fun x r h => ⟨fuel, (f16_run fuel x).trans h⟩

/-! gamehall/cards.Suit -/
noncomputable def E27 : Env := { te := te, spec := [], body := [] }
def LL27 : Loops := []
def f27 (k : Nat) (a0 : Int) : Option (Int) :=
  some (IntKind.i64.wrap (a0.tdiv 13))
theorem f27_run (k : Nat) (x : denL [.int .i64]) : runFn E27 LL27 k 27 Try.f27 [.int .i64] [.imm (.int .i64)] x = f27 k x := by kernel_rfl
noncomputable def S27 : Vm.Spec := { ps := [.int .i64], rs := [.imm (.int .i64)], f := fun x => f27 fuel x }
theorem f27_holds : Vm.Spec.holds Try.prog 27 S27 := by
  have hB : BodiesOk Try.prog E27 := bodies_none rfl
  have hBS : BodiesStepped E27 LL27 := bodies_stepped_none rfl
  have hS : SpecsOk Try.prog E27 := specs_ok (by exact trivial)
  have hE : EOk Try.prog E27 := eok_te ok
  exact fn_sound (L := LL27) hE hS hB (draws_ok hE hS (by kernel_rfl)) hBS (fn := Try.f27) (by kernel_rfl) (c := bodyOf Try.f27) (by kernel_rfl) (stepped_none rfl) fun x r h => ⟨fuel, (f27_run fuel x).trans h⟩

/-! gamehall/cards.Rank -/
noncomputable def E29 : Env := { te := te, spec := [], body := [] }
def LL29 : Loops := []
def f29 (k : Nat) (a0 : Int) : Option (Int) :=
  some (a0.tmod 13)
theorem f29_run (k : Nat) (x : denL [.int .i64]) : runFn E29 LL29 k 29 Try.f29 [.int .i64] [.imm (.int .i64)] x = f29 k x := by kernel_rfl
noncomputable def S29 : Vm.Spec := { ps := [.int .i64], rs := [.imm (.int .i64)], f := fun x => f29 fuel x }
theorem f29_holds : Vm.Spec.holds Try.prog 29 S29 := by
  have hB : BodiesOk Try.prog E29 := bodies_none rfl
  have hBS : BodiesStepped E29 LL29 := bodies_stepped_none rfl
  have hS : SpecsOk Try.prog E29 := specs_ok (by exact trivial)
  have hE : EOk Try.prog E29 := eok_te ok
  exact fn_sound (L := LL29) hE hS hB (draws_ok hE hS (by kernel_rfl)) hBS (fn := Try.f29) (by kernel_rfl) (c := bodyOf Try.f29) (by kernel_rfl) (stepped_none rfl) fun x r h => ⟨fuel, (f29_run fuel x).trans h⟩

/-! gamehall/ranks.groups -/
noncomputable def E18 : Env := { te := te, spec := [(29, S29)], body := [(30, Try.f30), (31, Try.f31), (36, Try.f36), (38, Try.f38)] }
def l18_3H : Ann := { slots := [(3, .one (.fix (.pbox 12 0))), (8, .one (.val (.slice (.int .i64)))), (9, .one (.val (.int .i64))), (10, .one (.val (.int .i64)))], objs := [(12, .box [.val (.arr 13 (.int .i64))])] }
def l18_3X : Ann := { slots := [(3, .one (.fix (.pbox 12 0)))], objs := [(12, .box [.val (.arr 13 (.int .i64))])] }
def l18_3R : Ann := { slots := [], objs := [] }
def l18_9H : Ann := { slots := [(3, .one (.fix (.pbox 12 0))), (6, .one (.own 144 (.pair (.int .i64) (.int .i64)))), (7, .one (.val (.int .i64)))], objs := [(12, .box [.val (.arr 13 (.int .i64))]), (144, .buf (.pair (.int .i64) (.int .i64)))] }
def l18_9X : Ann := { slots := [(6, .one (.own 144 (.pair (.int .i64) (.int .i64))))], objs := [(144, .buf (.pair (.int .i64) (.int .i64))), (12, .box [.val (.arr 13 (.int .i64))])] }
def l18_9R : Ann := { slots := [], objs := [] }
def l38_36_30_18_4H : Ann := { slots := [(0, .one (.own 144 (.pair (.int .i64) (.int .i64)))), (1, .one (.val (.int .i64))), (3, .one (.fix (.func 31))), (9, .one (.val (.int .i64)))], objs := [(144, .buf (.pair (.int .i64) (.int .i64)))] }
def l38_36_30_18_4X : Ann := { slots := [(0, .one (.own 144 (.pair (.int .i64) (.int .i64))))], objs := [(144, .buf (.pair (.int .i64) (.int .i64)))] }
def l38_36_30_18_4R : Ann := { slots := [], objs := [] }
def l38_36_30_18_1H : Ann := { slots := [(0, .one (.own 144 (.pair (.int .i64) (.int .i64)))), (1, .one (.val (.int .i64))), (2, .one (.val (.int .i64))), (3, .one (.fix (.func 31))), (8, .one (.val (.int .i64)))], objs := [(144, .buf (.pair (.int .i64) (.int .i64)))] }
def l38_36_30_18_1X : Ann := { slots := [], objs := [(144, .buf (.pair (.int .i64) (.int .i64)))] }
def l38_36_30_18_1R : Ann := { slots := [], objs := [] }
def l36_30_18_2H : Ann := { slots := [(0, .one (.own 144 (.pair (.int .i64) (.int .i64)))), (1, .one (.val (.int .i64))), (2, .one (.fix (.func 31))), (6, .one (.val (.int .i64))), (7, .one (.val (.int .i64))), (8, .one (.val (.int .i64)))], objs := [(144, .buf (.pair (.int .i64) (.int .i64)))] }
def l36_30_18_2X : Ann := { slots := [(0, .one (.own 144 (.pair (.int .i64) (.int .i64)))), (7, .one (.val (.int .i64)))], objs := [(144, .buf (.pair (.int .i64) (.int .i64)))] }
def l36_30_18_2R : Ann := { slots := [], objs := [] }
def l36_30_18_9H : Ann := { slots := [(0, .one (.own 144 (.pair (.int .i64) (.int .i64)))), (1, .one (.val (.int .i64))), (2, .one (.fix (.func 31))), (6, .one (.val (.int .i64))), (7, .one (.val (.int .i64))), (8, .one (.val (.int .i64)))], objs := [(144, .buf (.pair (.int .i64) (.int .i64)))] }
def l36_30_18_9X : Ann := { slots := [(0, .one (.own 144 (.pair (.int .i64) (.int .i64)))), (7, .one (.val (.int .i64)))], objs := [(144, .buf (.pair (.int .i64) (.int .i64)))] }
def l36_30_18_9R : Ann := { slots := [], objs := [] }
def l36_30_18_7H : Ann := { slots := [(0, .one (.own 144 (.pair (.int .i64) (.int .i64)))), (1, .one (.val (.int .i64))), (2, .one (.fix (.func 31))), (6, .one (.val (.int .i64)))], objs := [(144, .buf (.pair (.int .i64) (.int .i64)))] }
def l36_30_18_7X : Ann := { slots := [], objs := [(144, .buf (.pair (.int .i64) (.int .i64)))] }
def l36_30_18_7R : Ann := { slots := [], objs := [] }
def l18_3 : Nat → List Int → Int → Int → List Int → Option (LR l18_3X l18_3R)
  | 0, _, _, _, _ => none
  | m + 1, s8, s9, s10, b12_0 =>
    if decide (s10 < s9) = true then
      if (0 : Int) ≤ s10 then
        if s10 < s8.length then
          (f29 fuel (s8.getD s10.toNat 0)).bind fun r1 =>
          if (0 : Int) ≤ r1 then
            if r1 < 13 then
              if (0 : Int) ≤ r1 then
                if r1 < 13 then
                  l18_3 m s8 s9 (IntKind.i64.wrap (s10 + 1)) (b12_0.set r1.toNat (IntKind.i64.wrap ((b12_0.getD r1.toNat 0) + 1)))
                else none
              else none
            else none
          else none
        else none
      else none
    else
      some (.exit (b12_0, ()))
def l18_3L : LSpec := { h := l18_3H, x := l18_3X, r := l18_3R, xid := 0, rt := false, pins := [12], f := fun k d => l18_3 k d.1 d.2.1 d.2.2.1 d.2.2.2.1 }
def l18_9 : Nat → Int → List Int → List (Int × Int) → Option (LR l18_9X l18_9R)
  | 0, _, _, _ => none
  | m + 1, s7, b12_0, b144 =>
    if decide (s7 ≥ 0) = true then
      if (0 : Int) ≤ s7 then
        if s7 < 13 then
          if decide (b12_0.getD s7.toNat 0 > 0) = true then
            if (0 : Int) ≤ s7 then
              if s7 < 13 then
                if (b144.length + 1) * 16 ≤ 140737488355328 then
                  l18_9 m (IntKind.i64.wrap (s7 - 1)) b12_0 (b144 ++ [(b12_0.getD s7.toNat 0, s7)])
                else none
              else none
            else none
          else
            l18_9 m (IntKind.i64.wrap (s7 - 1)) b12_0 b144
        else none
      else none
    else
      some (.exit (b144, b12_0, ()))
def l18_9L : LSpec := { h := l18_9H, x := l18_9X, r := l18_9R, xid := 2, rt := false, pins := [12], f := fun k d => l18_9 k d.1 d.2.1 d.2.2.1 }
def l38_36_30_18_4 : Nat → Int → Int → List (Int × Int) → Option (LR l38_36_30_18_4X l38_36_30_18_4R)
  | 0, _, _, _ => none
  | m + 1, s1, s9, b144 =>
    if decide (s9 > s1) = true then
      if (0 : Int) ≤ s9 then
        if s9 < b144.length then
          if (0 : Int) ≤ IntKind.i64.wrap (s9 - 1) then
            if IntKind.i64.wrap (s9 - 1) < b144.length then
              if decide (IntKind.i64.wrap (((b144.getD ((IntKind.i64.wrap (s9 - 1)).toNat) (0, 0)).1) - ((b144.getD s9.toNat (0, 0)).1)) < 0) = true then
                if (0 : Int) ≤ IntKind.i64.wrap (s9 - 1) then
                  if IntKind.i64.wrap (s9 - 1) < b144.length then
                    if (0 : Int) ≤ s9 then
                      if s9 < b144.length then
                        if (0 : Int) ≤ s9 then
                          if s9 < b144.length then
                            if (0 : Int) ≤ IntKind.i64.wrap (s9 - 1) then
                              if IntKind.i64.wrap (s9 - 1) < (b144.set s9.toNat (b144.getD ((IntKind.i64.wrap (s9 - 1)).toNat) (0, 0))).length then
                                l38_36_30_18_4 m s1 (IntKind.i64.wrap (s9 - 1)) ((b144.set s9.toNat (b144.getD ((IntKind.i64.wrap (s9 - 1)).toNat) (0, 0))).set ((IntKind.i64.wrap (s9 - 1)).toNat) (b144.getD s9.toNat (0, 0)))
                              else none
                            else none
                          else none
                        else none
                      else none
                    else none
                  else none
                else none
              else
                some (.exit (b144, ()))
            else none
          else none
        else none
      else none
    else
      some (.exit (b144, ()))
def l38_36_30_18_4L : LSpec := { h := l38_36_30_18_4H, x := l38_36_30_18_4X, r := l38_36_30_18_4R, xid := 2, rt := false, pins := [144], f := fun k d => l38_36_30_18_4 k d.1 d.2.1 d.2.2.1 }
def l38_36_30_18_1 : Nat → Int → Int → Int → List (Int × Int) → Option (LR l38_36_30_18_1X l38_36_30_18_1R)
  | 0, _, _, _, _ => none
  | m + 1, s1, s2, s8, b144 =>
    if decide (s8 < s2) = true then
      match l38_36_30_18_4 m s1 s8 b144 with
      | none => none
      | some (.exit d1) =>
        l38_36_30_18_1 m s1 s2 (IntKind.i64.wrap (s8 + 1)) d1.1
      | some (.ret d1) =>
        none
    else
      some (.exit (b144, ()))
def l38_36_30_18_1L : LSpec := { h := l38_36_30_18_1H, x := l38_36_30_18_1X, r := l38_36_30_18_1R, xid := 0, rt := false, pins := [144], f := fun k d => l38_36_30_18_1 k d.1 d.2.1 d.2.2.1 d.2.2.2.1 }
def l36_30_18_2 : Nat → Int → Int → Int → Int → List (Int × Int) → Option (LR l36_30_18_2X l36_30_18_2R)
  | 0, _, _, _, _, _ => none
  | m + 1, s1, s6, s7, s8, b144 =>
    if decide (s8 ≤ s1) = true then
      match l38_36_30_18_1 m s7 s8 (IntKind.i64.wrap (s7 + 1)) b144 with
      | none => none
      | some (.exit d1) =>
        l36_30_18_2 m s1 s6 s8 (IntKind.i64.wrap (s8 + s6)) d1.1
      | some (.ret d1) =>
        none
    else
      some (.exit (s7, b144, ()))
def l36_30_18_2L : LSpec := { h := l36_30_18_2H, x := l36_30_18_2X, r := l36_30_18_2R, xid := 0, rt := false, pins := [144], f := fun k d => l36_30_18_2 k d.1 d.2.1 d.2.2.1 d.2.2.2.1 d.2.2.2.2.1 }
def l36_30_18_9 : Nat → Int → Int → Int → Int → List (Int × Int) → Option (LR l36_30_18_9X l36_30_18_9R)
  | 0, _, _, _, _, _ => none
  | m + 1, s1, s6, s7, s8, b144 =>
    if decide (s8 ≤ s1) = true then
      none
    else
      some (.exit (s7, b144, ()))
def l36_30_18_9L : LSpec := { h := l36_30_18_9H, x := l36_30_18_9X, r := l36_30_18_9R, xid := 4, rt := false, pins := [144], f := fun k d => l36_30_18_9 k d.1 d.2.1 d.2.2.1 d.2.2.2.1 d.2.2.2.2.1 }
def l36_30_18_7 : Nat → Int → Int → List (Int × Int) → Option (LR l36_30_18_7X l36_30_18_7R)
  | 0, _, _, _ => none
  | m + 1, s1, s6, b144 =>
    if decide (s6 < s1) = true then
      match l36_30_18_9 m s1 s6 0 (IntKind.i64.wrap (2 * s6)) b144 with
      | none => none
      | some (.exit d1) =>
        if decide (IntKind.i64.wrap (d1.1 + s6) < s1) = true then
          none
        else
          l36_30_18_7 m s1 (IntKind.i64.wrap (s6 * 2)) d1.2.1
      | some (.ret d1) =>
        none
    else
      some (.exit (b144, ()))
def l36_30_18_7L : LSpec := { h := l36_30_18_7H, x := l36_30_18_7X, r := l36_30_18_7R, xid := 2, rt := false, pins := [144], f := fun k d => l36_30_18_7 k d.1 d.2.1 d.2.2.1 }
def LL18 : Loops := [([18], [(3, l18_3L), (9, l18_9L)]), ([38, 36, 30, 18], [(1, l38_36_30_18_1L), (4, l38_36_30_18_4L)]), ([36, 30, 18], [(2, l36_30_18_2L), (7, l36_30_18_7L), (9, l36_30_18_9L)])]
def f18 (k : Nat) (a0 : List Int) : Option (List (Int × Int)) :=
  match l18_3 k a0 (a0.length : Int) 0 (List.replicate 13 0) with
  | none => none
  | some (.exit d1) =>
    match l18_9 k 12 d1.1 [] with
    | none => none
    | some (.exit d2) =>
      match l36_30_18_2 k (d2.1.length : Int) 20 0 20 d2.1 with
      | none => none
      | some (.exit d3) =>
        match l38_36_30_18_1 k d3.1 (d2.1.length : Int) (IntKind.i64.wrap (d3.1 + 1)) d3.2.1 with
        | none => none
        | some (.exit d4) =>
          match l36_30_18_7 k (d2.1.length : Int) 20 d4.1 with
          | none => none
          | some (.exit d5) =>
            some d5.1
          | some (.ret d5) =>
            none
        | some (.ret d4) =>
          none
      | some (.ret d3) =>
        none
    | some (.ret d2) =>
      none
  | some (.ret d1) =>
    none
theorem l18_3_step (m : Nat) (d : dens l18_3H.tys) : l18_3L.f (m + 1) d = round E18 LL18 m [18] 40 (loopN (bodyOf Try.f18) 0) l18_3L (l18_3L.f m) d := by kernel_rfl
theorem l18_9_step (m : Nat) (d : dens l18_9H.tys) : l18_9L.f (m + 1) d = round E18 LL18 m [18] 40 (loopN (bodyOf Try.f18) 1) l18_9L (l18_9L.f m) d := by kernel_rfl
theorem l38_36_30_18_4_step (m : Nat) (d : dens l38_36_30_18_4H.tys) : l38_36_30_18_4L.f (m + 1) d = round E18 LL18 m [38, 36, 30, 18] 53 (loopN (bodyOf Try.f38) 1) l38_36_30_18_4L (l38_36_30_18_4L.f m) d := by kernel_rfl
theorem l38_36_30_18_1_step (m : Nat) (d : dens l38_36_30_18_1H.tys) : l38_36_30_18_1L.f (m + 1) d = round E18 LL18 m [38, 36, 30, 18] 53 (loopN (bodyOf Try.f38) 0) l38_36_30_18_1L (l38_36_30_18_1L.f m) d := by kernel_rfl
theorem l36_30_18_2_step (m : Nat) (d : dens l36_30_18_2H.tys) : l36_30_18_2L.f (m + 1) d = round E18 LL18 m [36, 30, 18] 63 (loopN (bodyOf Try.f36) 0) l36_30_18_2L (l36_30_18_2L.f m) d := by kernel_rfl
theorem l36_30_18_9_step (m : Nat) (d : dens l36_30_18_9H.tys) : l36_30_18_9L.f (m + 1) d = round E18 LL18 m [36, 30, 18] 63 (loopN (bodyOf Try.f36) 2) l36_30_18_9L (l36_30_18_9L.f m) d := by kernel_rfl
theorem l36_30_18_7_step (m : Nat) (d : dens l36_30_18_7H.tys) : l36_30_18_7L.f (m + 1) d = round E18 LL18 m [36, 30, 18] 63 (loopN (bodyOf Try.f36) 1) l36_30_18_7L (l36_30_18_7L.f m) d := by kernel_rfl
theorem f18_run (k : Nat) (x : denL [.slice (.int .i64)]) : runFn E18 LL18 k 18 Try.f18 [.slice (.int .i64)] [.fresh (.pair (.int .i64) (.int .i64))] x = f18 k x := by kernel_rfl
noncomputable def S18 : Vm.Spec := { ps := [.slice (.int .i64)], rs := [.fresh (.pair (.int .i64) (.int .i64))], f := fun x => f18 fuel x }
theorem f18_holds : Vm.Spec.holds Try.prog 18 S18 := by
  have hB : BodiesOk Try.prog E18 := bodies_ok (by exact ⟨by kernel_rfl, by kernel_rfl, by kernel_rfl, by kernel_rfl, by kernel_rfl, by kernel_rfl, by kernel_rfl, by kernel_rfl, trivial⟩)
  have hBS : BodiesStepped E18 LL18 := by
    refine bodies_stepped ?_
    exact ⟨(fun _ => stepped_noloop (by kernel_rfl)), (fun _ => stepped_noloop (by kernel_rfl)), (stepped_paths [[30, 18]] (by exact ⟨stepped_of (ls := [(2, l36_30_18_2L), (7, l36_30_18_7L), (9, l36_30_18_9L)]) rfl rfl ⟨by kernel_rfl, fun _ => rfl, l36_30_18_2_step, by kernel_rfl, fun _ => rfl, l36_30_18_7_step, by kernel_rfl, fun _ => rfl, l36_30_18_9_step, stepsI_end (by kernel_rfl)⟩,  trivial⟩) rfl), (stepped_paths [[36, 30, 18]] (by exact ⟨stepped_of (ls := [(1, l38_36_30_18_1L), (4, l38_36_30_18_4L)]) rfl rfl ⟨by kernel_rfl, fun _ => rfl, l38_36_30_18_1_step, by kernel_rfl, fun _ => rfl, l38_36_30_18_4_step, stepsI_end (by kernel_rfl)⟩,  trivial⟩) rfl),  trivial⟩
  have hS : SpecsOk Try.prog E18 := specs_ok (by exact ⟨⟨by kernel_rfl, f29_holds⟩, trivial⟩)
  have hE : EOk Try.prog E18 := eok_te ok
  exact fn_sound (L := LL18) hE hS hB (draws_ok hE hS (by kernel_rfl)) hBS (fn := Try.f18) (by kernel_rfl) (c := bodyOf Try.f18) (by kernel_rfl) (stepped_of (ls := [(3, l18_3L), (9, l18_9L)]) rfl rfl ⟨by kernel_rfl, fun _ => rfl, l18_3_step, by kernel_rfl, fun _ => rfl, l18_9_step, stepsI_end (by kernel_rfl)⟩) fun x r h => ⟨fuel, (f18_run fuel x).trans h⟩

/-! gamehall/ranks.top -/
noncomputable def E28 : Env := { te := te, spec := [], body := [] }
def LL28 : Loops := []
def f28 (k : Nat) (a0 : List (Int × Int)) : Option (Int) :=
  if ((a0.length : Int) != 5) = true then
    some (-1)
  else
    if (0 : Int) < a0.length then
      if (4 : Int) < a0.length then
        if (IntKind.i64.wrap (((a0.getD 0 (0, 0)).2) - ((a0.getD 4 (0, 0)).2)) == 4) = true then
          if (0 : Int) < a0.length then
            some ((a0.getD 0 (0, 0)).2)
          else none
        else
          if (0 : Int) < a0.length then
            if ((a0.getD 0 (0, 0)).2 == 12) = true then
              if (1 : Int) < a0.length then
                if ((a0.getD 1 (0, 0)).2 == 3) = true then
                  some 3
                else
                  some (-1)
              else none
            else
              some (-1)
          else none
      else none
    else none
theorem f28_run (k : Nat) (x : denL [.slice (.pair (.int .i64) (.int .i64))]) : runFn E28 LL28 k 28 Try.f28 [.slice (.pair (.int .i64) (.int .i64))] [.imm (.int .i64)] x = f28 k x := by kernel_rfl
noncomputable def S28 : Vm.Spec := { ps := [.slice (.pair (.int .i64) (.int .i64))], rs := [.imm (.int .i64)], f := fun x => f28 fuel x }
theorem f28_holds : Vm.Spec.holds Try.prog 28 S28 := by
  have hB : BodiesOk Try.prog E28 := bodies_none rfl
  have hBS : BodiesStepped E28 LL28 := bodies_stepped_none rfl
  have hS : SpecsOk Try.prog E28 := specs_ok (by exact trivial)
  have hE : EOk Try.prog E28 := eok_te ok
  exact fn_sound (L := LL28) hE hS hB (draws_ok hE hS (by kernel_rfl)) hBS (fn := Try.f28) (by kernel_rfl) (c := bodyOf Try.f28) (by kernel_rfl) (stepped_none rfl) fun x r h => ⟨fuel, (f28_run fuel x).trans h⟩

/-! gamehall/ranks.class -/
noncomputable def E17 : Env := { te := te, spec := [(27, S27), (28, S28)], body := [] }
def l17_3H : Ann := { slots := [(0, .one (.val (.slice (.int .i64)))), (5, .one (.val .bool)), (9, .one (.val (.slice (.int .i64)))), (10, .one (.val (.int .i64))), (11, .one (.val (.int .i64)))], objs := [] }
def l17_3X : Ann := { slots := [(5, .one (.val .bool))], objs := [] }
def l17_3R : Ann := { slots := [], objs := [] }
def l17_3 : Nat → List Int → Bool → List Int → Int → Int → Option (LR l17_3X l17_3R)
  | 0, _, _, _, _, _ => none
  | m + 1, s0, s5, s9, s10, s11 =>
    if decide (s11 < s10) = true then
      if (0 : Int) ≤ s11 then
        if s11 < s9.length then
          if s5 = true then
            if (0 : Int) < s0.length then
              (f27 fuel (s9.getD s11.toNat 0)).bind fun r1 =>
              (f27 fuel (s0.getD 0 0)).bind fun r2 =>
              l17_3 m s0 (r1 == r2) s9 s10 (IntKind.i64.wrap (s11 + 1))
            else none
          else
            l17_3 m s0 false s9 s10 (IntKind.i64.wrap (s11 + 1))
        else none
      else none
    else
      some (.exit (s5, ()))
def l17_3L : LSpec := { h := l17_3H, x := l17_3X, r := l17_3R, xid := 0, rt := false, pins := [], f := fun k d => l17_3 k d.1 d.2.1 d.2.2.1 d.2.2.2.1 d.2.2.2.2.1 }
def LL17 : Loops := [([17], [(3, l17_3L)])]
def f17 (k : Nat) (a0 : List Int) (a1 : List (Int × Int)) : Option (Int) :=
  match l17_3 k a0 true a0 (a0.length : Int) 0 with
  | none => none
  | some (.exit d1) =>
    (f28 fuel a1).bind fun r2 =>
    if decide (r2 ≥ 0) = true then
      if d1.1 = true then
        some 8
      else
        if (0 : Int) < a1.length then
          if ((a1.getD 0 (0, 0)).1 == 4) = true then
            some 7
          else
            if (0 : Int) < a1.length then
              if ((a1.getD 0 (0, 0)).1 == 3) = true then
                if (1 : Int) < a1.length then
                  if ((a1.getD 1 (0, 0)).1 == 2) = true then
                    some 6
                  else
                    if d1.1 = true then
                      some 5
                    else
                      if decide (r2 ≥ 0) = true then
                        some 4
                      else
                        if (0 : Int) < a1.length then
                          if ((a1.getD 0 (0, 0)).1 == 3) = true then
                            some 3
                          else
                            if (0 : Int) < a1.length then
                              if ((a1.getD 0 (0, 0)).1 == 2) = true then
                                if (1 : Int) < a1.length then
                                  if ((a1.getD 1 (0, 0)).1 == 2) = true then
                                    some 2
                                  else
                                    if (0 : Int) < a1.length then
                                      if ((a1.getD 0 (0, 0)).1 == 2) = true then
                                        some 1
                                      else
                                        some 0
                                    else none
                                else none
                              else
                                if (0 : Int) < a1.length then
                                  if ((a1.getD 0 (0, 0)).1 == 2) = true then
                                    some 1
                                  else
                                    some 0
                                else none
                            else none
                        else none
                else none
              else
                if d1.1 = true then
                  some 5
                else
                  if decide (r2 ≥ 0) = true then
                    some 4
                  else
                    if (0 : Int) < a1.length then
                      if ((a1.getD 0 (0, 0)).1 == 3) = true then
                        some 3
                      else
                        if (0 : Int) < a1.length then
                          if ((a1.getD 0 (0, 0)).1 == 2) = true then
                            if (1 : Int) < a1.length then
                              if ((a1.getD 1 (0, 0)).1 == 2) = true then
                                some 2
                              else
                                if (0 : Int) < a1.length then
                                  if ((a1.getD 0 (0, 0)).1 == 2) = true then
                                    some 1
                                  else
                                    some 0
                                else none
                            else none
                          else
                            if (0 : Int) < a1.length then
                              if ((a1.getD 0 (0, 0)).1 == 2) = true then
                                some 1
                              else
                                some 0
                            else none
                        else none
                    else none
            else none
        else none
    else
      if (0 : Int) < a1.length then
        if ((a1.getD 0 (0, 0)).1 == 4) = true then
          some 7
        else
          if (0 : Int) < a1.length then
            if ((a1.getD 0 (0, 0)).1 == 3) = true then
              if (1 : Int) < a1.length then
                if ((a1.getD 1 (0, 0)).1 == 2) = true then
                  some 6
                else
                  if d1.1 = true then
                    some 5
                  else
                    if decide (r2 ≥ 0) = true then
                      some 4
                    else
                      if (0 : Int) < a1.length then
                        if ((a1.getD 0 (0, 0)).1 == 3) = true then
                          some 3
                        else
                          if (0 : Int) < a1.length then
                            if ((a1.getD 0 (0, 0)).1 == 2) = true then
                              if (1 : Int) < a1.length then
                                if ((a1.getD 1 (0, 0)).1 == 2) = true then
                                  some 2
                                else
                                  if (0 : Int) < a1.length then
                                    if ((a1.getD 0 (0, 0)).1 == 2) = true then
                                      some 1
                                    else
                                      some 0
                                  else none
                              else none
                            else
                              if (0 : Int) < a1.length then
                                if ((a1.getD 0 (0, 0)).1 == 2) = true then
                                  some 1
                                else
                                  some 0
                              else none
                          else none
                      else none
              else none
            else
              if d1.1 = true then
                some 5
              else
                if decide (r2 ≥ 0) = true then
                  some 4
                else
                  if (0 : Int) < a1.length then
                    if ((a1.getD 0 (0, 0)).1 == 3) = true then
                      some 3
                    else
                      if (0 : Int) < a1.length then
                        if ((a1.getD 0 (0, 0)).1 == 2) = true then
                          if (1 : Int) < a1.length then
                            if ((a1.getD 1 (0, 0)).1 == 2) = true then
                              some 2
                            else
                              if (0 : Int) < a1.length then
                                if ((a1.getD 0 (0, 0)).1 == 2) = true then
                                  some 1
                                else
                                  some 0
                              else none
                          else none
                        else
                          if (0 : Int) < a1.length then
                            if ((a1.getD 0 (0, 0)).1 == 2) = true then
                              some 1
                            else
                              some 0
                          else none
                      else none
                  else none
          else none
      else none
  | some (.ret d1) =>
    none
theorem l17_3_step (m : Nat) (d : dens l17_3H.tys) : l17_3L.f (m + 1) d = round E17 LL17 m [17] 82 (loopN (bodyOf Try.f17) 0) l17_3L (l17_3L.f m) d := by kernel_rfl
theorem f17_run (k : Nat) (x : denL [.slice (.int .i64), .slice (.pair (.int .i64) (.int .i64))]) : runFn E17 LL17 k 17 Try.f17 [.slice (.int .i64), .slice (.pair (.int .i64) (.int .i64))] [.imm (.int .i64)] x = f17 k x.1 x.2 := by kernel_rfl
noncomputable def S17 : Vm.Spec := { ps := [.slice (.int .i64), .slice (.pair (.int .i64) (.int .i64))], rs := [.imm (.int .i64)], f := fun x => f17 fuel x.1 x.2 }
theorem f17_holds : Vm.Spec.holds Try.prog 17 S17 := by
  have hB : BodiesOk Try.prog E17 := bodies_none rfl
  have hBS : BodiesStepped E17 LL17 := bodies_stepped_none rfl
  have hS : SpecsOk Try.prog E17 := specs_ok (by exact ⟨⟨by kernel_rfl, f27_holds⟩, ⟨by kernel_rfl, f28_holds⟩, trivial⟩)
  have hE : EOk Try.prog E17 := eok_te ok
  exact fn_sound (L := LL17) hE hS hB (draws_ok hE hS (by kernel_rfl)) hBS (fn := Try.f17) (by kernel_rfl) (c := bodyOf Try.f17) (by kernel_rfl) (stepped_of (ls := [(3, l17_3L)]) rfl rfl ⟨by kernel_rfl, fun _ => rfl, l17_3_step, stepsI_end (by kernel_rfl)⟩) fun x r h => ⟨fuel, (f17_run fuel x).trans h⟩

/-! gamehall/ranks.Class -/
noncomputable def E7 : Env := { te := te, spec := [(16, S16), (17, S17), (18, S18)], body := [] }
def LL7 : Loops := []
def f7 (k : Nat) (a0 : List Int) : Option (Int × Int) :=
  (f16 fuel a0).bind fun r1 =>
  if (r1 != 0) = true then
    some (0, r1)
  else
    (f18 fuel a0).bind fun r2 =>
    (f17 fuel a0 r2).bind fun r3 =>
    some (r3, 0)
theorem f7_run (k : Nat) (x : denL [.slice (.int .i64)]) : runFn E7 LL7 k 7 Try.f7 [.slice (.int .i64)] [.imm (.int .i64), .imm (.int .i64)] x = f7 k x := by kernel_rfl
noncomputable def S7 : Vm.Spec := { ps := [.slice (.int .i64)], rs := [.imm (.int .i64), .imm (.int .i64)], f := fun x => f7 fuel x }
theorem f7_holds : Vm.Spec.holds Try.prog 7 S7 := by
  have hB : BodiesOk Try.prog E7 := bodies_none rfl
  have hBS : BodiesStepped E7 LL7 := bodies_stepped_none rfl
  have hS : SpecsOk Try.prog E7 := specs_ok (by exact ⟨⟨by kernel_rfl, f16_holds⟩, ⟨by kernel_rfl, f17_holds⟩, ⟨by kernel_rfl, f18_holds⟩, trivial⟩)
  have hE : EOk Try.prog E7 := eok_te ok
  exact fn_sound (L := LL7) hE hS hB (draws_ok hE hS (by kernel_rfl)) hBS (fn := Try.f7) (by kernel_rfl) (c := bodyOf Try.f7) (by kernel_rfl) (stepped_none rfl) fun x r h => ⟨fuel, (f7_run fuel x).trans h⟩

/-! gamehall/ranks.value -/
noncomputable def E19 : Env := { te := te, spec := [(17, S17), (18, S18), (28, S28)], body := [] }
def l19_7H : Ann := { slots := [(3, .one (.own 72 (.pair (.int .i64) (.int .i64)))), (4, .one (.val (.int .i64))), (19, .one (.val (.int .i64)))], objs := [(72, .buf (.pair (.int .i64) (.int .i64)))] }
def l19_7X : Ann := { slots := [(4, .one (.val (.int .i64)))], objs := [(72, .buf (.pair (.int .i64) (.int .i64)))] }
def l19_7R : Ann := { slots := [], objs := [] }
def l19_7 : Nat → Int → Int → List (Int × Int) → Option (LR l19_7X l19_7R)
  | 0, _, _, _ => none
  | m + 1, s4, s19, b72 =>
    if decide (s19 < 5) = true then
      if decide (s19 < (b72.length : Int)) = true then
        if (0 : Int) ≤ s19 then
          if s19 < b72.length then
            l19_7 m (IntKind.i64.wrap ((IntKind.i64.wrap (s4 * 13)) + ((b72.getD s19.toNat (0, 0)).2))) (IntKind.i64.wrap (s19 + 1)) b72
          else none
        else none
      else
        l19_7 m (IntKind.i64.wrap (s4 * 13)) (IntKind.i64.wrap (s19 + 1)) b72
    else
      some (.exit (s4, b72, ()))
def l19_7L : LSpec := { h := l19_7H, x := l19_7X, r := l19_7R, xid := 0, rt := false, pins := [72], f := fun k d => l19_7 k d.1 d.2.1 d.2.2.1 }
def LL19 : Loops := [([19], [(7, l19_7L)])]
def f19 (k : Nat) (a0 : List Int) : Option (Int) :=
  (f18 fuel a0).bind fun r1 =>
  (f17 fuel a0 r1).bind fun r2 =>
  (f28 fuel r1).bind fun r3 =>
  if decide (r3 ≥ 0) = true then
    match l19_7 k r2 0 [(1, r3)] with
    | none => none
    | some (.exit d4) =>
      some d4.1
    | some (.ret d4) =>
      none
  else
    match l19_7 k r2 0 r1 with
    | none => none
    | some (.exit d5) =>
      some d5.1
    | some (.ret d5) =>
      none
theorem l19_7_step (m : Nat) (d : dens l19_7H.tys) : l19_7L.f (m + 1) d = round E19 LL19 m [19] 37 (loopN (bodyOf Try.f19) 0) l19_7L (l19_7L.f m) d := by kernel_rfl
theorem f19_run (k : Nat) (x : denL [.slice (.int .i64)]) : runFn E19 LL19 k 19 Try.f19 [.slice (.int .i64)] [.imm (.int .i64)] x = f19 k x := by kernel_rfl
noncomputable def S19 : Vm.Spec := { ps := [.slice (.int .i64)], rs := [.imm (.int .i64)], f := fun x => f19 fuel x }
theorem f19_holds : Vm.Spec.holds Try.prog 19 S19 := by
  have hB : BodiesOk Try.prog E19 := bodies_none rfl
  have hBS : BodiesStepped E19 LL19 := bodies_stepped_none rfl
  have hS : SpecsOk Try.prog E19 := specs_ok (by exact ⟨⟨by kernel_rfl, f17_holds⟩, ⟨by kernel_rfl, f18_holds⟩, ⟨by kernel_rfl, f28_holds⟩, trivial⟩)
  have hE : EOk Try.prog E19 := eok_te ok
  exact fn_sound (L := LL19) hE hS hB (draws_ok hE hS (by kernel_rfl)) hBS (fn := Try.f19) (by kernel_rfl) (c := bodyOf Try.f19) (by kernel_rfl) (stepped_of (ls := [(7, l19_7L)]) rfl rfl ⟨by kernel_rfl, fun _ => rfl, l19_7_step, stepsI_end (by kernel_rfl)⟩) fun x r h => ⟨fuel, (f19_run fuel x).trans h⟩

/-! gamehall/ranks.Value -/
noncomputable def E8 : Env := { te := te, spec := [(16, S16), (19, S19)], body := [] }
def LL8 : Loops := []
def f8 (k : Nat) (a0 : List Int) : Option (Int × Int) :=
  (f16 fuel a0).bind fun r1 =>
  if (r1 != 0) = true then
    some (0, r1)
  else
    (f19 fuel a0).bind fun r2 =>
    some (r2, 0)
theorem f8_run (k : Nat) (x : denL [.slice (.int .i64)]) : runFn E8 LL8 k 8 Try.f8 [.slice (.int .i64)] [.imm (.int .i64), .imm (.int .i64)] x = f8 k x := by kernel_rfl
noncomputable def S8 : Vm.Spec := { ps := [.slice (.int .i64)], rs := [.imm (.int .i64), .imm (.int .i64)], f := fun x => f8 fuel x }
theorem f8_holds : Vm.Spec.holds Try.prog 8 S8 := by
  have hB : BodiesOk Try.prog E8 := bodies_none rfl
  have hBS : BodiesStepped E8 LL8 := bodies_stepped_none rfl
  have hS : SpecsOk Try.prog E8 := specs_ok (by exact ⟨⟨by kernel_rfl, f16_holds⟩, ⟨by kernel_rfl, f19_holds⟩, trivial⟩)
  have hE : EOk Try.prog E8 := eok_te ok
  exact fn_sound (L := LL8) hE hS hB (draws_ok hE hS (by kernel_rfl)) hBS (fn := Try.f8) (by kernel_rfl) (c := bodyOf Try.f8) (by kernel_rfl) (stepped_none rfl) fun x r h => ⟨fuel, (f8_run fuel x).trans h⟩

/-! slices.Clone[[]int,int] -/
noncomputable def E23 : Env := { te := te, spec := [], body := [] }
def LL23 : Loops := []
def f23 (k : Nat) (a0 : Option (List Int)) : Option (List Int) :=
  if a0.isNone = true then
    some []
  else
    if (0 + (a0.getD []).length) * 8 ≤ 140737488355328 then
      some ([] ++ (a0.getD []))
    else none
theorem f23_run (k : Nat) (x : denL [.nsl (.int .i64)]) : runFn E23 LL23 k 23 Try.f23 [.nsl (.int .i64)] [.fresh (.int .i64)] x = f23 k x := by kernel_rfl
noncomputable def S23 : Vm.Spec := { ps := [.nsl (.int .i64)], rs := [.fresh (.int .i64)], f := fun x => f23 fuel x }
theorem f23_holds : Vm.Spec.holds Try.prog 23 S23 := by
  have hB : BodiesOk Try.prog E23 := bodies_none rfl
  have hBS : BodiesStepped E23 LL23 := bodies_stepped_none rfl
  have hS : SpecsOk Try.prog E23 := specs_ok (by exact trivial)
  have hE : EOk Try.prog E23 := eok_te ok
  exact fn_sound (L := LL23) hE hS hB (draws_ok hE hS (by kernel_rfl)) hBS (fn := Try.f23) (by kernel_rfl) (c := bodyOf Try.f23) (by kernel_rfl) (stepped_none rfl) fun x r h => ⟨fuel, (f23_run fuel x).trans h⟩

def f23s (x : List Int) := f23 fuel (some x)
noncomputable def S23s : Vm.Spec := { ps := [.slice (.int .i64)], rs := [.fresh (.int .i64)], f := f23s }
theorem f23s_holds : Vm.Spec.holds Try.prog 23 S23s := holds_nsl f23_holds fun xs r h => ⟨h, fun e => by subst e; exact h⟩

/-! gamehall/ranks.Best -/
noncomputable def E10 : Env := { te := te, spec := [(19, S19), (22, S22), (23, S23s)], body := [] }
def l10_13H : Ann := { slots := [(0, .one (.val (.slice (.int .i64)))), (9, .one (.own 156 (.int .i64))), (27, .one (.own 104 (.int .i64))), (28, .one (.val (.int .i64))), (29, .one (.val (.int .i64)))], objs := [(156, .buf (.int .i64)), (104, .buf (.int .i64))] }
def l10_13X : Ann := { slots := [(9, .one (.own 156 (.int .i64)))], objs := [(156, .buf (.int .i64)), (104, .buf (.int .i64))] }
def l10_13R : Ann := { slots := [], objs := [] }
def l10_21H : Ann := { slots := [(0, .one (.val (.slice (.int .i64)))), (8, .one (.own 104 (.int .i64))), (13, .one (.val (.int .i64)))], objs := [(104, .buf (.int .i64))] }
def l10_21X : Ann := { slots := [(8, .one (.own 104 (.int .i64))), (13, .one (.val (.int .i64)))], objs := [(104, .buf (.int .i64))] }
def l10_21R : Ann := { slots := [], objs := [] }
def l10_27H : Ann := { slots := [(8, .one (.own 104 (.int .i64))), (14, .one (.val (.int .i64)))], objs := [(104, .buf (.int .i64))] }
def l10_27X : Ann := { slots := [(8, .one (.own 104 (.int .i64)))], objs := [(104, .buf (.int .i64))] }
def l10_27R : Ann := { slots := [], objs := [] }
def l10_11H : Ann := { slots := [(0, .one (.val (.slice (.int .i64)))), (6, .one (.own 192 (.int .i64))), (7, .one (.val (.int .i64))), (8, .one (.own 104 (.int .i64)))], objs := [(192, .buf (.int .i64)), (104, .buf (.int .i64))] }
def l10_11X : Ann := { slots := [], objs := [] }
def l10_11R : Ann := { slots := [(2, .one (.own 192 (.int .i64))), (3, .one (.val (.int .i64))), (4, .one (.val (.int .i64)))], objs := [(192, .buf (.int .i64)), (104, .buf (.int .i64))] }
def l10_13 : Nat → List Int → Int → Int → List Int → List Int → Option (LR l10_13X l10_13R)
  | 0, _, _, _, _, _ => none
  | m + 1, s0, s28, s29, b156, b104 =>
    if decide (s29 < s28) = true then
      if (0 : Int) ≤ s29 then
        if s29 < b104.length then
          if (0 : Int) ≤ b104.getD s29.toNat 0 then
            if b104.getD s29.toNat 0 < s0.length then
              if (b156.length + 1) * 8 ≤ 140737488355328 then
                l10_13 m s0 s28 (IntKind.i64.wrap (s29 + 1)) (b156 ++ [s0.getD ((b104.getD s29.toNat 0).toNat) 0]) b104
              else none
            else none
          else none
        else none
      else none
    else
      some (.exit (b156, b104, ()))
def l10_13L : LSpec := { h := l10_13H, x := l10_13X, r := l10_13R, xid := 2, rt := false, pins := [104], f := fun k d => l10_13 k d.1 d.2.1 d.2.2.1 d.2.2.2.1 d.2.2.2.2.1 }
def l10_21 : Nat → List Int → Int → List Int → Option (LR l10_21X l10_21R)
  | 0, _, _, _ => none
  | m + 1, s0, s13, b104 =>
    if decide (s13 ≥ 0) = true then
      if (0 : Int) ≤ s13 then
        if s13 < b104.length then
          if (b104.getD s13.toNat 0 == IntKind.i64.wrap ((IntKind.i64.wrap ((s0.length : Int) - 5)) + s13)) = true then
            l10_21 m s0 (IntKind.i64.wrap (s13 - 1)) b104
          else
            some (.exit (s13, b104, ()))
        else none
      else none
    else
      some (.exit (s13, b104, ()))
def l10_21L : LSpec := { h := l10_21H, x := l10_21X, r := l10_21R, xid := 4, rt := false, pins := [104], f := fun k d => l10_21 k d.1 d.2.1 d.2.2.1 }
def l10_27 : Nat → Int → List Int → Option (LR l10_27X l10_27R)
  | 0, _, _ => none
  | m + 1, s14, b104 =>
    if decide (s14 < 5) = true then
      if (0 : Int) ≤ IntKind.i64.wrap (s14 - 1) then
        if IntKind.i64.wrap (s14 - 1) < b104.length then
          if (0 : Int) ≤ s14 then
            if s14 < b104.length then
              l10_27 m (IntKind.i64.wrap (s14 + 1)) (b104.set s14.toNat (IntKind.i64.wrap ((b104.getD ((IntKind.i64.wrap (s14 - 1)).toNat) 0) + 1)))
            else none
          else none
        else none
      else none
    else
      some (.exit (b104, ()))
def l10_27L : LSpec := { h := l10_27H, x := l10_27X, r := l10_27R, xid := 6, rt := false, pins := [104], f := fun k d => l10_27 k d.1 d.2.1 }
def l10_11 : Nat → List Int → Int → List Int → List Int → Option (LR l10_11X l10_11R)
  | 0, _, _, _, _ => none
  | m + 1, s0, s7, b192, b104 =>
    match l10_13 m s0 (b104.length : Int) 0 [] b104 with
    | none => none
    | some (.exit d1) =>
      (f19 fuel d1.1).bind fun r2 =>
      if decide (r2 > s7) = true then
        (f23s d1.2.1).bind fun r3 =>
        match l10_21 m s0 4 d1.2.1 with
        | none => none
        | some (.exit d4) =>
          if decide (d4.1 < 0) = true then
            some (.ret (r2, 0, r3, d4.2.1, ()))
          else
            if (0 : Int) ≤ d4.1 then
              if d4.1 < d4.2.1.length then
                if (0 : Int) ≤ d4.1 then
                  if d4.1 < d4.2.1.length then
                    match l10_27 m (IntKind.i64.wrap (d4.1 + 1)) (d4.2.1.set d4.1.toNat (IntKind.i64.wrap ((d4.2.1.getD d4.1.toNat 0) + 1))) with
                    | none => none
                    | some (.exit d5) =>
                      l10_11 m s0 r2 r3 d5.1
                    | some (.ret d5) =>
                      none
                  else none
                else none
              else none
            else none
        | some (.ret d4) =>
          none
      else
        match l10_21 m s0 4 d1.2.1 with
        | none => none
        | some (.exit d6) =>
          if decide (d6.1 < 0) = true then
            some (.ret (s7, 0, b192, d6.2.1, ()))
          else
            if (0 : Int) ≤ d6.1 then
              if d6.1 < d6.2.1.length then
                if (0 : Int) ≤ d6.1 then
                  if d6.1 < d6.2.1.length then
                    match l10_27 m (IntKind.i64.wrap (d6.1 + 1)) (d6.2.1.set d6.1.toNat (IntKind.i64.wrap ((d6.2.1.getD d6.1.toNat 0) + 1))) with
                    | none => none
                    | some (.exit d7) =>
                      l10_11 m s0 s7 b192 d7.1
                    | some (.ret d7) =>
                      none
                  else none
                else none
              else none
            else none
        | some (.ret d6) =>
          none
    | some (.ret d1) =>
      none
def l10_11L : LSpec := { h := l10_11H, x := l10_11X, r := l10_11R, xid := 0, rt := true, pins := [104], f := fun k d => l10_11 k d.1 d.2.1 d.2.2.1 d.2.2.2.1 }
def LL10 : Loops := [([10], [(11, l10_11L), (13, l10_13L), (21, l10_21L), (27, l10_27L)])]
def f10 (k : Nat) (a0 : List Int) : Option (List Int × Int × Int) :=
  (f22 fuel a0).bind fun r1 =>
  if (r1 != 0) = true then
    some ([], 0, r1)
  else
    if decide ((a0.length : Int) < 5) = true then
      some ([], 0, 8)
    else
      if decide ((a0.length : Int) > 9) = true then
        some ([], 0, 2)
      else
        match l10_11 k a0 (-1) [] [0, 1, 2, 3, 4] with
        | none => none
        | some (.exit d2) =>
          none
        | some (.ret d2) =>
          some (d2.2.2.1, d2.1, d2.2.1)
theorem l10_13_step (m : Nat) (d : dens l10_13H.tys) : l10_13L.f (m + 1) d = round E10 LL10 m [10] 90 (loopN (bodyOf Try.f10) 1) l10_13L (l10_13L.f m) d := by kernel_rfl
theorem l10_21_step (m : Nat) (d : dens l10_21H.tys) : l10_21L.f (m + 1) d = round E10 LL10 m [10] 90 (loopN (bodyOf Try.f10) 2) l10_21L (l10_21L.f m) d := by kernel_rfl
theorem l10_27_step (m : Nat) (d : dens l10_27H.tys) : l10_27L.f (m + 1) d = round E10 LL10 m [10] 90 (loopN (bodyOf Try.f10) 3) l10_27L (l10_27L.f m) d := by kernel_rfl
theorem l10_11_step (m : Nat) (d : dens l10_11H.tys) : l10_11L.f (m + 1) d = round E10 LL10 m [10] 90 (loopN (bodyOf Try.f10) 0) l10_11L (l10_11L.f m) d := by kernel_rfl
theorem f10_run (k : Nat) (x : denL [.slice (.int .i64)]) : runFn E10 LL10 k 10 Try.f10 [.slice (.int .i64)] [.fresh (.int .i64), .imm (.int .i64), .imm (.int .i64)] x = f10 k x := by kernel_rfl
noncomputable def S10 : Vm.Spec := { ps := [.slice (.int .i64)], rs := [.fresh (.int .i64), .imm (.int .i64), .imm (.int .i64)], f := fun x => f10 fuel x }
theorem f10_holds : Vm.Spec.holds Try.prog 10 S10 := by
  have hB : BodiesOk Try.prog E10 := bodies_none rfl
  have hBS : BodiesStepped E10 LL10 := bodies_stepped_none rfl
  have hS : SpecsOk Try.prog E10 := specs_ok (by exact ⟨⟨by kernel_rfl, f19_holds⟩, ⟨by kernel_rfl, f22_holds⟩, ⟨by kernel_rfl, f23s_holds⟩, trivial⟩)
  have hE : EOk Try.prog E10 := eok_te ok
  exact fn_sound (L := LL10) hE hS hB (draws_ok hE hS (by kernel_rfl)) hBS (fn := Try.f10) (by kernel_rfl) (c := bodyOf Try.f10) (by kernel_rfl) (stepped_of (ls := [(11, l10_11L), (13, l10_13L), (21, l10_21L), (27, l10_27L)]) rfl rfl ⟨by kernel_rfl, fun _ => rfl, l10_11_step, by kernel_rfl, fun _ => rfl, l10_13_step, by kernel_rfl, fun _ => rfl, l10_21_step, by kernel_rfl, fun _ => rfl, l10_27_step, stepsI_end (by kernel_rfl)⟩) fun x r h => ⟨fuel, (f10_run fuel x).trans h⟩

/-! cmp.Less[int] -/
noncomputable def E24 : Env := { te := te, spec := [], body := [(34, Try.f34)] }
def LL24 : Loops := []
def f24 (k : Nat) (a0 : Int) (a1 : Int) : Option (Bool) :=
  if (a0 != a0) = true then
    if (!(a1 != a1)) = false then
      some (decide (a0 < a1))
    else
      some true
  else
    some (decide (a0 < a1))
theorem f24_run (k : Nat) (x : denL [.int .i64, .int .i64]) : runFn E24 LL24 k 24 Try.f24 [.int .i64, .int .i64] [.imm .bool] x = f24 k x.1 x.2 := by kernel_rfl
noncomputable def S24 : Vm.Spec := { ps := [.int .i64, .int .i64], rs := [.imm .bool], f := fun x => f24 fuel x.1 x.2 }
theorem f24_holds : Vm.Spec.holds Try.prog 24 S24 := by
  have hB : BodiesOk Try.prog E24 := bodies_ok (by exact ⟨by kernel_rfl, by kernel_rfl, trivial⟩)
  have hBS : BodiesStepped E24 LL24 := by
    refine bodies_stepped ?_
    exact ⟨(fun _ => stepped_noloop (by kernel_rfl)),  trivial⟩
  have hS : SpecsOk Try.prog E24 := specs_ok (by exact trivial)
  have hE : EOk Try.prog E24 := eok_te ok
  exact fn_sound (L := LL24) hE hS hB (draws_ok hE hS (by kernel_rfl)) hBS (fn := Try.f24) (by kernel_rfl) (c := bodyOf Try.f24) (by kernel_rfl) (stepped_none rfl) fun x r h => ⟨fuel, (f24_run fuel x).trans h⟩

/-! slices.IsSorted[[]int,int] -/
noncomputable def E11 : Env := { te := te, spec := [(24, S24)], body := [] }
def l11_2H : Ann := { slots := [(0, .one (.val (.slice (.int .i64)))), (3, .one (.val (.int .i64)))], objs := [] }
def l11_2X : Ann := { slots := [], objs := [] }
def l11_2R : Ann := { slots := [(2, .one (.val .bool))], objs := [] }
def l11_2 : Nat → List Int → Int → Option (LR l11_2X l11_2R)
  | 0, _, _ => none
  | m + 1, s0, s3 =>
    if decide (s3 > 0) = true then
      if (0 : Int) ≤ s3 then
        if s3 < s0.length then
          if (0 : Int) ≤ IntKind.i64.wrap (s3 - 1) then
            if IntKind.i64.wrap (s3 - 1) < s0.length then
              (f24 fuel (s0.getD s3.toNat 0) (s0.getD ((IntKind.i64.wrap (s3 - 1)).toNat) 0)).bind fun r1 =>
              if r1 = true then
                some (.ret (false, ()))
              else
                l11_2 m s0 (IntKind.i64.wrap (s3 - 1))
            else none
          else none
        else none
      else none
    else
      some (.exit ())
def l11_2L : LSpec := { h := l11_2H, x := l11_2X, r := l11_2R, xid := 0, rt := true, pins := [], f := fun k d => l11_2 k d.1 d.2.1 }
def LL11 : Loops := [([11], [(2, l11_2L)])]
def f11 (k : Nat) (a0 : List Int) : Option (Bool) :=
  match l11_2 k a0 (IntKind.i64.wrap ((a0.length : Int) - 1)) with
  | none => none
  | some (.exit d1) =>
    some true
  | some (.ret d1) =>
    some d1.1
theorem l11_2_step (m : Nat) (d : dens l11_2H.tys) : l11_2L.f (m + 1) d = round E11 LL11 m [11] 21 (loopN (bodyOf Try.f11) 0) l11_2L (l11_2L.f m) d := by kernel_rfl
theorem f11_run (k : Nat) (x : denL [.slice (.int .i64)]) : runFn E11 LL11 k 11 Try.f11 [.slice (.int .i64)] [.imm .bool] x = f11 k x := by kernel_rfl
noncomputable def S11 : Vm.Spec := { ps := [.slice (.int .i64)], rs := [.imm .bool], f := fun x => f11 fuel x }
theorem f11_holds : Vm.Spec.holds Try.prog 11 S11 := by
  have hB : BodiesOk Try.prog E11 := bodies_none rfl
  have hBS : BodiesStepped E11 LL11 := bodies_stepped_none rfl
  have hS : SpecsOk Try.prog E11 := specs_ok (by exact ⟨⟨by kernel_rfl, f24_holds⟩, trivial⟩)
  have hE : EOk Try.prog E11 := eok_te ok
  exact fn_sound (L := LL11) hE hS hB (draws_ok hE hS (by kernel_rfl)) hBS (fn := Try.f11) (by kernel_rfl) (c := bodyOf Try.f11) (by kernel_rfl) (stepped_of (ls := [(2, l11_2L)]) rfl rfl ⟨by kernel_rfl, fun _ => rfl, l11_2_step, stepsI_end (by kernel_rfl)⟩) fun x r h => ⟨fuel, (f11_run fuel x).trans h⟩

/-! gamehall/gamehallkeep2.pick -/
noncomputable def E12 : Env := { te := te, spec := [], body := [] }
def LL12 : Loops := []
def f12 (k : Nat) (a0 : Int) (a1 : Int) : Option (Int) :=
  if IntKind.u64.wrap (a1) = 0 then
    none
  else
    some (IntKind.i64.wrap ((IntKind.u64.wrap (a0)).tmod (IntKind.u64.wrap (a1))))
theorem f12_run (k : Nat) (x : denL [.int .i64, .int .i64]) : runFn E12 LL12 k 12 Try.f12 [.int .i64, .int .i64] [.imm (.int .i64)] x = f12 k x.1 x.2 := by kernel_rfl
noncomputable def S12 : Vm.Spec := { ps := [.int .i64, .int .i64], rs := [.imm (.int .i64)], f := fun x => f12 fuel x.1 x.2 }
theorem f12_holds : Vm.Spec.holds Try.prog 12 S12 := by
  have hB : BodiesOk Try.prog E12 := bodies_none rfl
  have hBS : BodiesStepped E12 LL12 := bodies_stepped_none rfl
  have hS : SpecsOk Try.prog E12 := specs_ok (by exact trivial)
  have hE : EOk Try.prog E12 := eok_te ok
  exact fn_sound (L := LL12) hE hS hB (draws_ok hE hS (by kernel_rfl)) hBS (fn := Try.f12) (by kernel_rfl) (c := bodyOf Try.f12) (by kernel_rfl) (stepped_none rfl) fun x r h => ⟨fuel, (f12_run fuel x).trans h⟩

/-! gamehall/cards.Fits -/
noncomputable def E25 : Env := { te := te, spec := [], body := [] }
def l25_4H : Ann := { slots := [(0, .one (.val (.int .i64))), (13, .one (.val (.slice (.int .i64)))), (14, .one (.val (.int .i64))), (15, .one (.val (.int .i64)))], objs := [] }
def l25_4X : Ann := { slots := [], objs := [] }
def l25_4R : Ann := { slots := [(4, .one (.val (.int .i64)))], objs := [] }
def l25_4 : Nat → Int → List Int → Int → Int → Option (LR l25_4X l25_4R)
  | 0, _, _, _, _ => none
  | m + 1, s0, s13, s14, s15 =>
    if decide (s15 < s14) = true then
      if (0 : Int) ≤ s15 then
        if s15 < s13.length then
          if decide (s13.getD s15.toNat 0 < 0) = false then
            if decide (s13.getD s15.toNat 0 > IntKind.i64.wrap ((IntKind.i64.wrap (s0 - 1)) - s15)) = true then
              some (.ret (4, ()))
            else
              l25_4 m s0 s13 s14 (IntKind.i64.wrap (s15 + 1))
          else
            some (.ret (4, ()))
        else none
      else none
    else
      some (.exit ())
def l25_4L : LSpec := { h := l25_4H, x := l25_4X, r := l25_4R, xid := 0, rt := true, pins := [], f := fun k d => l25_4 k d.1 d.2.1 d.2.2.1 d.2.2.2.1 }
def LL25 : Loops := [([25], [(4, l25_4L)])]
def f25 (k : Nat) (a0 : Int) (a1 : List Int) : Option (Int) :=
  if ((a1.length : Int) != (if IntKind.i64.wrap (a0 - 1) > 0 then IntKind.i64.wrap (a0 - 1) else 0)) = true then
    some 3
  else
    match l25_4 k a0 a1 (a1.length : Int) 0 with
    | none => none
    | some (.exit d1) =>
      some 0
    | some (.ret d1) =>
      some d1.1
theorem l25_4_step (m : Nat) (d : dens l25_4H.tys) : l25_4L.f (m + 1) d = round E25 LL25 m [25] 31 (loopN (bodyOf Try.f25) 0) l25_4L (l25_4L.f m) d := by kernel_rfl
theorem f25_run (k : Nat) (x : denL [.int .i64, .slice (.int .i64)]) : runFn E25 LL25 k 25 Try.f25 [.int .i64, .slice (.int .i64)] [.imm (.int .i64)] x = f25 k x.1 x.2 := by kernel_rfl
noncomputable def S25 : Vm.Spec := { ps := [.int .i64, .slice (.int .i64)], rs := [.imm (.int .i64)], f := fun x => f25 fuel x.1 x.2 }
theorem f25_holds : Vm.Spec.holds Try.prog 25 S25 := by
  have hB : BodiesOk Try.prog E25 := bodies_none rfl
  have hBS : BodiesStepped E25 LL25 := bodies_stepped_none rfl
  have hS : SpecsOk Try.prog E25 := specs_ok (by exact trivial)
  have hE : EOk Try.prog E25 := eok_te ok
  exact fn_sound (L := LL25) hE hS hB (draws_ok hE hS (by kernel_rfl)) hBS (fn := Try.f25) (by kernel_rfl) (c := bodyOf Try.f25) (by kernel_rfl) (stepped_of (ls := [(4, l25_4L)]) rfl rfl ⟨by kernel_rfl, fun _ => rfl, l25_4_step, stepsI_end (by kernel_rfl)⟩) fun x r h => ⟨fuel, (f25_run fuel x).trans h⟩

/-! gamehall/cards.Shuffle -/
noncomputable def E13 : Env := { te := te, spec := [(22, S22), (23, S23s), (25, S25)], body := [] }
def l13_9H : Ann := { slots := [(8, .one (.own 100 (.int .i64))), (26, .one (.val (.slice (.int .i64)))), (27, .one (.val (.int .i64))), (28, .one (.val (.int .i64)))], objs := [(100, .buf (.int .i64))] }
def l13_9X : Ann := { slots := [(8, .one (.own 100 (.int .i64)))], objs := [(100, .buf (.int .i64))] }
def l13_9R : Ann := { slots := [], objs := [] }
def l13_9 : Nat → List Int → Int → Int → List Int → Option (LR l13_9X l13_9R)
  | 0, _, _, _, _ => none
  | m + 1, s26, s27, s28, b100 =>
    if decide (s28 < s27) = true then
      if (0 : Int) ≤ s28 then
        if s28 < s26.length then
          if (0 : Int) ≤ s26.getD s28.toNat 0 then
            if s26.getD s28.toNat 0 < b100.length then
              if (0 : Int) ≤ IntKind.i64.wrap ((IntKind.i64.wrap ((b100.length : Int) - 1)) - s28) then
                if IntKind.i64.wrap ((IntKind.i64.wrap ((b100.length : Int) - 1)) - s28) < b100.length then
                  if (0 : Int) ≤ IntKind.i64.wrap ((IntKind.i64.wrap ((b100.length : Int) - 1)) - s28) then
                    if IntKind.i64.wrap ((IntKind.i64.wrap ((b100.length : Int) - 1)) - s28) < b100.length then
                      if (0 : Int) ≤ s26.getD s28.toNat 0 then
                        if s26.getD s28.toNat 0 < (b100.set ((IntKind.i64.wrap ((IntKind.i64.wrap ((b100.length : Int) - 1)) - s28)).toNat) (b100.getD ((s26.getD s28.toNat 0).toNat) 0)).length then
                          l13_9 m s26 s27 (IntKind.i64.wrap (s28 + 1)) ((b100.set ((IntKind.i64.wrap ((IntKind.i64.wrap ((b100.length : Int) - 1)) - s28)).toNat) (b100.getD ((s26.getD s28.toNat 0).toNat) 0)).set ((s26.getD s28.toNat 0).toNat) (b100.getD ((IntKind.i64.wrap ((IntKind.i64.wrap ((b100.length : Int) - 1)) - s28)).toNat) 0))
                        else none
                      else none
                    else none
                  else none
                else none
              else none
            else none
          else none
        else none
      else none
    else
      some (.exit (b100, ()))
def l13_9L : LSpec := { h := l13_9H, x := l13_9X, r := l13_9R, xid := 0, rt := false, pins := [100], f := fun k d => l13_9 k d.1 d.2.1 d.2.2.1 d.2.2.2.1 }
def LL13 : Loops := [([13], [(9, l13_9L)])]
def f13 (k : Nat) (a0 : List Int) (a1 : List Int) : Option (List Int × Int) :=
  (f22 fuel a0).bind fun r1 =>
  if (r1 != 0) = true then
    some ([], r1)
  else
    (f25 fuel (a0.length : Int) a1).bind fun r2 =>
    if (r2 != 0) = true then
      some ([], r2)
    else
      (f23s a0).bind fun r3 =>
      match l13_9 k a1 (a1.length : Int) 0 r3 with
      | none => none
      | some (.exit d4) =>
        some (d4.1, 0)
      | some (.ret d4) =>
        none
theorem l13_9_step (m : Nat) (d : dens l13_9H.tys) : l13_9L.f (m + 1) d = round E13 LL13 m [13] 54 (loopN (bodyOf Try.f13) 0) l13_9L (l13_9L.f m) d := by kernel_rfl
theorem f13_run (k : Nat) (x : denL [.slice (.int .i64), .slice (.int .i64)]) : runFn E13 LL13 k 13 Try.f13 [.slice (.int .i64), .slice (.int .i64)] [.fresh (.int .i64), .imm (.int .i64)] x = f13 k x.1 x.2 := by kernel_rfl
noncomputable def S13 : Vm.Spec := { ps := [.slice (.int .i64), .slice (.int .i64)], rs := [.fresh (.int .i64), .imm (.int .i64)], f := fun x => f13 fuel x.1 x.2 }
theorem f13_holds : Vm.Spec.holds Try.prog 13 S13 := by
  have hB : BodiesOk Try.prog E13 := bodies_none rfl
  have hBS : BodiesStepped E13 LL13 := bodies_stepped_none rfl
  have hS : SpecsOk Try.prog E13 := specs_ok (by exact ⟨⟨by kernel_rfl, f22_holds⟩, ⟨by kernel_rfl, f23s_holds⟩, ⟨by kernel_rfl, f25_holds⟩, trivial⟩)
  have hE : EOk Try.prog E13 := eok_te ok
  exact fn_sound (L := LL13) hE hS hB (draws_ok hE hS (by kernel_rfl)) hBS (fn := Try.f13) (by kernel_rfl) (c := bodyOf Try.f13) (by kernel_rfl) (stepped_of (ls := [(9, l13_9L)]) rfl rfl ⟨by kernel_rfl, fun _ => rfl, l13_9_step, stepsI_end (by kernel_rfl)⟩) fun x r h => ⟨fuel, (f13_run fuel x).trans h⟩

/-! slices.Concat[[]int,int] -/
noncomputable def E26 : Env := { te := te, spec := [], body := [(35, Try.f35)] }
def l26_3H : Ann := { slots := [(3, .one (.val (.int .i64))), (9, .one (.val (.slice (.slice (.int .i64))))), (10, .one (.val (.int .i64))), (11, .one (.val (.int .i64)))], objs := [] }
def l26_3X : Ann := { slots := [(3, .one (.val (.int .i64)))], objs := [] }
def l26_3R : Ann := { slots := [], objs := [] }
def l26_11H : Ann := { slots := [(6, .one (.pre 4088 (.int .i64))), (25, .one (.val (.slice (.slice (.int .i64))))), (26, .one (.val (.int .i64))), (27, .one (.val (.int .i64)))], objs := [(4088, .buf (.int .i64))] }
def l26_11X : Ann := { slots := [(6, .one (.pre 4088 (.int .i64)))], objs := [(4088, .buf (.int .i64))] }
def l26_11R : Ann := { slots := [], objs := [] }
def l26_3 : Nat → Int → List (List Int) → Int → Int → Option (LR l26_3X l26_3R)
  | 0, _, _, _, _ => none
  | m + 1, s3, s9, s10, s11 =>
    if decide (s11 < s10) = true then
      if (0 : Int) ≤ s11 then
        if s11 < s9.length then
          if decide (IntKind.i64.wrap (s3 + ((s9.getD s11.toNat []).length : Int)) < 0) = true then
            none
          else
            l26_3 m (IntKind.i64.wrap (s3 + ((s9.getD s11.toNat []).length : Int))) s9 s10 (IntKind.i64.wrap (s11 + 1))
        else none
      else none
    else
      some (.exit (s3, ()))
def l26_3L : LSpec := { h := l26_3H, x := l26_3X, r := l26_3R, xid := 0, rt := false, pins := [], f := fun k d => l26_3 k d.1 d.2.1 d.2.2.1 d.2.2.2.1 }
def l26_11 : Nat → Nat → List (List Int) → Int → Int → List Int → Option (LR l26_11X l26_11R)
  | 0, _, _, _, _, _ => none
  | m + 1, s6, s25, s26, s27, b4088 =>
    if decide (s27 < s26) = true then
      if (0 : Int) ≤ s27 then
        if s27 < s25.length then
          if ((b4088.take s6).length + (s25.getD s27.toNat []).length) * 8 ≤ 140737488355328 then
            l26_11 m (((b4088.take s6) ++ (s25.getD s27.toNat [])).length) s25 s26 (IntKind.i64.wrap (s27 + 1)) ((b4088.take s6) ++ (s25.getD s27.toNat []))
          else none
        else none
      else none
    else
      some (.exit (s6, b4088, ()))
def l26_11L : LSpec := { h := l26_11H, x := l26_11X, r := l26_11R, xid := 2, rt := false, pins := [], f := fun k d => l26_11 k d.1 d.2.1 d.2.2.1 d.2.2.2.1 d.2.2.2.2.1 }
def LL26 : Loops := [([26], [(3, l26_3L), (11, l26_11L)])]
def f26 (k : Nat) (a0 : List (List Int)) : Option (List Int) :=
  match l26_3 k 0 a0 (a0.length : Int) 0 with
  | none => none
  | some (.exit d1) =>
    if decide (d1.1 < 0) = true then
      none
    else
      if decide (IntKind.i64.wrap (d1.1 - 0) > 0) = true then
        if (0 : Int) < IntKind.i64.wrap (d1.1 - 0) then
          if (IntKind.i64.wrap (d1.1 - 0)) * 8 ≤ 140737488355328 then
            if (0 : Int) ≤ (List.replicate (IntKind.i64.wrap (d1.1 - 0)).toNat 0).length then
              match l26_11 k 0 a0 (a0.length : Int) 0 (List.replicate (IntKind.i64.wrap (d1.1 - 0)).toNat 0) with
              | none => none
              | some (.exit d2) =>
                some (d2.2.1.take d2.1)
              | some (.ret d2) =>
                none
            else none
          else none
        else none
      else
        match l26_11 k 0 a0 (a0.length : Int) 0 [] with
        | none => none
        | some (.exit d3) =>
          some (d3.2.1.take d3.1)
        | some (.ret d3) =>
          none
  | some (.ret d1) =>
    none
theorem l26_3_step (m : Nat) (d : dens l26_3H.tys) : l26_3L.f (m + 1) d = round E26 LL26 m [26] 36 (loopN (bodyOf Try.f26) 0) l26_3L (l26_3L.f m) d := by kernel_rfl
theorem l26_11_step (m : Nat) (d : dens l26_11H.tys) : l26_11L.f (m + 1) d = round E26 LL26 m [26] 36 (loopN (bodyOf Try.f26) 1) l26_11L (l26_11L.f m) d := by kernel_rfl
theorem f26_run (k : Nat) (x : denL [.slice (.slice (.int .i64))]) : runFn E26 LL26 k 26 Try.f26 [.slice (.slice (.int .i64))] [.fresh (.int .i64)] x = f26 k x := by kernel_rfl
noncomputable def S26 : Vm.Spec := { ps := [.slice (.slice (.int .i64))], rs := [.fresh (.int .i64)], f := fun x => f26 fuel x }
theorem f26_holds : Vm.Spec.holds Try.prog 26 S26 := by
  have hB : BodiesOk Try.prog E26 := bodies_ok (by exact ⟨by kernel_rfl, by kernel_rfl, trivial⟩)
  have hBS : BodiesStepped E26 LL26 := by
    refine bodies_stepped ?_
    exact ⟨(fun _ => stepped_noloop (by kernel_rfl)),  trivial⟩
  have hS : SpecsOk Try.prog E26 := specs_ok (by exact trivial)
  have hE : EOk Try.prog E26 := eok_te ok
  exact fn_sound (L := LL26) hE hS hB (draws_ok hE hS (by kernel_rfl)) hBS (fn := Try.f26) (by kernel_rfl) (c := bodyOf Try.f26) (by kernel_rfl) (stepped_of (ls := [(3, l26_3L), (11, l26_11L)]) rfl rfl ⟨by kernel_rfl, fun _ => rfl, l26_3_step, by kernel_rfl, fun _ => rfl, l26_11_step, stepsI_end (by kernel_rfl)⟩) fun x r h => ⟨fuel, (f26_run fuel x).trans h⟩

/-! gamehall/ranks.Winners -/
noncomputable def E14 : Env := { te := te, spec := [(16, S16), (19, S19), (22, S22), (26, S26)], body := [] }
def l14_4H : Ann := { slots := [(16, .one (.val (.slice (.slice (.int .i64))))), (17, .one (.val (.int .i64))), (18, .one (.val (.int .i64)))], objs := [] }
def l14_4X : Ann := { slots := [], objs := [] }
def l14_4R : Ann := { slots := [(2, .one (.fix .nil)), (3, .one (.val (.int .i64)))], objs := [] }
def l14_16H : Ann := { slots := [(8, .one (.own 212 (.int .i64))), (9, .one (.val (.int .i64))), (34, .one (.val (.slice (.slice (.int .i64))))), (35, .one (.val (.int .i64))), (36, .one (.val (.int .i64)))], objs := [(212, .buf (.int .i64))] }
def l14_16X : Ann := { slots := [(8, .one (.own 212 (.int .i64)))], objs := [(212, .buf (.int .i64))] }
def l14_16R : Ann := { slots := [], objs := [] }
def l14_4 : Nat → List (List Int) → Int → Int → Option (LR l14_4X l14_4R)
  | 0, _, _, _ => none
  | m + 1, s16, s17, s18 =>
    if decide (s18 < s17) = true then
      if (0 : Int) ≤ s18 then
        if s18 < s16.length then
          (f16 fuel (s16.getD s18.toNat [])).bind fun r1 =>
          if (r1 != 0) = true then
            some (.ret (r1, ()))
          else
            l14_4 m s16 s17 (IntKind.i64.wrap (s18 + 1))
        else none
      else none
    else
      some (.exit ())
def l14_4L : LSpec := { h := l14_4H, x := l14_4X, r := l14_4R, xid := 0, rt := true, pins := [], f := fun k d => l14_4 k d.1 d.2.1 d.2.2.1 }
def l14_16 : Nat → Int → List (List Int) → Int → Int → List Int → Option (LR l14_16X l14_16R)
  | 0, _, _, _, _, _ => none
  | m + 1, s9, s34, s35, s36, b212 =>
    if decide (s36 < s35) = true then
      if (0 : Int) ≤ s36 then
        if s36 < s34.length then
          (f19 fuel (s34.getD s36.toNat [])).bind fun r1 =>
          if decide (r1 > s9) = true then
            if (r1 == r1) = true then
              l14_16 m r1 s34 s35 (IntKind.i64.wrap (s36 + 1)) ([] ++ [s36])
            else
              l14_16 m r1 s34 s35 (IntKind.i64.wrap (s36 + 1)) []
          else
            if (r1 == s9) = true then
              if (b212.length + 1) * 8 ≤ 140737488355328 then
                l14_16 m s9 s34 s35 (IntKind.i64.wrap (s36 + 1)) (b212 ++ [s36])
              else none
            else
              l14_16 m s9 s34 s35 (IntKind.i64.wrap (s36 + 1)) b212
        else none
      else none
    else
      some (.exit (b212, ()))
def l14_16L : LSpec := { h := l14_16H, x := l14_16X, r := l14_16R, xid := 2, rt := false, pins := [], f := fun k d => l14_16 k d.1 d.2.1 d.2.2.1 d.2.2.2.1 d.2.2.2.2.1 }
def LL14 : Loops := [([14], [(4, l14_4L), (16, l14_16L)])]
def f14 (k : Nat) (a0 : List (List Int)) : Option (List Int × Int) :=
  if decide ((a0.length : Int) > 10) = true then
    some ([], 2)
  else
    match l14_4 k a0 (a0.length : Int) 0 with
    | none => none
    | some (.exit d1) =>
      (f26 fuel a0).bind fun r2 =>
      (f22 fuel r2).bind fun r3 =>
      if (r3 != 0) = true then
        some ([], r3)
      else
        match l14_16 k (-1) a0 (a0.length : Int) 0 [] with
        | none => none
        | some (.exit d4) =>
          some (d4.1, 0)
        | some (.ret d4) =>
          none
    | some (.ret d1) =>
      some ([], d1.1)
theorem l14_4_step (m : Nat) (d : dens l14_4H.tys) : l14_4L.f (m + 1) d = round E14 LL14 m [14] 56 (loopN (bodyOf Try.f14) 0) l14_4L (l14_4L.f m) d := by kernel_rfl
theorem l14_16_step (m : Nat) (d : dens l14_16H.tys) : l14_16L.f (m + 1) d = round E14 LL14 m [14] 56 (loopN (bodyOf Try.f14) 1) l14_16L (l14_16L.f m) d := by kernel_rfl
theorem f14_run (k : Nat) (x : denL [.slice (.slice (.int .i64))]) : runFn E14 LL14 k 14 Try.f14 [.slice (.slice (.int .i64))] [.fresh (.int .i64), .imm (.int .i64)] x = f14 k x := by kernel_rfl
noncomputable def S14 : Vm.Spec := { ps := [.slice (.slice (.int .i64))], rs := [.fresh (.int .i64), .imm (.int .i64)], f := fun x => f14 fuel x }
theorem f14_holds : Vm.Spec.holds Try.prog 14 S14 := by
  have hB : BodiesOk Try.prog E14 := bodies_none rfl
  have hBS : BodiesStepped E14 LL14 := bodies_stepped_none rfl
  have hS : SpecsOk Try.prog E14 := specs_ok (by exact ⟨⟨by kernel_rfl, f16_holds⟩, ⟨by kernel_rfl, f19_holds⟩, ⟨by kernel_rfl, f22_holds⟩, ⟨by kernel_rfl, f26_holds⟩, trivial⟩)
  have hE : EOk Try.prog E14 := eok_te ok
  exact fn_sound (L := LL14) hE hS hB (draws_ok hE hS (by kernel_rfl)) hBS (fn := Try.f14) (by kernel_rfl) (c := bodyOf Try.f14) (by kernel_rfl) (stepped_of (ls := [(4, l14_4L), (16, l14_16L)]) rfl rfl ⟨by kernel_rfl, fun _ => rfl, l14_4_step, by kernel_rfl, fun _ => rfl, l14_16_step, stepsI_end (by kernel_rfl)⟩) fun x r h => ⟨fuel, (f14_run fuel x).trans h⟩

/-! slices.Equal[[]int,int] -/
noncomputable def E15 : Env := { te := te, spec := [], body := [] }
def l15_4H : Ann := { slots := [(0, .one (.val (.slice (.int .i64)))), (1, .one (.val (.slice (.int .i64)))), (12, .one (.val (.int .i64))), (13, .one (.val (.int .i64)))], objs := [] }
def l15_4X : Ann := { slots := [], objs := [] }
def l15_4R : Ann := { slots := [(4, .one (.val .bool))], objs := [] }
def l15_4 : Nat → List Int → List Int → Int → Int → Option (LR l15_4X l15_4R)
  | 0, _, _, _, _ => none
  | m + 1, s0, s1, s12, s13 =>
    if decide (s13 < s12) = true then
      if (0 : Int) ≤ s13 then
        if s13 < s0.length then
          if (0 : Int) ≤ s13 then
            if s13 < s1.length then
              if (s0.getD s13.toNat 0 != s1.getD s13.toNat 0) = true then
                some (.ret (false, ()))
              else
                l15_4 m s0 s1 s12 (IntKind.i64.wrap (s13 + 1))
            else none
          else none
        else none
      else none
    else
      some (.exit ())
def l15_4L : LSpec := { h := l15_4H, x := l15_4X, r := l15_4R, xid := 0, rt := true, pins := [], f := fun k d => l15_4 k d.1 d.2.1 d.2.2.1 d.2.2.2.1 }
def LL15 : Loops := [([15], [(4, l15_4L)])]
def f15 (k : Nat) (a0 : List Int) (a1 : List Int) : Option (Bool) :=
  if ((a0.length : Int) != (a1.length : Int)) = true then
    some false
  else
    match l15_4 k a0 a1 (a0.length : Int) 0 with
    | none => none
    | some (.exit d1) =>
      some true
    | some (.ret d1) =>
      some d1.1
theorem l15_4_step (m : Nat) (d : dens l15_4H.tys) : l15_4L.f (m + 1) d = round E15 LL15 m [15] 26 (loopN (bodyOf Try.f15) 0) l15_4L (l15_4L.f m) d := by kernel_rfl
theorem f15_run (k : Nat) (x : denL [.slice (.int .i64), .slice (.int .i64)]) : runFn E15 LL15 k 15 Try.f15 [.slice (.int .i64), .slice (.int .i64)] [.imm .bool] x = f15 k x.1 x.2 := by kernel_rfl
noncomputable def S15 : Vm.Spec := { ps := [.slice (.int .i64), .slice (.int .i64)], rs := [.imm .bool], f := fun x => f15 fuel x.1 x.2 }
theorem f15_holds : Vm.Spec.holds Try.prog 15 S15 := by
  have hB : BodiesOk Try.prog E15 := bodies_none rfl
  have hBS : BodiesStepped E15 LL15 := bodies_stepped_none rfl
  have hS : SpecsOk Try.prog E15 := specs_ok (by exact trivial)
  have hE : EOk Try.prog E15 := eok_te ok
  exact fn_sound (L := LL15) hE hS hB (draws_ok hE hS (by kernel_rfl)) hBS (fn := Try.f15) (by kernel_rfl) (c := bodyOf Try.f15) (by kernel_rfl) (stepped_of (ls := [(4, l15_4L)]) rfl rfl ⟨by kernel_rfl, fun _ => rfl, l15_4_step, stepsI_end (by kernel_rfl)⟩) fun x r h => ⟨fuel, (f15_run fuel x).trans h⟩

/-! gamehall/gamehallkeep2.fine -/
noncomputable def E9 : Env := { te := te, spec := [], body := [(20, Try.f20), (21, Try.f21), (32, Try.f32)] }
def l32_20_9_2H : Ann := { slots := [(0, .one (.val (.slice (.int .i64)))), (1, .one (.fix (.func 21))), (7, .one (.val (.int .i64))), (8, .one (.val (.int .i64)))], objs := [] }
def l32_20_9_2X : Ann := { slots := [], objs := [] }
def l32_20_9_2R : Ann := { slots := [(4, .one (.val (.int .i64)))], objs := [] }
def l32_20_9_2 : Nat → List Int → Int → Int → Option (LR l32_20_9_2X l32_20_9_2R)
  | 0, _, _, _ => none
  | m + 1, s0, s7, s8 =>
    if decide (s8 < s7) = true then
      if (0 : Int) ≤ s8 then
        if s8 < s0.length then
          if (s0.getD s8.toNat 0 != 0) = true then
            some (.ret (s8, ()))
          else
            l32_20_9_2 m s0 s7 (IntKind.i64.wrap (s8 + 1))
        else none
      else none
    else
      some (.exit ())
def l32_20_9_2L : LSpec := { h := l32_20_9_2H, x := l32_20_9_2X, r := l32_20_9_2R, xid := 0, rt := true, pins := [], f := fun k d => l32_20_9_2 k d.1 d.2.1 d.2.2.1 }
def LL9 : Loops := [([32, 20, 9], [(2, l32_20_9_2L)])]
def f9 (k : Nat) (a0 : List Int) : Option (Bool) :=
  match l32_20_9_2 k a0 (a0.length : Int) 0 with
  | none => none
  | some (.exit d1) =>
    some true
  | some (.ret d1) =>
    some (!(decide (d1.1 ≥ 0)))
theorem l32_20_9_2_step (m : Nat) (d : dens l32_20_9_2H.tys) : l32_20_9_2L.f (m + 1) d = round E9 LL9 m [32, 20, 9] 19 (loopN (bodyOf Try.f32) 0) l32_20_9_2L (l32_20_9_2L.f m) d := by kernel_rfl
theorem f9_run (k : Nat) (x : denL [.slice (.int .i64)]) : runFn E9 LL9 k 9 Try.f9 [.slice (.int .i64)] [.imm .bool] x = f9 k x := by kernel_rfl
noncomputable def S9 : Vm.Spec := { ps := [.slice (.int .i64)], rs := [.imm .bool], f := fun x => f9 fuel x }
theorem f9_holds : Vm.Spec.holds Try.prog 9 S9 := by
  have hB : BodiesOk Try.prog E9 := bodies_ok (by exact ⟨by kernel_rfl, by kernel_rfl, by kernel_rfl, by kernel_rfl, by kernel_rfl, by kernel_rfl, trivial⟩)
  have hBS : BodiesStepped E9 LL9 := by
    refine bodies_stepped ?_
    exact ⟨(fun _ => stepped_noloop (by kernel_rfl)), (fun _ => stepped_noloop (by kernel_rfl)), (stepped_paths [[20, 9]] (by exact ⟨stepped_of (ls := [(2, l32_20_9_2L)]) rfl rfl ⟨by kernel_rfl, fun _ => rfl, l32_20_9_2_step, stepsI_end (by kernel_rfl)⟩,  trivial⟩) rfl),  trivial⟩
  have hS : SpecsOk Try.prog E9 := specs_ok (by exact trivial)
  have hE : EOk Try.prog E9 := eok_te ok
  exact fn_sound (L := LL9) hE hS hB (draws_ok hE hS (by kernel_rfl)) hBS (fn := Try.f9) (by kernel_rfl) (c := bodyOf Try.f9) (by kernel_rfl) (stepped_none rfl) fun x r h => ⟨fuel, (f9_run fuel x).trans h⟩

/-! gamehall/gamehallkeep2.ranksFact -/
noncomputable def E6 : Env := { te := te, spec := [(7, S7), (8, S8), (9, S9), (10, S10), (14, S14), (15, S15), (16, S16)], body := [] }
def LL6 : Loops := []
def f6 (k : Nat) : Option (Bool) :=
  (f7 fuel [0, 1, 2, 3, 17]).bind fun r1 =>
  (f8 fuel [12, 13, 27, 2, 3]).bind fun r2 =>
  (f10 fuel [5, 18, 22, 7, 2, 11]).bind fun r3 =>
  (f14 fuel [[0, 1, 2, 3, 17], [5, 18, 9, 7, 15]]).bind fun r4 =>
  (f9 fuel [r1.2, r2.2, r3.2.2, r4.2]).bind fun r5 =>
  if r5 = true then
    if (r1.1 == 4) = true then
      if (r2.1 == 1570855) = true then
        (f15 fuel r3.1 [0, 1, 2, 3, 5]).bind fun r6 =>
        if r6 = true then
          if (r3.2.1 == 539877) = true then
            (f15 fuel r4.1 [0]).bind fun r7 =>
            if r7 = true then
              (f16 fuel (([0, 1, 2, 3, 17].take 4).drop 0)).bind fun r8 =>
              some (r8 == 3)
            else
              some false
          else
            some false
        else
          some false
      else
        some false
    else
      some false
  else
    some false
theorem f6_run (k : Nat) (x : denL []) : runFn E6 LL6 k 6 Try.f6 [] [.imm .bool] x = f6 k := by kernel_rfl
noncomputable def S6 : Vm.Spec := { ps := [], rs := [.imm .bool], f := fun x => f6 fuel }
theorem f6_holds : Vm.Spec.holds Try.prog 6 S6 := by
  have hB : BodiesOk Try.prog E6 := bodies_none rfl
  have hBS : BodiesStepped E6 LL6 := bodies_stepped_none rfl
  have hS : SpecsOk Try.prog E6 := specs_ok (by exact ⟨⟨by kernel_rfl, f7_holds⟩, ⟨by kernel_rfl, f8_holds⟩, ⟨by kernel_rfl, f9_holds⟩, ⟨by kernel_rfl, f10_holds⟩, ⟨by kernel_rfl, f14_holds⟩, ⟨by kernel_rfl, f15_holds⟩, ⟨by kernel_rfl, f16_holds⟩, trivial⟩)
  have hE : EOk Try.prog E6 := eok_te ok
  exact fn_sound (L := LL6) hE hS hB (draws_ok hE hS (by kernel_rfl)) hBS (fn := Try.f6) (by kernel_rfl) (c := bodyOf Try.f6) (by kernel_rfl) (stepped_none rfl) fun x r h => ⟨fuel, (f6_run fuel x).trans h⟩

/-! gamehall/gamehallkeep2.RanksClassed -/
noncomputable def E3 : Env := { te := te, spec := [(6, S6), (7, S7), (8, S8), (9, S9)], body := [] }
def LL3 : Loops := []
def f3 (k : Nat) (a0 : List Int) (a1 : List Int) : Option (Bool) :=
  (f6 fuel).bind fun r1 =>
  if (!r1) = true then
    some false
  else
    (f7 fuel a0).bind fun r2 =>
    (f7 fuel a1).bind fun r3 =>
    (f8 fuel a0).bind fun r4 =>
    (f8 fuel a1).bind fun r5 =>
    (f9 fuel [r2.2, r3.2]).bind fun r6 =>
    if (!r6) = true then
      if (r2.2 == r4.2) = true then
        some (r3.2 == r5.2)
      else
        some false
    else
      (f9 fuel [r4.2, r5.2]).bind fun r7 =>
      if r7 = true then
        if decide (r2.1 ≤ r3.1) = false then
          if decide (r4.1 > r5.1) = true then
            if decide (r2.1 ≥ r3.1) = false then
              some (decide (r4.1 < r5.1))
            else
              some true
          else
            some false
        else
          if decide (r2.1 ≥ r3.1) = false then
            some (decide (r4.1 < r5.1))
          else
            some true
      else
        some false
theorem f3_run (k : Nat) (x : denL [.slice (.int .i64), .slice (.int .i64)]) : runFn E3 LL3 k 3 Try.f3 [.slice (.int .i64), .slice (.int .i64)] [.imm .bool] x = f3 k x.1 x.2 := by kernel_rfl
noncomputable def S3 : Vm.Spec := { ps := [.slice (.int .i64), .slice (.int .i64)], rs := [.imm .bool], f := fun x => f3 fuel x.1 x.2 }
theorem f3_holds : Vm.Spec.holds Try.prog 3 S3 := by
  have hB : BodiesOk Try.prog E3 := bodies_none rfl
  have hBS : BodiesStepped E3 LL3 := bodies_stepped_none rfl
  have hS : SpecsOk Try.prog E3 := specs_ok (by exact ⟨⟨by kernel_rfl, f6_holds⟩, ⟨by kernel_rfl, f7_holds⟩, ⟨by kernel_rfl, f8_holds⟩, ⟨by kernel_rfl, f9_holds⟩, trivial⟩)
  have hE : EOk Try.prog E3 := eok_te ok
  exact fn_sound (L := LL3) hE hS hB (draws_ok hE hS (by kernel_rfl)) hBS (fn := Try.f3) (by kernel_rfl) (c := bodyOf Try.f3) (by kernel_rfl) (stepped_none rfl) fun x r h => ⟨fuel, (f3_run fuel x).trans h⟩

/-! gamehall/gamehallkeep2.RanksMore -/
noncomputable def E4 : Env := { te := te, spec := [(6, S6), (8, S8), (10, S10), (11, S11)], body := [] }
def l4_8H : Ann := { slots := [(0, .one (.val (.slice (.int .i64)))), (6, .one (.own 204 (.int .i64))), (31, .one (.own 72 (.int .i64))), (32, .one (.val (.int .i64))), (33, .one (.val (.int .i64)))], objs := [(204, .buf (.int .i64)), (72, .buf (.int .i64))] }
def l4_8X : Ann := { slots := [(6, .one (.own 204 (.int .i64)))], objs := [(204, .buf (.int .i64)), (72, .buf (.int .i64))] }
def l4_8R : Ann := { slots := [(2, .one (.val .bool))], objs := [(72, .buf (.int .i64))] }
def l4_8 : Nat → List Int → Int → Int → List Int → List Int → Option (LR l4_8X l4_8R)
  | 0, _, _, _, _, _ => none
  | m + 1, s0, s32, s33, b204, b72 =>
    if decide (s33 < s32) = true then
      if (0 : Int) ≤ s33 then
        if s33 < b72.length then
          if decide (b72.getD s33.toNat 0 < 0) = false then
            if decide (b72.getD s33.toNat 0 ≥ (s0.length : Int)) = true then
              some (.ret (false, b72, ()))
            else
              if (0 : Int) ≤ b72.getD s33.toNat 0 then
                if b72.getD s33.toNat 0 < s0.length then
                  if (b204.length + 1) * 8 ≤ 140737488355328 then
                    l4_8 m s0 s32 (IntKind.i64.wrap (s33 + 1)) (b204 ++ [s0.getD ((b72.getD s33.toNat 0).toNat) 0]) b72
                  else none
                else none
              else none
          else
            some (.ret (false, b72, ()))
        else none
      else none
    else
      some (.exit (b204, b72, ()))
def l4_8L : LSpec := { h := l4_8H, x := l4_8X, r := l4_8R, xid := 0, rt := true, pins := [72], f := fun k d => l4_8 k d.1 d.2.1 d.2.2.1 d.2.2.2.1 d.2.2.2.2.1 }
def LL4 : Loops := [([4], [(8, l4_8L)])]
def f4 (k : Nat) (a0 : List Int) : Option (Bool) :=
  (f6 fuel).bind fun r1 =>
  if (!r1) = true then
    some false
  else
    (f10 fuel a0).bind fun r2 =>
    if (r2.2.2 != 0) = true then
      if ((r2.1.length : Int) == 0) = true then
        some (r2.2.1 == 0)
      else
        some false
    else
      match l4_8 k a0 (r2.1.length : Int) 0 [] r2.1 with
      | none => none
      | some (.exit d3) =>
        (f8 fuel d3.1).bind fun r4 =>
        if (r4.2 != 0) = false then
          if (r4.1 != r2.2.1) = false then
            (f11 fuel d3.2.1).bind fun r5 =>
            if (!r5) = true then
              some false
            else
              if (0 : Int) ≤ IntKind.i64.wrap ((a0.length : Int) - 1) then
                if IntKind.i64.wrap ((a0.length : Int) - 1) ≤ a0.length then
                  (f10 fuel ((a0.take (IntKind.i64.wrap ((a0.length : Int) - 1)).toNat).drop 0)).bind fun r6 =>
                  if (r6.2.2 == 8) = true then
                    if ((a0.length : Int) == 5) = false then
                      if (r6.2.2 == 0) = true then
                        some (decide (r6.2.1 ≤ r2.2.1))
                      else
                        some false
                    else
                      some true
                  else
                    if (r6.2.2 == 0) = true then
                      some (decide (r6.2.1 ≤ r2.2.1))
                    else
                      some false
                else none
              else none
          else
            some false
        else
          some false
      | some (.ret d3) =>
        some d3.1
theorem l4_8_step (m : Nat) (d : dens l4_8H.tys) : l4_8L.f (m + 1) d = round E4 LL4 m [4] 96 (loopN (bodyOf Try.f4) 0) l4_8L (l4_8L.f m) d := by kernel_rfl
theorem f4_run (k : Nat) (x : denL [.slice (.int .i64)]) : runFn E4 LL4 k 4 Try.f4 [.slice (.int .i64)] [.imm .bool] x = f4 k x := by kernel_rfl
noncomputable def S4 : Vm.Spec := { ps := [.slice (.int .i64)], rs := [.imm .bool], f := fun x => f4 fuel x }
theorem f4_holds : Vm.Spec.holds Try.prog 4 S4 := by
  have hB : BodiesOk Try.prog E4 := bodies_none rfl
  have hBS : BodiesStepped E4 LL4 := bodies_stepped_none rfl
  have hS : SpecsOk Try.prog E4 := specs_ok (by exact ⟨⟨by kernel_rfl, f6_holds⟩, ⟨by kernel_rfl, f8_holds⟩, ⟨by kernel_rfl, f10_holds⟩, ⟨by kernel_rfl, f11_holds⟩, trivial⟩)
  have hE : EOk Try.prog E4 := eok_te ok
  exact fn_sound (L := LL4) hE hS hB (draws_ok hE hS (by kernel_rfl)) hBS (fn := Try.f4) (by kernel_rfl) (c := bodyOf Try.f4) (by kernel_rfl) (stepped_of (ls := [(8, l4_8L)]) rfl rfl ⟨by kernel_rfl, fun _ => rfl, l4_8_step, stepsI_end (by kernel_rfl)⟩) fun x r h => ⟨fuel, (f4_run fuel x).trans h⟩

/-! gamehall/gamehallkeep2.RanksTurns -/
noncomputable def E5 : Env := { te := te, spec := [(6, S6), (7, S7), (8, S8), (9, S9), (12, S12), (13, S13)], body := [] }
def l5_9H : Ann := { slots := [(2, .one (.val (.int .i64))), (9, .one (.own 192 (.int .i64))), (35, .one (.val (.slice (.int .i64)))), (36, .one (.val (.int .i64))), (37, .one (.val (.int .i64)))], objs := [(192, .buf (.int .i64))] }
def l5_9X : Ann := { slots := [(9, .one (.own 192 (.int .i64)))], objs := [(192, .buf (.int .i64))] }
def l5_9R : Ann := { slots := [], objs := [] }
def l5_9 : Nat → Int → List Int → Int → Int → List Int → Option (LR l5_9X l5_9R)
  | 0, _, _, _, _, _ => none
  | m + 1, s2, s35, s36, s37, b192 =>
    if decide (s37 < s36) = true then
      if (0 : Int) ≤ s37 then
        if s37 < s35.length then
          if (b192.length + 1) * 8 ≤ 140737488355328 then
            l5_9 m s2 s35 s36 (IntKind.i64.wrap (s37 + 1)) (b192 ++ [(IntKind.i64.wrap ((s35.getD s37.toNat 0) + (IntKind.i64.wrap (13 * s2)))).tmod 52])
          else none
        else none
      else none
    else
      some (.exit (b192, ()))
def l5_9L : LSpec := { h := l5_9H, x := l5_9X, r := l5_9R, xid := 0, rt := false, pins := [], f := fun k d => l5_9 k d.1 d.2.1 d.2.2.1 d.2.2.2.1 d.2.2.2.2.1 }
def LL5 : Loops := [([5], [(9, l5_9L)])]
def f5 (k : Nat) (a0 : List Int) (a1 : List Int) (a2 : Int) : Option (Bool) :=
  (f6 fuel).bind fun r1 =>
  if (!r1) = true then
    some false
  else
    (f8 fuel a0).bind fun r2 =>
    if (r2.2 != 0) = true then
      some (r2.1 == 0)
    else
      (f12 fuel a2 4).bind fun r3 =>
      match l5_9 k r3 a0 (a0.length : Int) 0 [] with
      | none => none
      | some (.exit d4) =>
        (f8 fuel d4.1).bind fun r5 =>
        (f7 fuel a0).bind fun r6 =>
        (f7 fuel d4.1).bind fun r7 =>
        (f9 fuel [r5.2, r6.2, r7.2]).bind fun r8 =>
        if (!r8) = false then
          if (r2.1 != r5.1) = false then
            if (r6.1 != r7.1) = true then
              some false
            else
              (f13 fuel a0 a1).bind fun r9 =>
              if (r9.2 != 0) = true then
                some true
              else
                (f8 fuel r9.1).bind fun r10 =>
                if (r10.2 == 0) = true then
                  some (r10.1 == r2.1)
                else
                  some false
          else
            some false
        else
          some false
      | some (.ret d4) =>
        none
theorem l5_9_step (m : Nat) (d : dens l5_9H.tys) : l5_9L.f (m + 1) d = round E5 LL5 m [5] 101 (loopN (bodyOf Try.f5) 0) l5_9L (l5_9L.f m) d := by kernel_rfl
theorem f5_run (k : Nat) (x : denL [.slice (.int .i64), .slice (.int .i64), .int .i64]) : runFn E5 LL5 k 5 Try.f5 [.slice (.int .i64), .slice (.int .i64), .int .i64] [.imm .bool] x = f5 k x.1 x.2.1 x.2.2 := by kernel_rfl
noncomputable def S5 : Vm.Spec := { ps := [.slice (.int .i64), .slice (.int .i64), .int .i64], rs := [.imm .bool], f := fun x => f5 fuel x.1 x.2.1 x.2.2 }
theorem f5_holds : Vm.Spec.holds Try.prog 5 S5 := by
  have hB : BodiesOk Try.prog E5 := bodies_none rfl
  have hBS : BodiesStepped E5 LL5 := bodies_stepped_none rfl
  have hS : SpecsOk Try.prog E5 := specs_ok (by exact ⟨⟨by kernel_rfl, f6_holds⟩, ⟨by kernel_rfl, f7_holds⟩, ⟨by kernel_rfl, f8_holds⟩, ⟨by kernel_rfl, f9_holds⟩, ⟨by kernel_rfl, f12_holds⟩, ⟨by kernel_rfl, f13_holds⟩, trivial⟩)
  have hE : EOk Try.prog E5 := eok_te ok
  exact fn_sound (L := LL5) hE hS hB (draws_ok hE hS (by kernel_rfl)) hBS (fn := Try.f5) (by kernel_rfl) (c := bodyOf Try.f5) (by kernel_rfl) (stepped_of (ls := [(9, l5_9L)]) rfl rfl ⟨by kernel_rfl, fun _ => rfl, l5_9_step, stepsI_end (by kernel_rfl)⟩) fun x r h => ⟨fuel, (f5_run fuel x).trans h⟩

end Go.Proofs.Ytinkojannlngfaa
