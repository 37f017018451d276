/- Pure functions, printed by a program of this session out of the program. -/
import Derived.Test.YtbbgmlfelhjkaaaDoorVmD
import Derived.Test.YtbbgmlfelhjkaaaDoorSh
set_option linter.unusedVariables false
namespace Go.Proofs.YtbbgmlfelhjkaaaDoor
open Go Vm Go.Proofs
def te : TE := [(3, ⟨.int .i64, .sc, 8⟩),
  (4, ⟨.bool, .sc, 1⟩),
  (9, ⟨.str, .sc, 16⟩),
  (22, ⟨.slice (.int .i64), .slice 3, 24⟩),
  (24, ⟨.int .i64, .sc, 8⟩),
  (34, ⟨.slice (.slice (.int .i64)), .slice 22, 24⟩),
  (40, ⟨.slice .str, .slice 9, 24⟩),
  (48, ⟨.slice (.int .i64), .slice 24, 24⟩)]
theorem ok : EOk Tryd.prog ⟨te, [], []⟩ := eok_of (by kernel_rfl)
/-! slices.Index[[]int,int] -/
noncomputable def E22 : Env := { te := te, spec := [], body := [] }
def l22_2H : Ann := { slots := [(0, .one (.val (.slice (.int .i64)))), (1, .one (.val (.int .i64))), (7, .one (.val (.int .i64))), (8, .one (.val (.int .i64)))], objs := [] }
def l22_2X : Ann := { slots := [], objs := [] }
def l22_2R : Ann := { slots := [(4, .one (.val (.int .i64)))], objs := [] }
def l22_2 : Nat → List Int → Int → Int → Int → Option (LR l22_2X l22_2R)
  | 0, _, _, _, _ => none
  | m + 1, s0, s1, s7, s8 =>
    if decide (s8 < s7) = true then
      if (0 : Int) ≤ s8 then
        if s8 < s0.length then
          if (s1 == s0.getD s8.toNat 0) = true then
            some (.ret (s8, ()))
          else
            l22_2 m s0 s1 s7 (IntKind.i64.wrap (s8 + 1))
        else none
      else none
    else
      some (.exit ())
def l22_2L : LSpec := { h := l22_2H, x := l22_2X, r := l22_2R, xid := 0, rt := true, pins := [], f := fun k d => l22_2 k d.1 d.2.1 d.2.2.1 d.2.2.2.1 }
def LL22 : Loops := [([22], [(2, l22_2L)])]
def f22 (k : Nat) (a0 : List Int) (a1 : Int) : Option (Int) :=
  match l22_2 k a0 a1 (a0.length : Int) 0 with
  | none => none
  | some (.exit d1) =>
    some (-1)
  | some (.ret d1) =>
    some d1.1
theorem l22_2_step (m : Nat) (d : dens l22_2H.tys) : l22_2L.f (m + 1) d = round E22 LL22 m [22] 19 (loopN (bodyOf Tryd.f22) 0) l22_2L (l22_2L.f m) d := by kernel_rfl
theorem f22_run (k : Nat) (x : denL [.slice (.int .i64), .int .i64]) : runFn E22 LL22 k 22 Tryd.f22 [.slice (.int .i64), .int .i64] [.imm (.int .i64)] x = f22 k x.1 x.2 := by kernel_rfl
noncomputable def S22 : Vm.Spec := { ps := [.slice (.int .i64), .int .i64], rs := [.imm (.int .i64)], f := fun x => f22 fuel x.1 x.2 }
theorem f22_holds : Vm.Spec.holds Tryd.prog 22 S22 := by
  have hB : BodiesOk Tryd.prog E22 := bodies_none rfl
  have hBS : BodiesStepped E22 LL22 := bodies_stepped_none rfl
  have hS : SpecsOk Tryd.prog E22 := specs_ok (by exact trivial)
  have hE : EOk Tryd.prog E22 := eok_te ok
  exact fn_sound (L := LL22) hE hS hB (draws_ok hE hS (by kernel_rfl)) hBS (fn := Tryd.f22) (by kernel_rfl) (c := bodyOf Tryd.f22) (by kernel_rfl) (stepped_of (ls := [(2, l22_2L)]) rfl rfl ⟨by kernel_rfl, fun _ => rfl, l22_2_step, stepsI_end (by kernel_rfl)⟩) fun x r h => ⟨fuel, (f22_run fuel x).trans h⟩

/-! slices.Contains[[]int,int] -/
noncomputable def E26 : Env := { te := te, spec := [(22, S22)], body := [] }
def LL26 : Loops := []
def f26 (k : Nat) (a0 : List Int) (a1 : Int) : Option (Bool) :=
  (f22 fuel a0 a1).bind fun r1 =>
  some (decide (r1 ≥ 0))
theorem f26_run (k : Nat) (x : denL [.slice (.int .i64), .int .i64]) : runFn E26 LL26 k 26 Tryd.f26 [.slice (.int .i64), .int .i64] [.imm .bool] x = f26 k x.1 x.2 := by kernel_rfl
noncomputable def S26 : Vm.Spec := { ps := [.slice (.int .i64), .int .i64], rs := [.imm .bool], f := fun x => f26 fuel x.1 x.2 }
theorem f26_holds : Vm.Spec.holds Tryd.prog 26 S26 := by
  have hB : BodiesOk Tryd.prog E26 := bodies_none rfl
  have hBS : BodiesStepped E26 LL26 := bodies_stepped_none rfl
  have hS : SpecsOk Tryd.prog E26 := specs_ok (by exact ⟨⟨by kernel_rfl, f22_holds⟩, trivial⟩)
  have hE : EOk Tryd.prog E26 := eok_te ok
  exact fn_sound (L := LL26) hE hS hB (draws_ok hE hS (by kernel_rfl)) hBS (fn := Tryd.f26) (by kernel_rfl) (c := bodyOf Tryd.f26) (by kernel_rfl) (stepped_none rfl) fun x r h => ⟨fuel, (f26_run fuel x).trans h⟩

/-! gamehall/cards.Check -/
noncomputable def E14 : Env := { te := te, spec := [(26, S26)], body := [] }
def l14_4H : Ann := { slots := [(0, .one (.val (.slice (.int .i64)))), (8, .one (.val (.slice (.int .i64)))), (9, .one (.val (.int .i64))), (10, .one (.val (.int .i64)))], objs := [] }
def l14_4X : Ann := { slots := [], objs := [] }
def l14_4R : Ann := { slots := [(2, .one (.val (.int .i64)))], objs := [] }
def l14_4 : Nat → List Int → List Int → Int → Int → Option (LR l14_4X l14_4R)
  | 0, _, _, _, _ => none
  | m + 1, s0, s8, s9, s10 =>
    if decide (s10 < s9) = true then
      if (0 : Int) ≤ s10 then
        if s10 < s8.length then
          if decide (s8.getD s10.toNat 0 < 0) = false then
            if decide (s8.getD s10.toNat 0 ≥ 52) = true then
              some (.ret (4, ()))
            else
              if (0 : Int) ≤ s10 then
                if s10 ≤ s0.length then
                  (f26 fuel ((s0.take s10.toNat).drop 0) (s8.getD s10.toNat 0)).bind fun r1 =>
                  if r1 = true then
                    some (.ret (7, ()))
                  else
                    l14_4 m s0 s8 s9 (IntKind.i64.wrap (s10 + 1))
                else none
              else none
          else
            some (.ret (4, ()))
        else none
      else none
    else
      some (.exit ())
def l14_4L : LSpec := { h := l14_4H, x := l14_4X, r := l14_4R, xid := 0, rt := true, pins := [], f := fun k d => l14_4 k d.1 d.2.1 d.2.2.1 d.2.2.2.1 }
def LL14 : Loops := [([14], [(4, l14_4L)])]
def f14 (k : Nat) (a0 : List Int) : Option (Int) :=
  if decide ((a0.length : Int) > 52) = true then
    some 2
  else
    match l14_4 k a0 a0 (a0.length : Int) 0 with
    | none => none
    | some (.exit d1) =>
      some 0
    | some (.ret d1) =>
      some d1.1
theorem l14_4_step (m : Nat) (d : dens l14_4H.tys) : l14_4L.f (m + 1) d = round E14 LL14 m [14] 27 (loopN (bodyOf Tryd.f14) 0) l14_4L (l14_4L.f m) d := by kernel_rfl
theorem f14_run (k : Nat) (x : denL [.slice (.int .i64)]) : runFn E14 LL14 k 14 Tryd.f14 [.slice (.int .i64)] [.imm (.int .i64)] x = f14 k x := by kernel_rfl
noncomputable def S14 : Vm.Spec := { ps := [.slice (.int .i64)], rs := [.imm (.int .i64)], f := fun x => f14 fuel x }
theorem f14_holds : Vm.Spec.holds Tryd.prog 14 S14 := by
  have hB : BodiesOk Tryd.prog E14 := bodies_none rfl
  have hBS : BodiesStepped E14 LL14 := bodies_stepped_none rfl
  have hS : SpecsOk Tryd.prog E14 := specs_ok (by exact ⟨⟨by kernel_rfl, f26_holds⟩, trivial⟩)
  have hE : EOk Tryd.prog E14 := eok_te ok
  exact fn_sound (L := LL14) hE hS hB (draws_ok hE hS (by kernel_rfl)) hBS (fn := Tryd.f14) (by kernel_rfl) (c := bodyOf Tryd.f14) (by kernel_rfl) (stepped_of (ls := [(4, l14_4L)]) rfl rfl ⟨by kernel_rfl, fun _ => rfl, l14_4_step, stepsI_end (by kernel_rfl)⟩) fun x r h => ⟨fuel, (f14_run fuel x).trans h⟩

/-! gamehall/cards.Fits -/
noncomputable def E15 : Env := { te := te, spec := [], body := [] }
def l15_4H : Ann := { slots := [(0, .one (.val (.int .i64))), (13, .one (.val (.slice (.int .i64)))), (14, .one (.val (.int .i64))), (15, .one (.val (.int .i64)))], objs := [] }
def l15_4X : Ann := { slots := [], objs := [] }
def l15_4R : Ann := { slots := [(4, .one (.val (.int .i64)))], objs := [] }
def l15_4 : Nat → Int → List Int → Int → Int → Option (LR l15_4X l15_4R)
  | 0, _, _, _, _ => none
  | m + 1, s0, s13, s14, s15 =>
    if decide (s15 < s14) = true then
      if (0 : Int) ≤ s15 then
        if s15 < s13.length then
          if decide (s13.getD s15.toNat 0 < 0) = false then
            if decide (s13.getD s15.toNat 0 > IntKind.i64.wrap ((IntKind.i64.wrap (s0 - 1)) - s15)) = true then
              some (.ret (4, ()))
            else
              l15_4 m s0 s13 s14 (IntKind.i64.wrap (s15 + 1))
          else
            some (.ret (4, ()))
        else none
      else none
    else
      some (.exit ())
def l15_4L : LSpec := { h := l15_4H, x := l15_4X, r := l15_4R, xid := 0, rt := true, pins := [], f := fun k d => l15_4 k d.1 d.2.1 d.2.2.1 d.2.2.2.1 }
def LL15 : Loops := [([15], [(4, l15_4L)])]
def f15 (k : Nat) (a0 : Int) (a1 : List Int) : Option (Int) :=
  if ((a1.length : Int) != (if IntKind.i64.wrap (a0 - 1) > 0 then IntKind.i64.wrap (a0 - 1) else 0)) = true then
    some 3
  else
    match l15_4 k a0 a1 (a1.length : Int) 0 with
    | none => none
    | some (.exit d1) =>
      some 0
    | some (.ret d1) =>
      some d1.1
theorem l15_4_step (m : Nat) (d : dens l15_4H.tys) : l15_4L.f (m + 1) d = round E15 LL15 m [15] 31 (loopN (bodyOf Tryd.f15) 0) l15_4L (l15_4L.f m) d := by kernel_rfl
theorem f15_run (k : Nat) (x : denL [.int .i64, .slice (.int .i64)]) : runFn E15 LL15 k 15 Tryd.f15 [.int .i64, .slice (.int .i64)] [.imm (.int .i64)] x = f15 k x.1 x.2 := by kernel_rfl
noncomputable def S15 : Vm.Spec := { ps := [.int .i64, .slice (.int .i64)], rs := [.imm (.int .i64)], f := fun x => f15 fuel x.1 x.2 }
theorem f15_holds : Vm.Spec.holds Tryd.prog 15 S15 := by
  have hB : BodiesOk Tryd.prog E15 := bodies_none rfl
  have hBS : BodiesStepped E15 LL15 := bodies_stepped_none rfl
  have hS : SpecsOk Tryd.prog E15 := specs_ok (by exact trivial)
  have hE : EOk Tryd.prog E15 := eok_te ok
  exact fn_sound (L := LL15) hE hS hB (draws_ok hE hS (by kernel_rfl)) hBS (fn := Tryd.f15) (by kernel_rfl) (c := bodyOf Tryd.f15) (by kernel_rfl) (stepped_of (ls := [(4, l15_4L)]) rfl rfl ⟨by kernel_rfl, fun _ => rfl, l15_4_step, stepsI_end (by kernel_rfl)⟩) fun x r h => ⟨fuel, (f15_run fuel x).trans h⟩

/-! slices.Clone[[]int,int] -/
noncomputable def E21 : Env := { te := te, spec := [], body := [] }
def LL21 : Loops := []
def f21 (k : Nat) (a0 : Option (List Int)) : Option (List Int) :=
  if a0.isNone = true then
    some []
  else
    if (0 + (a0.getD []).length) * 8 ≤ 140737488355328 then
      some ([] ++ (a0.getD []))
    else none
theorem f21_run (k : Nat) (x : denL [.nsl (.int .i64)]) : runFn E21 LL21 k 21 Tryd.f21 [.nsl (.int .i64)] [.fresh (.int .i64)] x = f21 k x := by kernel_rfl
noncomputable def S21 : Vm.Spec := { ps := [.nsl (.int .i64)], rs := [.fresh (.int .i64)], f := fun x => f21 fuel x }
theorem f21_holds : Vm.Spec.holds Tryd.prog 21 S21 := by
  have hB : BodiesOk Tryd.prog E21 := bodies_none rfl
  have hBS : BodiesStepped E21 LL21 := bodies_stepped_none rfl
  have hS : SpecsOk Tryd.prog E21 := specs_ok (by exact trivial)
  have hE : EOk Tryd.prog E21 := eok_te ok
  exact fn_sound (L := LL21) hE hS hB (draws_ok hE hS (by kernel_rfl)) hBS (fn := Tryd.f21) (by kernel_rfl) (c := bodyOf Tryd.f21) (by kernel_rfl) (stepped_none rfl) fun x r h => ⟨fuel, (f21_run fuel x).trans h⟩

def f21s (x : List Int) := f21 fuel (some x)
noncomputable def S21s : Vm.Spec := { ps := [.slice (.int .i64)], rs := [.fresh (.int .i64)], f := f21s }
theorem f21s_holds : Vm.Spec.holds Tryd.prog 21 S21s := holds_nsl f21_holds fun xs r h => ⟨h, fun e => by subst e; exact h⟩

/-! gamehall/cards.Shuffle -/
noncomputable def E9 : Env := { te := te, spec := [(14, S14), (15, S15), (21, S21s)], body := [] }
def l9_9H : Ann := { slots := [(8, .one (.own 100 (.int .i64))), (26, .one (.val (.slice (.int .i64)))), (27, .one (.val (.int .i64))), (28, .one (.val (.int .i64)))], objs := [(100, .buf (.int .i64))] }
def l9_9X : Ann := { slots := [(8, .one (.own 100 (.int .i64)))], objs := [(100, .buf (.int .i64))] }
def l9_9R : Ann := { slots := [], objs := [] }
def l9_9 : Nat → List Int → Int → Int → List Int → Option (LR l9_9X l9_9R)
  | 0, _, _, _, _ => none
  | m + 1, s26, s27, s28, b100 =>
    if decide (s28 < s27) = true then
      if (0 : Int) ≤ s28 then
        if s28 < s26.length then
          if (0 : Int) ≤ s26.getD s28.toNat 0 then
            if s26.getD s28.toNat 0 < b100.length then
              if (0 : Int) ≤ IntKind.i64.wrap ((IntKind.i64.wrap ((b100.length : Int) - 1)) - s28) then
                if IntKind.i64.wrap ((IntKind.i64.wrap ((b100.length : Int) - 1)) - s28) < b100.length then
                  if (0 : Int) ≤ IntKind.i64.wrap ((IntKind.i64.wrap ((b100.length : Int) - 1)) - s28) then
                    if IntKind.i64.wrap ((IntKind.i64.wrap ((b100.length : Int) - 1)) - s28) < b100.length then
                      if (0 : Int) ≤ s26.getD s28.toNat 0 then
                        if s26.getD s28.toNat 0 < (b100.set ((IntKind.i64.wrap ((IntKind.i64.wrap ((b100.length : Int) - 1)) - s28)).toNat) (b100.getD ((s26.getD s28.toNat 0).toNat) 0)).length then
                          l9_9 m s26 s27 (IntKind.i64.wrap (s28 + 1)) ((b100.set ((IntKind.i64.wrap ((IntKind.i64.wrap ((b100.length : Int) - 1)) - s28)).toNat) (b100.getD ((s26.getD s28.toNat 0).toNat) 0)).set ((s26.getD s28.toNat 0).toNat) (b100.getD ((IntKind.i64.wrap ((IntKind.i64.wrap ((b100.length : Int) - 1)) - s28)).toNat) 0))
                        else none
                      else none
                    else none
                  else none
                else none
              else none
            else none
          else none
        else none
      else none
    else
      some (.exit (b100, ()))
def l9_9L : LSpec := { h := l9_9H, x := l9_9X, r := l9_9R, xid := 0, rt := false, pins := [100], f := fun k d => l9_9 k d.1 d.2.1 d.2.2.1 d.2.2.2.1 }
def LL9 : Loops := [([9], [(9, l9_9L)])]
def f9 (k : Nat) (a0 : List Int) (a1 : List Int) : Option (List Int × Int) :=
  (f14 fuel a0).bind fun r1 =>
  if (r1 != 0) = true then
    some ([], r1)
  else
    (f15 fuel (a0.length : Int) a1).bind fun r2 =>
    if (r2 != 0) = true then
      some ([], r2)
    else
      (f21s a0).bind fun r3 =>
      match l9_9 k a1 (a1.length : Int) 0 r3 with
      | none => none
      | some (.exit d4) =>
        some (d4.1, 0)
      | some (.ret d4) =>
        none
theorem l9_9_step (m : Nat) (d : dens l9_9H.tys) : l9_9L.f (m + 1) d = round E9 LL9 m [9] 54 (loopN (bodyOf Tryd.f9) 0) l9_9L (l9_9L.f m) d := by kernel_rfl
theorem f9_run (k : Nat) (x : denL [.slice (.int .i64), .slice (.int .i64)]) : runFn E9 LL9 k 9 Tryd.f9 [.slice (.int .i64), .slice (.int .i64)] [.fresh (.int .i64), .imm (.int .i64)] x = f9 k x.1 x.2 := by kernel_rfl
noncomputable def S9 : Vm.Spec := { ps := [.slice (.int .i64), .slice (.int .i64)], rs := [.fresh (.int .i64), .imm (.int .i64)], f := fun x => f9 fuel x.1 x.2 }
theorem f9_holds : Vm.Spec.holds Tryd.prog 9 S9 := by
  have hB : BodiesOk Tryd.prog E9 := bodies_none rfl
  have hBS : BodiesStepped E9 LL9 := bodies_stepped_none rfl
  have hS : SpecsOk Tryd.prog E9 := specs_ok (by exact ⟨⟨by kernel_rfl, f14_holds⟩, ⟨by kernel_rfl, f15_holds⟩, ⟨by kernel_rfl, f21s_holds⟩, trivial⟩)
  have hE : EOk Tryd.prog E9 := eok_te ok
  exact fn_sound (L := LL9) hE hS hB (draws_ok hE hS (by kernel_rfl)) hBS (fn := Tryd.f9) (by kernel_rfl) (c := bodyOf Tryd.f9) (by kernel_rfl) (stepped_of (ls := [(9, l9_9L)]) rfl rfl ⟨by kernel_rfl, fun _ => rfl, l9_9_step, stepsI_end (by kernel_rfl)⟩) fun x r h => ⟨fuel, (f9_run fuel x).trans h⟩

/-! gamehall/cards.Draws -/
noncomputable def E10 : Env := { te := te, spec := [(14, S14), (21, S21s), (22, S22)], body := [] }
def l10_12H : Ann := { slots := [(1, .one (.val (.slice (.int .i64)))), (8, .one (.own 112 (.int .i64))), (9, .one (.own 252 (.int .i64))), (10, .one (.val (.int .i64)))], objs := [(112, .buf (.int .i64)), (252, .buf (.int .i64))] }
def l10_12X : Ann := { slots := [(9, .one (.own 252 (.int .i64)))], objs := [(252, .buf (.int .i64)), (112, .buf (.int .i64))] }
def l10_12R : Ann := { slots := [(4, .one (.fix .nil)), (5, .one (.val (.int .i64)))], objs := [(112, .buf (.int .i64))] }
def l10_12 : Nat → List Int → Int → List Int → List Int → Option (LR l10_12X l10_12R)
  | 0, _, _, _, _ => none
  | m + 1, s1, s10, b112, b252 =>
    if decide (s10 ≥ 0) = true then
      if (0 : Int) ≤ s10 then
        if s10 < s1.length then
          (f22 fuel b112 (s1.getD s10.toNat 0)).bind fun r1 =>
          if decide (r1 < 0) = true then
            some (.ret (3, b112, ()))
          else
            if (0 : Int) ≤ r1 then
              if r1 < b112.length then
                if (0 : Int) ≤ s10 then
                  if s10 < b112.length then
                    if (0 : Int) ≤ s10 then
                      if s10 < b112.length then
                        if (0 : Int) ≤ r1 then
                          if r1 < (b112.set s10.toNat (b112.getD r1.toNat 0)).length then
                            if decide (s10 > 0) = true then
                              if (b252.length + 1) * 8 ≤ 140737488355328 then
                                l10_12 m s1 (IntKind.i64.wrap (s10 - 1)) ((b112.set s10.toNat (b112.getD r1.toNat 0)).set r1.toNat (b112.getD s10.toNat 0)) (b252 ++ [r1])
                              else none
                            else
                              l10_12 m s1 (IntKind.i64.wrap (s10 - 1)) ((b112.set s10.toNat (b112.getD r1.toNat 0)).set r1.toNat (b112.getD s10.toNat 0)) b252
                          else none
                        else none
                      else none
                    else none
                  else none
                else none
              else none
            else none
        else none
      else none
    else
      some (.exit (b252, b112, ()))
def l10_12L : LSpec := { h := l10_12H, x := l10_12X, r := l10_12R, xid := 0, rt := true, pins := [112], f := fun k d => l10_12 k d.1 d.2.1 d.2.2.1 d.2.2.2.1 }
def LL10 : Loops := [([10], [(12, l10_12L)])]
def f10 (k : Nat) (a0 : List Int) (a1 : List Int) : Option (List Int × Int) :=
  (f14 fuel a0).bind fun r1 =>
  if (r1 != 0) = true then
    some ([], r1)
  else
    (f14 fuel a1).bind fun r2 =>
    if (r2 != 0) = true then
      some ([], r2)
    else
      if ((a0.length : Int) != (a1.length : Int)) = true then
        some ([], 3)
      else
        (f21s a0).bind fun r3 =>
        match l10_12 k a1 (IntKind.i64.wrap ((r3.length : Int) - 1)) r3 [] with
        | none => none
        | some (.exit d4) =>
          some (d4.1, 0)
        | some (.ret d4) =>
          some ([], d4.1)
theorem l10_12_step (m : Nat) (d : dens l10_12H.tys) : l10_12L.f (m + 1) d = round E10 LL10 m [10] 65 (loopN (bodyOf Tryd.f10) 0) l10_12L (l10_12L.f m) d := by kernel_rfl
theorem f10_run (k : Nat) (x : denL [.slice (.int .i64), .slice (.int .i64)]) : runFn E10 LL10 k 10 Tryd.f10 [.slice (.int .i64), .slice (.int .i64)] [.fresh (.int .i64), .imm (.int .i64)] x = f10 k x.1 x.2 := by kernel_rfl
noncomputable def S10 : Vm.Spec := { ps := [.slice (.int .i64), .slice (.int .i64)], rs := [.fresh (.int .i64), .imm (.int .i64)], f := fun x => f10 fuel x.1 x.2 }
theorem f10_holds : Vm.Spec.holds Tryd.prog 10 S10 := by
  have hB : BodiesOk Tryd.prog E10 := bodies_none rfl
  have hBS : BodiesStepped E10 LL10 := bodies_stepped_none rfl
  have hS : SpecsOk Tryd.prog E10 := specs_ok (by exact ⟨⟨by kernel_rfl, f14_holds⟩, ⟨by kernel_rfl, f21s_holds⟩, ⟨by kernel_rfl, f22_holds⟩, trivial⟩)
  have hE : EOk Tryd.prog E10 := eok_te ok
  exact fn_sound (L := LL10) hE hS hB (draws_ok hE hS (by kernel_rfl)) hBS (fn := Tryd.f10) (by kernel_rfl) (c := bodyOf Tryd.f10) (by kernel_rfl) (stepped_of (ls := [(12, l10_12L)]) rfl rfl ⟨by kernel_rfl, fun _ => rfl, l10_12_step, stepsI_end (by kernel_rfl)⟩) fun x r h => ⟨fuel, (f10_run fuel x).trans h⟩

/-! slices.Equal[[]int,int] -/
noncomputable def E7 : Env := { te := te, spec := [], body := [] }
def l7_4H : Ann := { slots := [(0, .one (.val (.slice (.int .i64)))), (1, .one (.val (.slice (.int .i64)))), (12, .one (.val (.int .i64))), (13, .one (.val (.int .i64)))], objs := [] }
def l7_4X : Ann := { slots := [], objs := [] }
def l7_4R : Ann := { slots := [(4, .one (.val .bool))], objs := [] }
def l7_4 : Nat → List Int → List Int → Int → Int → Option (LR l7_4X l7_4R)
  | 0, _, _, _, _ => none
  | m + 1, s0, s1, s12, s13 =>
    if decide (s13 < s12) = true then
      if (0 : Int) ≤ s13 then
        if s13 < s0.length then
          if (0 : Int) ≤ s13 then
            if s13 < s1.length then
              if (s0.getD s13.toNat 0 != s1.getD s13.toNat 0) = true then
                some (.ret (false, ()))
              else
                l7_4 m s0 s1 s12 (IntKind.i64.wrap (s13 + 1))
            else none
          else none
        else none
      else none
    else
      some (.exit ())
def l7_4L : LSpec := { h := l7_4H, x := l7_4X, r := l7_4R, xid := 0, rt := true, pins := [], f := fun k d => l7_4 k d.1 d.2.1 d.2.2.1 d.2.2.2.1 }
def LL7 : Loops := [([7], [(4, l7_4L)])]
def f7 (k : Nat) (a0 : List Int) (a1 : List Int) : Option (Bool) :=
  if ((a0.length : Int) != (a1.length : Int)) = true then
    some false
  else
    match l7_4 k a0 a1 (a0.length : Int) 0 with
    | none => none
    | some (.exit d1) =>
      some true
    | some (.ret d1) =>
      some d1.1
theorem l7_4_step (m : Nat) (d : dens l7_4H.tys) : l7_4L.f (m + 1) d = round E7 LL7 m [7] 26 (loopN (bodyOf Tryd.f7) 0) l7_4L (l7_4L.f m) d := by kernel_rfl
theorem f7_run (k : Nat) (x : denL [.slice (.int .i64), .slice (.int .i64)]) : runFn E7 LL7 k 7 Tryd.f7 [.slice (.int .i64), .slice (.int .i64)] [.imm .bool] x = f7 k x.1 x.2 := by kernel_rfl
noncomputable def S7 : Vm.Spec := { ps := [.slice (.int .i64), .slice (.int .i64)], rs := [.imm .bool], f := fun x => f7 fuel x.1 x.2 }
theorem f7_holds : Vm.Spec.holds Tryd.prog 7 S7 := by
  have hB : BodiesOk Tryd.prog E7 := bodies_none rfl
  have hBS : BodiesStepped E7 LL7 := bodies_stepped_none rfl
  have hS : SpecsOk Tryd.prog E7 := specs_ok (by exact trivial)
  have hE : EOk Tryd.prog E7 := eok_te ok
  exact fn_sound (L := LL7) hE hS hB (draws_ok hE hS (by kernel_rfl)) hBS (fn := Tryd.f7) (by kernel_rfl) (c := bodyOf Tryd.f7) (by kernel_rfl) (stepped_of (ls := [(4, l7_4L)]) rfl rfl ⟨by kernel_rfl, fun _ => rfl, l7_4_step, stepsI_end (by kernel_rfl)⟩) fun x r h => ⟨fuel, (f7_run fuel x).trans h⟩

/-! gamehall/gamehallkeep2.fine -/
noncomputable def E13 : Env := { te := te, spec := [], body := [(24, Tryd.f24), (25, Tryd.f25), (33, Tryd.f33)] }
def l33_24_13_2H : Ann := { slots := [(0, .one (.val (.slice (.int .i64)))), (1, .one (.fix (.func 25))), (7, .one (.val (.int .i64))), (8, .one (.val (.int .i64)))], objs := [] }
def l33_24_13_2X : Ann := { slots := [], objs := [] }
def l33_24_13_2R : Ann := { slots := [(4, .one (.val (.int .i64)))], objs := [] }
def l33_24_13_2 : Nat → List Int → Int → Int → Option (LR l33_24_13_2X l33_24_13_2R)
  | 0, _, _, _ => none
  | m + 1, s0, s7, s8 =>
    if decide (s8 < s7) = true then
      if (0 : Int) ≤ s8 then
        if s8 < s0.length then
          if (s0.getD s8.toNat 0 != 0) = true then
            some (.ret (s8, ()))
          else
            l33_24_13_2 m s0 s7 (IntKind.i64.wrap (s8 + 1))
        else none
      else none
    else
      some (.exit ())
def l33_24_13_2L : LSpec := { h := l33_24_13_2H, x := l33_24_13_2X, r := l33_24_13_2R, xid := 0, rt := true, pins := [], f := fun k d => l33_24_13_2 k d.1 d.2.1 d.2.2.1 }
def LL13 : Loops := [([33, 24, 13], [(2, l33_24_13_2L)])]
def f13 (k : Nat) (a0 : List Int) : Option (Bool) :=
  match l33_24_13_2 k a0 (a0.length : Int) 0 with
  | none => none
  | some (.exit d1) =>
    some true
  | some (.ret d1) =>
    some (!(decide (d1.1 ≥ 0)))
theorem l33_24_13_2_step (m : Nat) (d : dens l33_24_13_2H.tys) : l33_24_13_2L.f (m + 1) d = round E13 LL13 m [33, 24, 13] 19 (loopN (bodyOf Tryd.f33) 0) l33_24_13_2L (l33_24_13_2L.f m) d := by kernel_rfl
theorem f13_run (k : Nat) (x : denL [.slice (.int .i64)]) : runFn E13 LL13 k 13 Tryd.f13 [.slice (.int .i64)] [.imm .bool] x = f13 k x := by kernel_rfl
noncomputable def S13 : Vm.Spec := { ps := [.slice (.int .i64)], rs := [.imm .bool], f := fun x => f13 fuel x }
theorem f13_holds : Vm.Spec.holds Tryd.prog 13 S13 := by
  have hB : BodiesOk Tryd.prog E13 := bodies_ok (by exact ⟨by kernel_rfl, by kernel_rfl, by kernel_rfl, by kernel_rfl, by kernel_rfl, by kernel_rfl, trivial⟩)
  have hBS : BodiesStepped E13 LL13 := by
    refine bodies_stepped ?_
    exact ⟨(fun _ => stepped_noloop (by kernel_rfl)), (fun _ => stepped_noloop (by kernel_rfl)), (stepped_paths [[24, 13]] (by exact ⟨stepped_of (ls := [(2, l33_24_13_2L)]) rfl rfl ⟨by kernel_rfl, fun _ => rfl, l33_24_13_2_step, stepsI_end (by kernel_rfl)⟩,  trivial⟩) rfl),  trivial⟩
  have hS : SpecsOk Tryd.prog E13 := specs_ok (by exact trivial)
  have hE : EOk Tryd.prog E13 := eok_te ok
  exact fn_sound (L := LL13) hE hS hB (draws_ok hE hS (by kernel_rfl)) hBS (fn := Tryd.f13) (by kernel_rfl) (c := bodyOf Tryd.f13) (by kernel_rfl) (stepped_none rfl) fun x r h => ⟨fuel, (f13_run fuel x).trans h⟩

/-! gamehall/cards.Fresh -/
noncomputable def E8 : Env := { te := te, spec := [], body := [] }
def l8_5H : Ann := { slots := [(4, .one (.own 76 (.int .i64))), (12, .one (.val (.int .i64))), (13, .one (.val (.int .i64)))], objs := [(76, .buf (.int .i64))] }
def l8_5X : Ann := { slots := [(4, .one (.own 76 (.int .i64)))], objs := [(76, .buf (.int .i64))] }
def l8_5R : Ann := { slots := [], objs := [] }
def l8_5 : Nat → Int → Int → List Int → Option (LR l8_5X l8_5R)
  | 0, _, _, _ => none
  | m + 1, s12, s13, b76 =>
    if decide (s13 < s12) = true then
      if (b76.length + 1) * 8 ≤ 140737488355328 then
        l8_5 m s12 (IntKind.i64.wrap (s13 + 1)) (b76 ++ [s13])
      else none
    else
      some (.exit (b76, ()))
def l8_5L : LSpec := { h := l8_5H, x := l8_5X, r := l8_5R, xid := 0, rt := false, pins := [], f := fun k d => l8_5 k d.1 d.2.1 d.2.2.1 }
def LL8 : Loops := [([8], [(5, l8_5L)])]
def f8 (k : Nat) (a0 : Int) : Option (List Int × Int) :=
  if decide (a0 < 0) = false then
    if decide (a0 > 52) = true then
      some ([], 4)
    else
      match l8_5 k a0 0 [] with
      | none => none
      | some (.exit d1) =>
        some (d1.1, 0)
      | some (.ret d1) =>
        none
  else
    some ([], 4)
theorem l8_5_step (m : Nat) (d : dens l8_5H.tys) : l8_5L.f (m + 1) d = round E8 LL8 m [8] 22 (loopN (bodyOf Tryd.f8) 0) l8_5L (l8_5L.f m) d := by kernel_rfl
theorem f8_run (k : Nat) (x : denL [.int .i64]) : runFn E8 LL8 k 8 Tryd.f8 [.int .i64] [.fresh (.int .i64), .imm (.int .i64)] x = f8 k x := by kernel_rfl
noncomputable def S8 : Vm.Spec := { ps := [.int .i64], rs := [.fresh (.int .i64), .imm (.int .i64)], f := fun x => f8 fuel x }
theorem f8_holds : Vm.Spec.holds Tryd.prog 8 S8 := by
  have hB : BodiesOk Tryd.prog E8 := bodies_none rfl
  have hBS : BodiesStepped E8 LL8 := bodies_stepped_none rfl
  have hS : SpecsOk Tryd.prog E8 := specs_ok (by exact trivial)
  have hE : EOk Tryd.prog E8 := eok_te ok
  exact fn_sound (L := LL8) hE hS hB (draws_ok hE hS (by kernel_rfl)) hBS (fn := Tryd.f8) (by kernel_rfl) (c := bodyOf Tryd.f8) (by kernel_rfl) (stepped_of (ls := [(5, l8_5L)]) rfl rfl ⟨by kernel_rfl, fun _ => rfl, l8_5_step, stepsI_end (by kernel_rfl)⟩) fun x r h => ⟨fuel, (f8_run fuel x).trans h⟩

/-! slices.Concat[[]int,int] -/
noncomputable def E23 : Env := { te := te, spec := [], body := [(32, Tryd.f32)] }
def l23_3H : Ann := { slots := [(3, .one (.val (.int .i64))), (9, .one (.val (.slice (.slice (.int .i64))))), (10, .one (.val (.int .i64))), (11, .one (.val (.int .i64)))], objs := [] }
def l23_3X : Ann := { slots := [(3, .one (.val (.int .i64)))], objs := [] }
def l23_3R : Ann := { slots := [], objs := [] }
def l23_11H : Ann := { slots := [(6, .one (.pre 4088 (.int .i64))), (25, .one (.val (.slice (.slice (.int .i64))))), (26, .one (.val (.int .i64))), (27, .one (.val (.int .i64)))], objs := [(4088, .buf (.int .i64))] }
def l23_11X : Ann := { slots := [(6, .one (.pre 4088 (.int .i64)))], objs := [(4088, .buf (.int .i64))] }
def l23_11R : Ann := { slots := [], objs := [] }
def l23_3 : Nat → Int → List (List Int) → Int → Int → Option (LR l23_3X l23_3R)
  | 0, _, _, _, _ => none
  | m + 1, s3, s9, s10, s11 =>
    if decide (s11 < s10) = true then
      if (0 : Int) ≤ s11 then
        if s11 < s9.length then
          if decide (IntKind.i64.wrap (s3 + ((s9.getD s11.toNat []).length : Int)) < 0) = true then
            none
          else
            l23_3 m (IntKind.i64.wrap (s3 + ((s9.getD s11.toNat []).length : Int))) s9 s10 (IntKind.i64.wrap (s11 + 1))
        else none
      else none
    else
      some (.exit (s3, ()))
def l23_3L : LSpec := { h := l23_3H, x := l23_3X, r := l23_3R, xid := 0, rt := false, pins := [], f := fun k d => l23_3 k d.1 d.2.1 d.2.2.1 d.2.2.2.1 }
def l23_11 : Nat → Nat → List (List Int) → Int → Int → List Int → Option (LR l23_11X l23_11R)
  | 0, _, _, _, _, _ => none
  | m + 1, s6, s25, s26, s27, b4088 =>
    if decide (s27 < s26) = true then
      if (0 : Int) ≤ s27 then
        if s27 < s25.length then
          if ((b4088.take s6).length + (s25.getD s27.toNat []).length) * 8 ≤ 140737488355328 then
            l23_11 m (((b4088.take s6) ++ (s25.getD s27.toNat [])).length) s25 s26 (IntKind.i64.wrap (s27 + 1)) ((b4088.take s6) ++ (s25.getD s27.toNat []))
          else none
        else none
      else none
    else
      some (.exit (s6, b4088, ()))
def l23_11L : LSpec := { h := l23_11H, x := l23_11X, r := l23_11R, xid := 2, rt := false, pins := [], f := fun k d => l23_11 k d.1 d.2.1 d.2.2.1 d.2.2.2.1 d.2.2.2.2.1 }
def LL23 : Loops := [([23], [(3, l23_3L), (11, l23_11L)])]
def f23 (k : Nat) (a0 : List (List Int)) : Option (List Int) :=
  match l23_3 k 0 a0 (a0.length : Int) 0 with
  | none => none
  | some (.exit d1) =>
    if decide (d1.1 < 0) = true then
      none
    else
      if decide (IntKind.i64.wrap (d1.1 - 0) > 0) = true then
        if (0 : Int) < IntKind.i64.wrap (d1.1 - 0) then
          if (IntKind.i64.wrap (d1.1 - 0)) * 8 ≤ 140737488355328 then
            if (0 : Int) ≤ (List.replicate (IntKind.i64.wrap (d1.1 - 0)).toNat 0).length then
              match l23_11 k 0 a0 (a0.length : Int) 0 (List.replicate (IntKind.i64.wrap (d1.1 - 0)).toNat 0) with
              | none => none
              | some (.exit d2) =>
                some (d2.2.1.take d2.1)
              | some (.ret d2) =>
                none
            else none
          else none
        else none
      else
        match l23_11 k 0 a0 (a0.length : Int) 0 [] with
        | none => none
        | some (.exit d3) =>
          some (d3.2.1.take d3.1)
        | some (.ret d3) =>
          none
  | some (.ret d1) =>
    none
theorem l23_3_step (m : Nat) (d : dens l23_3H.tys) : l23_3L.f (m + 1) d = round E23 LL23 m [23] 36 (loopN (bodyOf Tryd.f23) 0) l23_3L (l23_3L.f m) d := by kernel_rfl
theorem l23_11_step (m : Nat) (d : dens l23_11H.tys) : l23_11L.f (m + 1) d = round E23 LL23 m [23] 36 (loopN (bodyOf Tryd.f23) 1) l23_11L (l23_11L.f m) d := by kernel_rfl
theorem f23_run (k : Nat) (x : denL [.slice (.slice (.int .i64))]) : runFn E23 LL23 k 23 Tryd.f23 [.slice (.slice (.int .i64))] [.fresh (.int .i64)] x = f23 k x := by kernel_rfl
noncomputable def S23 : Vm.Spec := { ps := [.slice (.slice (.int .i64))], rs := [.fresh (.int .i64)], f := fun x => f23 fuel x }
theorem f23_holds : Vm.Spec.holds Tryd.prog 23 S23 := by
  have hB : BodiesOk Tryd.prog E23 := bodies_ok (by exact ⟨by kernel_rfl, by kernel_rfl, trivial⟩)
  have hBS : BodiesStepped E23 LL23 := by
    refine bodies_stepped ?_
    exact ⟨(fun _ => stepped_noloop (by kernel_rfl)),  trivial⟩
  have hS : SpecsOk Tryd.prog E23 := specs_ok (by exact trivial)
  have hE : EOk Tryd.prog E23 := eok_te ok
  exact fn_sound (L := LL23) hE hS hB (draws_ok hE hS (by kernel_rfl)) hBS (fn := Tryd.f23) (by kernel_rfl) (c := bodyOf Tryd.f23) (by kernel_rfl) (stepped_of (ls := [(3, l23_3L), (11, l23_11L)]) rfl rfl ⟨by kernel_rfl, fun _ => rfl, l23_3_step, by kernel_rfl, fun _ => rfl, l23_11_step, stepsI_end (by kernel_rfl)⟩) fun x r h => ⟨fuel, (f23_run fuel x).trans h⟩

/-! gamehall/cards.Cut -/
noncomputable def E11 : Env := { te := te, spec := [(14, S14), (23, S23)], body := [] }
def LL11 : Loops := []
def f11 (k : Nat) (a0 : List Int) (a1 : Int) : Option (List Int × Int) :=
  (f14 fuel a0).bind fun r1 =>
  if (r1 != 0) = true then
    some ([], r1)
  else
    if decide (a1 < 0) = false then
      if decide (a1 > (a0.length : Int)) = true then
        some ([], 4)
      else
        if (0 : Int) ≤ a1 then
          if a1 ≤ a0.length then
            if (0 : Int) ≤ a1 then
              if a1 ≤ a0.length then
                (f23 fuel [(a0.take a0.length).drop a1.toNat, (a0.take a1.toNat).drop 0]).bind fun r2 =>
                some (r2, 0)
              else none
            else none
          else none
        else none
    else
      some ([], 4)
theorem f11_run (k : Nat) (x : denL [.slice (.int .i64), .int .i64]) : runFn E11 LL11 k 11 Tryd.f11 [.slice (.int .i64), .int .i64] [.fresh (.int .i64), .imm (.int .i64)] x = f11 k x.1 x.2 := by kernel_rfl
noncomputable def S11 : Vm.Spec := { ps := [.slice (.int .i64), .int .i64], rs := [.fresh (.int .i64), .imm (.int .i64)], f := fun x => f11 fuel x.1 x.2 }
theorem f11_holds : Vm.Spec.holds Tryd.prog 11 S11 := by
  have hB : BodiesOk Tryd.prog E11 := bodies_none rfl
  have hBS : BodiesStepped E11 LL11 := bodies_stepped_none rfl
  have hS : SpecsOk Tryd.prog E11 := specs_ok (by exact ⟨⟨by kernel_rfl, f14_holds⟩, ⟨by kernel_rfl, f23_holds⟩, trivial⟩)
  have hE : EOk Tryd.prog E11 := eok_te ok
  exact fn_sound (L := LL11) hE hS hB (draws_ok hE hS (by kernel_rfl)) hBS (fn := Tryd.f11) (by kernel_rfl) (c := bodyOf Tryd.f11) (by kernel_rfl) (stepped_none rfl) fun x r h => ⟨fuel, (f11_run fuel x).trans h⟩

/-! gamehall/cards.Deal -/
noncomputable def E12 : Env := { te := te, spec := [(14, S14), (21, S21s)], body := [] }
def l12_10H : Ann := { slots := [(1, .one (.val (.int .i64))), (10, .one (.own 156 (.slice (.int .i64)))), (44, .one (.val (.slice (.int .i64)))), (45, .one (.val (.int .i64))), (46, .one (.val (.int .i64)))], objs := [(156, .grid (.int .i64))] }
def l12_10X : Ann := { slots := [(10, .one (.own 156 (.slice (.int .i64))))], objs := [(156, .grid (.int .i64))] }
def l12_10R : Ann := { slots := [], objs := [] }
def l12_10 : Nat → Int → List Int → Int → Int → List (List Int) → Option (LR l12_10X l12_10R)
  | 0, _, _, _, _, _ => none
  | m + 1, s1, s44, s45, s46, b156 =>
    if decide (s46 < s45) = true then
      if (0 : Int) ≤ s46 then
        if s46 < s44.length then
          if s1 = 0 then
            none
          else
            if s1 = 0 then
              none
            else
              if (0 : Int) ≤ s46.tmod s1 then
                if s46.tmod s1 < b156.length then
                  if ((b156.getD (s46.tmod s1).toNat []).length + 1) * 8 ≤ 140737488355328 then
                    if (0 : Int) ≤ s46.tmod s1 then
                      if s46.tmod s1 < b156.length then
                        if (s46.tmod s1).toNat = (s46.tmod s1).toNat then
                          l12_10 m s1 s44 s45 (IntKind.i64.wrap (s46 + 1)) (b156.set (s46.tmod s1).toNat ((b156.getD (s46.tmod s1).toNat []) ++ [s44.getD s46.toNat 0]))
                        else none
                      else none
                    else none
                  else none
                else none
              else none
        else none
      else none
    else
      some (.exit (b156, ()))
def l12_10L : LSpec := { h := l12_10H, x := l12_10X, r := l12_10R, xid := 0, rt := false, pins := [156], f := fun k d => l12_10 k d.1 d.2.1 d.2.2.1 d.2.2.2.1 d.2.2.2.2.1 }
def LL12 : Loops := [([12], [(10, l12_10L)])]
def f12 (k : Nat) (a0 : List Int) (a1 : Int) (a2 : Int) : Option ((List (List Int)) × List Int × Int) :=
  (f14 fuel a0).bind fun r1 =>
  if (r1 != 0) = true then
    some ([], [], r1)
  else
    if decide (a1 < 1) = false then
      if decide (a1 > 52) = false then
        if decide (a2 < 0) = false then
          if decide (a2 > 52) = true then
            some ([], [], 4)
          else
            if decide (IntKind.i64.wrap (a1 * a2) > (a0.length : Int)) = true then
              some ([], [], 8)
            else
              if (0 : Int) ≤ a1 then
                if a1 ≤ a1 then
                  if a1 * 24 ≤ 281474976710656 then
                    if (0 : Int) ≤ IntKind.i64.wrap (a1 * a2) then
                      if IntKind.i64.wrap (a1 * a2) ≤ a0.length then
                        match l12_10 k a1 ((a0.take (IntKind.i64.wrap (a1 * a2)).toNat).drop 0) (((a0.take (IntKind.i64.wrap (a1 * a2)).toNat).drop 0).length : Int) 0 (List.replicate a1.toNat []) with
                        | none => none
                        | some (.exit d2) =>
                          if (0 : Int) ≤ IntKind.i64.wrap (a1 * a2) then
                            if IntKind.i64.wrap (a1 * a2) ≤ a0.length then
                              (f21s ((a0.take a0.length).drop (IntKind.i64.wrap (a1 * a2)).toNat)).bind fun r3 =>
                              some (d2.1, r3, 0)
                            else none
                          else none
                        | some (.ret d2) =>
                          none
                      else none
                    else none
                  else none
                else none
              else none
        else
          some ([], [], 4)
      else
        some ([], [], 4)
    else
      some ([], [], 4)
theorem l12_10_step (m : Nat) (d : dens l12_10H.tys) : l12_10L.f (m + 1) d = round E12 LL12 m [12] 73 (loopN (bodyOf Tryd.f12) 0) l12_10L (l12_10L.f m) d := by kernel_rfl
theorem f12_run (k : Nat) (x : denL [.slice (.int .i64), .int .i64, .int .i64]) : runFn E12 LL12 k 12 Tryd.f12 [.slice (.int .i64), .int .i64, .int .i64] [.imm (.slice (.slice (.int .i64))), .fresh (.int .i64), .imm (.int .i64)] x = f12 k x.1 x.2.1 x.2.2 := by kernel_rfl
noncomputable def S12 : Vm.Spec := { ps := [.slice (.int .i64), .int .i64, .int .i64], rs := [.imm (.slice (.slice (.int .i64))), .fresh (.int .i64), .imm (.int .i64)], f := fun x => f12 fuel x.1 x.2.1 x.2.2 }
theorem f12_holds : Vm.Spec.holds Tryd.prog 12 S12 := by
  have hB : BodiesOk Tryd.prog E12 := bodies_none rfl
  have hBS : BodiesStepped E12 LL12 := bodies_stepped_none rfl
  have hS : SpecsOk Tryd.prog E12 := specs_ok (by exact ⟨⟨by kernel_rfl, f14_holds⟩, ⟨by kernel_rfl, f21s_holds⟩, trivial⟩)
  have hE : EOk Tryd.prog E12 := eok_te ok
  exact fn_sound (L := LL12) hE hS hB (draws_ok hE hS (by kernel_rfl)) hBS (fn := Tryd.f12) (by kernel_rfl) (c := bodyOf Tryd.f12) (by kernel_rfl) (stepped_of (ls := [(10, l12_10L)]) rfl rfl ⟨by kernel_rfl, fun _ => rfl, l12_10_step, stepsI_end (by kernel_rfl)⟩) fun x r h => ⟨fuel, (f12_run fuel x).trans h⟩

/-! gamehall/cards.Rank -/
noncomputable def E16 : Env := { te := te, spec := [], body := [] }
def LL16 : Loops := []
def f16 (k : Nat) (a0 : Int) : Option (Int) :=
  some (a0.tmod 13)
theorem f16_run (k : Nat) (x : denL [.int .i64]) : runFn E16 LL16 k 16 Tryd.f16 [.int .i64] [.imm (.int .i64)] x = f16 k x := by kernel_rfl
noncomputable def S16 : Vm.Spec := { ps := [.int .i64], rs := [.imm (.int .i64)], f := fun x => f16 fuel x }
theorem f16_holds : Vm.Spec.holds Tryd.prog 16 S16 := by
  have hB : BodiesOk Tryd.prog E16 := bodies_none rfl
  have hBS : BodiesStepped E16 LL16 := bodies_stepped_none rfl
  have hS : SpecsOk Tryd.prog E16 := specs_ok (by exact trivial)
  have hE : EOk Tryd.prog E16 := eok_te ok
  exact fn_sound (L := LL16) hE hS hB (draws_ok hE hS (by kernel_rfl)) hBS (fn := Tryd.f16) (by kernel_rfl) (c := bodyOf Tryd.f16) (by kernel_rfl) (stepped_none rfl) fun x r h => ⟨fuel, (f16_run fuel x).trans h⟩

/-! gamehall/cards.Suit -/
noncomputable def E17 : Env := { te := te, spec := [], body := [] }
def LL17 : Loops := []
def f17 (k : Nat) (a0 : Int) : Option (Int) :=
  some (IntKind.i64.wrap (a0.tdiv 13))
theorem f17_run (k : Nat) (x : denL [.int .i64]) : runFn E17 LL17 k 17 Tryd.f17 [.int .i64] [.imm (.int .i64)] x = f17 k x := by kernel_rfl
noncomputable def S17 : Vm.Spec := { ps := [.int .i64], rs := [.imm (.int .i64)], f := fun x => f17 fuel x }
theorem f17_holds : Vm.Spec.holds Tryd.prog 17 S17 := by
  have hB : BodiesOk Tryd.prog E17 := bodies_none rfl
  have hBS : BodiesStepped E17 LL17 := bodies_stepped_none rfl
  have hS : SpecsOk Tryd.prog E17 := specs_ok (by exact trivial)
  have hE : EOk Tryd.prog E17 := eok_te ok
  exact fn_sound (L := LL17) hE hS hB (draws_ok hE hS (by kernel_rfl)) hBS (fn := Tryd.f17) (by kernel_rfl) (c := bodyOf Tryd.f17) (by kernel_rfl) (stepped_none rfl) fun x r h => ⟨fuel, (f17_run fuel x).trans h⟩

/-! strings.Split -/
noncomputable def E19 : Env := { te := te, spec := [(37, Vm.sCount), (38, Vm.sIndex)], body := [(30, Tryd.f30)] }
def l30_19_11H : Ann := { slots := [(0, .one (.val .str)), (1, .one (.val .str)), (2, .one (.val (.int .i64))), (3, .one (.val (.int .i64))), (9, .one (.own 4124 .str)), (10, .one (.val (.int .i64)))], objs := [(4124, .buf .str)] }
def l30_19_11X : Ann := { slots := [(0, .one (.val .str)), (9, .one (.own 4124 .str)), (10, .one (.val (.int .i64)))], objs := [(4124, .buf .str)] }
def l30_19_11R : Ann := { slots := [], objs := [] }
def l30_19_11 : Nat → ByteArray → ByteArray → Int → Int → Int → List ByteArray → Option (LR l30_19_11X l30_19_11R)
  | 0, _, _, _, _, _, _ => none
  | m + 1, s0, s1, s2, s3, s10, b4124 =>
    if decide (s10 < s3) = true then
      (Vm.stdIndex s0 s1).bind fun r1 =>
      if decide (r1 < 0) = true then
        some (.exit (s0, s10, b4124, ()))
      else
        if (0 : Int) ≤ IntKind.i64.wrap (r1 + s2) then
          if IntKind.i64.wrap (r1 + s2) ≤ s0.size then
            if (0 : Int) ≤ s10 then
              if s10 < b4124.length then
                if (0 : Int) ≤ IntKind.i64.wrap (r1 + (s1.size : Int)) then
                  if IntKind.i64.wrap (r1 + (s1.size : Int)) ≤ s0.size then
                    l30_19_11 m (s0.extract (IntKind.i64.wrap (r1 + (s1.size : Int))).toNat s0.size) s1 s2 s3 (IntKind.i64.wrap (s10 + 1)) (b4124.set s10.toNat (s0.extract 0 (IntKind.i64.wrap (r1 + s2)).toNat))
                  else none
                else none
              else none
            else none
          else none
        else none
    else
      some (.exit (s0, s10, b4124, ()))
def l30_19_11L : LSpec := { h := l30_19_11H, x := l30_19_11X, r := l30_19_11R, xid := 0, rt := false, pins := [4124], f := fun k d => l30_19_11 k d.1 d.2.1 d.2.2.1 d.2.2.2.1 d.2.2.2.2.1 d.2.2.2.2.2.1 }
def LL19 : Loops := [([30, 19], [(11, l30_19_11L)])]
def f19 (k : Nat) (a0 : ByteArray) (a1 : ByteArray) : Option (List ByteArray) :=
  if ((a1.toList == (⟨#[]⟩ : ByteArray).toList)) = true then
    none
  else
    (Vm.stdCount a0 a1).bind fun r1 =>
    if (0 : Int) ≤ (if IntKind.i64.wrap ((a0.size : Int) + 1) < IntKind.i64.wrap (r1 + 1) then IntKind.i64.wrap ((a0.size : Int) + 1) else IntKind.i64.wrap (r1 + 1)) then
      if (if IntKind.i64.wrap ((a0.size : Int) + 1) < IntKind.i64.wrap (r1 + 1) then IntKind.i64.wrap ((a0.size : Int) + 1) else IntKind.i64.wrap (r1 + 1)) ≤ (if IntKind.i64.wrap ((a0.size : Int) + 1) < IntKind.i64.wrap (r1 + 1) then IntKind.i64.wrap ((a0.size : Int) + 1) else IntKind.i64.wrap (r1 + 1)) then
        if (if IntKind.i64.wrap ((a0.size : Int) + 1) < IntKind.i64.wrap (r1 + 1) then IntKind.i64.wrap ((a0.size : Int) + 1) else IntKind.i64.wrap (r1 + 1)) * 16 ≤ 281474976710656 then
          match l30_19_11 k a0 a1 0 (IntKind.i64.wrap ((if IntKind.i64.wrap ((a0.size : Int) + 1) < IntKind.i64.wrap (r1 + 1) then IntKind.i64.wrap ((a0.size : Int) + 1) else IntKind.i64.wrap (r1 + 1)) - 1)) 0 (List.replicate ((if IntKind.i64.wrap ((a0.size : Int) + 1) < IntKind.i64.wrap (r1 + 1) then IntKind.i64.wrap ((a0.size : Int) + 1) else IntKind.i64.wrap (r1 + 1)).toNat) ByteArray.empty) with
          | none => none
          | some (.exit d2) =>
            if (0 : Int) ≤ d2.2.1 then
              if d2.2.1 < d2.2.2.1.length then
                if (0 : Int) ≤ IntKind.i64.wrap (d2.2.1 + 1) then
                  if IntKind.i64.wrap (d2.2.1 + 1) ≤ (d2.2.2.1.set d2.2.1.toNat d2.1).length then
                    some ((d2.2.2.1.set d2.2.1.toNat d2.1).take ((IntKind.i64.wrap (d2.2.1 + 1)).toNat))
                  else none
                else none
              else none
            else none
          | some (.ret d2) =>
            none
        else none
      else none
    else none
theorem l30_19_11_step (m : Nat) (d : dens l30_19_11H.tys) : l30_19_11L.f (m + 1) d = round E19 LL19 m [30, 19] 66 (loopN (bodyOf Tryd.f30) 0) l30_19_11L (l30_19_11L.f m) d := by kernel_rfl
theorem f19_run (k : Nat) (x : denL [.str, .str]) : runFn E19 LL19 k 19 Tryd.f19 [.str, .str] [.fresh .str] x = f19 k x.1 x.2 := by kernel_rfl
noncomputable def S19 : Vm.Spec := { ps := [.str, .str], rs := [.fresh .str], f := fun x => f19 fuel x.1 x.2 }
theorem f19_holds : Vm.Spec.holds Tryd.prog 19 S19 := by
  have hB : BodiesOk Tryd.prog E19 := bodies_ok (by exact ⟨by kernel_rfl, by kernel_rfl, trivial⟩)
  have hBS : BodiesStepped E19 LL19 := by
    refine bodies_stepped ?_
    exact ⟨(stepped_paths [[19]] (by exact ⟨stepped_of (ls := [(11, l30_19_11L)]) rfl rfl ⟨by kernel_rfl, fun _ => rfl, l30_19_11_step, stepsI_end (by kernel_rfl)⟩,  trivial⟩) rfl),  trivial⟩
  have hS : SpecsOk Tryd.prog E19 := specs_ok (by exact ⟨⟨by kernel_rfl, g37_holds⟩, ⟨by kernel_rfl, g38_holds⟩, trivial⟩)
  have hE : EOk Tryd.prog E19 := eok_te ok
  exact fn_sound (L := LL19) hE hS hB (draws_ok hE hS (by kernel_rfl)) hBS (fn := Tryd.f19) (by kernel_rfl) (c := bodyOf Tryd.f19) (by kernel_rfl) (stepped_none rfl) fun x r h => ⟨fuel, (f19_run fuel x).trans h⟩

/-! gamehall/cards.Text -/
noncomputable def E5 : Env := { te := te, spec := [(14, S14), (16, S16), (17, S17), (18, Vm.sJoin)], body := [] }
def l5_6H : Ann := { slots := [(5, .one (.own 136 .str)), (13, .one (.val (.slice (.int .i64)))), (14, .one (.val (.int .i64))), (15, .one (.val (.int .i64)))], objs := [(136, .buf .str)] }
def l5_6X : Ann := { slots := [(5, .one (.own 136 .str))], objs := [(136, .buf .str)] }
def l5_6R : Ann := { slots := [], objs := [] }
def l5_6 : Nat → List Int → Int → Int → List ByteArray → Option (LR l5_6X l5_6R)
  | 0, _, _, _, _ => none
  | m + 1, s13, s14, s15, b136 =>
    if decide (s15 < s14) = true then
      if (0 : Int) ≤ s15 then
        if s15 < s13.length then
          (f16 fuel (s13.getD s15.toNat 0)).bind fun r1 =>
          (f16 fuel (s13.getD s15.toNat 0)).bind fun r2 =>
          if (0 : Int) ≤ IntKind.i64.wrap (r2 + 1) then
            if IntKind.i64.wrap (r2 + 1) ≤ (⟨#[50, 51, 52, 53, 54, 55, 56, 57, 84, 74, 81, 75, 65]⟩ : ByteArray).size then
              if (0 : Int) ≤ r1 then
                if r1 ≤ IntKind.i64.wrap (r2 + 1) then
                  (f17 fuel (s13.getD s15.toNat 0)).bind fun r3 =>
                  (f17 fuel (s13.getD s15.toNat 0)).bind fun r4 =>
                  if (0 : Int) ≤ IntKind.i64.wrap (r4 + 1) then
                    if IntKind.i64.wrap (r4 + 1) ≤ (⟨#[67, 68, 72, 83]⟩ : ByteArray).size then
                      if (0 : Int) ≤ r3 then
                        if r3 ≤ IntKind.i64.wrap (r4 + 1) then
                          if ((⟨#[50, 51, 52, 53, 54, 55, 56, 57, 84, 74, 81, 75, 65]⟩ : ByteArray).extract r1.toNat (IntKind.i64.wrap (r2 + 1)).toNat).size + ((⟨#[67, 68, 72, 83]⟩ : ByteArray).extract r3.toNat (IntKind.i64.wrap (r4 + 1)).toNat).size ≤ 4611686018427387904 then
                            if (b136.length + 1) * 16 ≤ 140737488355328 then
                              l5_6 m s13 s14 (IntKind.i64.wrap (s15 + 1)) (b136 ++ [((⟨#[50, 51, 52, 53, 54, 55, 56, 57, 84, 74, 81, 75, 65]⟩ : ByteArray).extract r1.toNat (IntKind.i64.wrap (r2 + 1)).toNat) ++ ((⟨#[67, 68, 72, 83]⟩ : ByteArray).extract r3.toNat (IntKind.i64.wrap (r4 + 1)).toNat)])
                            else none
                          else none
                        else none
                      else none
                    else none
                  else none
                else none
              else none
            else none
          else none
        else none
      else none
    else
      some (.exit (b136, ()))
def l5_6L : LSpec := { h := l5_6H, x := l5_6X, r := l5_6R, xid := 0, rt := false, pins := [], f := fun k d => l5_6 k d.1 d.2.1 d.2.2.1 d.2.2.2.1 }
def LL5 : Loops := [([5], [(6, l5_6L)])]
def f5 (k : Nat) (a0 : List Int) : Option (ByteArray × Int) :=
  (f14 fuel a0).bind fun r1 =>
  if (r1 != 0) = true then
    some ((⟨#[]⟩ : ByteArray), r1)
  else
    match l5_6 k a0 (a0.length : Int) 0 [] with
    | none => none
    | some (.exit d2) =>
      (Vm.stdJoin d2.1 (⟨#[32]⟩ : ByteArray)).bind fun r3 =>
      some (r3, 0)
    | some (.ret d2) =>
      none
theorem l5_6_step (m : Nat) (d : dens l5_6H.tys) : l5_6L.f (m + 1) d = round E5 LL5 m [5] 38 (loopN (bodyOf Tryd.f5) 0) l5_6L (l5_6L.f m) d := by kernel_rfl
theorem f5_run (k : Nat) (x : denL [.slice (.int .i64)]) : runFn E5 LL5 k 5 Tryd.f5 [.slice (.int .i64)] [.imm .str, .imm (.int .i64)] x = f5 k x := by kernel_rfl
noncomputable def S5 : Vm.Spec := { ps := [.slice (.int .i64)], rs := [.imm .str, .imm (.int .i64)], f := fun x => f5 fuel x }
theorem f5_holds : Vm.Spec.holds Tryd.prog 5 S5 := by
  have hB : BodiesOk Tryd.prog E5 := bodies_none rfl
  have hBS : BodiesStepped E5 LL5 := bodies_stepped_none rfl
  have hS : SpecsOk Tryd.prog E5 := specs_ok (by exact ⟨⟨by kernel_rfl, f14_holds⟩, ⟨by kernel_rfl, f16_holds⟩, ⟨by kernel_rfl, f17_holds⟩, ⟨by kernel_rfl, g18_holds⟩, trivial⟩)
  have hE : EOk Tryd.prog E5 := eok_te ok
  exact fn_sound (L := LL5) hE hS hB (draws_ok hE hS (by kernel_rfl)) hBS (fn := Tryd.f5) (by kernel_rfl) (c := bodyOf Tryd.f5) (by kernel_rfl) (stepped_of (ls := [(6, l5_6L)]) rfl rfl ⟨by kernel_rfl, fun _ => rfl, l5_6_step, stepsI_end (by kernel_rfl)⟩) fun x r h => ⟨fuel, (f5_run fuel x).trans h⟩

/-! gamehall/cards.Read -/
noncomputable def E6 : Env := { te := te, spec := [(14, S14), (19, S19), (20, Vm.sIndexByte)], body := [] }
def l6_7H : Ann := { slots := [(4, .one (.own 180 (.int .i64))), (14, .one (.own 56 .str)), (15, .one (.val (.int .i64))), (16, .one (.val (.int .i64)))], objs := [(180, .buf (.int .i64)), (56, .buf .str)] }
def l6_7X : Ann := { slots := [(4, .one (.own 180 (.int .i64)))], objs := [(180, .buf (.int .i64)), (56, .buf .str)] }
def l6_7R : Ann := { slots := [(2, .one (.fix .nil)), (3, .one (.val (.int .i64)))], objs := [(56, .buf .str)] }
def l6_7 : Nat → Int → Int → List Int → List ByteArray → Option (LR l6_7X l6_7R)
  | 0, _, _, _, _ => none
  | m + 1, s15, s16, b180, b56 =>
    if decide (s16 < s15) = true then
      if (0 : Int) ≤ s16 then
        if s16 < b56.length then
          if (((b56.getD s16.toNat ByteArray.empty).size : Int) != 2) = false then
            if (0 : Int) < ((b56.getD s16.toNat ByteArray.empty).size : Int) then
              (Vm.stdIndexByte (⟨#[50, 51, 52, 53, 54, 55, 56, 57, 84, 74, 81, 75, 65]⟩ : ByteArray) (((b56.getD s16.toNat ByteArray.empty).data.getD 0 0).toNat : Int)).bind fun r1 =>
              if decide (r1 < 0) = false then
                if (1 : Int) < ((b56.getD s16.toNat ByteArray.empty).size : Int) then
                  (Vm.stdIndexByte (⟨#[67, 68, 72, 83]⟩ : ByteArray) (((b56.getD s16.toNat ByteArray.empty).data.getD 1 0).toNat : Int)).bind fun r2 =>
                  if decide (r2 < 0) = true then
                    some (.ret (5, b56, ()))
                  else
                    if (1 : Int) < ((b56.getD s16.toNat ByteArray.empty).size : Int) then
                      if (0 : Int) < ((b56.getD s16.toNat ByteArray.empty).size : Int) then
                        (Vm.stdIndexByte (⟨#[67, 68, 72, 83]⟩ : ByteArray) (((b56.getD s16.toNat ByteArray.empty).data.getD 1 0).toNat : Int)).bind fun r3 =>
                        (Vm.stdIndexByte (⟨#[50, 51, 52, 53, 54, 55, 56, 57, 84, 74, 81, 75, 65]⟩ : ByteArray) (((b56.getD s16.toNat ByteArray.empty).data.getD 0 0).toNat : Int)).bind fun r4 =>
                        if (b180.length + 1) * 8 ≤ 140737488355328 then
                          l6_7 m s15 (IntKind.i64.wrap (s16 + 1)) (b180 ++ [IntKind.i64.wrap ((IntKind.i64.wrap (r3 * 13)) + r4)]) b56
                        else none
                      else none
                    else none
                else none
              else
                some (.ret (5, b56, ()))
            else none
          else
            some (.ret (5, b56, ()))
        else none
      else none
    else
      some (.exit (b180, b56, ()))
def l6_7L : LSpec := { h := l6_7H, x := l6_7X, r := l6_7R, xid := 0, rt := true, pins := [56], f := fun k d => l6_7 k d.1 d.2.1 d.2.2.1 d.2.2.2.1 }
def LL6 : Loops := [([6], [(7, l6_7L)])]
def f6 (k : Nat) (a0 : ByteArray) : Option (List Int × Int) :=
  if decide ((a0.size : Int) > 8192) = true then
    some ([], 2)
  else
    if ((a0.toList == (⟨#[]⟩ : ByteArray).toList)) = true then
      some ([], 0)
    else
      (f19 fuel a0 (⟨#[32]⟩ : ByteArray)).bind fun r1 =>
      match l6_7 k (r1.length : Int) 0 [] r1 with
      | none => none
      | some (.exit d2) =>
        (f14 fuel d2.1).bind fun r3 =>
        if (r3 != 0) = true then
          some ([], r3)
        else
          some (d2.1, 0)
      | some (.ret d2) =>
        some ([], d2.1)
theorem l6_7_step (m : Nat) (d : dens l6_7H.tys) : l6_7L.f (m + 1) d = round E6 LL6 m [6] 53 (loopN (bodyOf Tryd.f6) 0) l6_7L (l6_7L.f m) d := by kernel_rfl
theorem f6_run (k : Nat) (x : denL [.str]) : runFn E6 LL6 k 6 Tryd.f6 [.str] [.fresh (.int .i64), .imm (.int .i64)] x = f6 k x := by kernel_rfl
noncomputable def S6 : Vm.Spec := { ps := [.str], rs := [.fresh (.int .i64), .imm (.int .i64)], f := fun x => f6 fuel x }
theorem f6_holds : Vm.Spec.holds Tryd.prog 6 S6 := by
  have hB : BodiesOk Tryd.prog E6 := bodies_none rfl
  have hBS : BodiesStepped E6 LL6 := bodies_stepped_none rfl
  have hS : SpecsOk Tryd.prog E6 := specs_ok (by exact ⟨⟨by kernel_rfl, f14_holds⟩, ⟨by kernel_rfl, f19_holds⟩, ⟨by kernel_rfl, g20_holds⟩, trivial⟩)
  have hE : EOk Tryd.prog E6 := eok_te ok
  exact fn_sound (L := LL6) hE hS hB (draws_ok hE hS (by kernel_rfl)) hBS (fn := Tryd.f6) (by kernel_rfl) (c := bodyOf Tryd.f6) (by kernel_rfl) (stepped_of (ls := [(7, l6_7L)]) rfl rfl ⟨by kernel_rfl, fun _ => rfl, l6_7_step, stepsI_end (by kernel_rfl)⟩) fun x r h => ⟨fuel, (f6_run fuel x).trans h⟩

/-! gamehall/gamehallkeep2.cardsFact -/
noncomputable def E4 : Env := { te := te, spec := [(5, S5), (6, S6), (7, S7), (8, S8), (9, S9), (10, S10), (11, S11), (12, S12), (13, S13), (14, S14), (15, S15)], body := [] }
def LL4 : Loops := []
def f4 (k : Nat) : Option (Bool) :=
  (f8 fuel 3).bind fun r1 =>
  (f9 fuel [0, 1, 2] [0, 0]).bind fun r2 =>
  (f10 fuel [0, 1, 2] [1, 2, 0]).bind fun r3 =>
  (f11 fuel [4, 5, 6] 1).bind fun r4 =>
  (f12 fuel [5, 6, 7] 2 1).bind fun r5 =>
  (f5 fuel [0, 51]).bind fun r6 =>
  (f6 fuel (⟨#[50, 67, 32, 65, 83]⟩ : ByteArray)).bind fun r7 =>
  (f13 fuel [r1.2, r2.2, r3.2, r4.2, r5.2.2, r6.2, r7.2]).bind fun r8 =>
  if r8 = true then
    (f7 fuel r1.1 [0, 1, 2]).bind fun r9 =>
    if r9 = true then
      (f7 fuel r2.1 [1, 2, 0]).bind fun r10 =>
      if r10 = true then
        (f7 fuel r3.1 [0, 0]).bind fun r11 =>
        if r11 = true then
          (f7 fuel r4.1 [5, 6, 4]).bind fun r12 =>
          if r12 = true then
            if ((r5.1.length : Int) == 2) = true then
              if (1 : Int) < r5.1.length then
                (f7 fuel (r5.1.getD 1 []) [6]).bind fun r13 =>
                if r13 = true then
                  (f7 fuel r5.2.1 [7]).bind fun r14 =>
                  if r14 = true then
                    if ((r6.1.toList == (⟨#[50, 67, 32, 65, 83]⟩ : ByteArray).toList)) = true then
                      (f7 fuel r7.1 [0, 51]).bind fun r15 =>
                      if r15 = true then
                        (f14 fuel [1, 1]).bind fun r16 =>
                        if (r16 == 7) = true then
                          (f15 fuel 2 []).bind fun r17 =>
                          some (r17 == 3)
                        else
                          some false
                      else
                        some false
                    else
                      some false
                  else
                    some false
                else
                  some false
              else none
            else
              some false
          else
            some false
        else
          some false
      else
        some false
    else
      some false
  else
    some false
theorem f4_run (k : Nat) (x : denL []) : runFn E4 LL4 k 4 Tryd.f4 [] [.imm .bool] x = f4 k := by kernel_rfl
noncomputable def S4 : Vm.Spec := { ps := [], rs := [.imm .bool], f := fun x => f4 fuel }
theorem f4_holds : Vm.Spec.holds Tryd.prog 4 S4 := by
  have hB : BodiesOk Tryd.prog E4 := bodies_none rfl
  have hBS : BodiesStepped E4 LL4 := bodies_stepped_none rfl
  have hS : SpecsOk Tryd.prog E4 := specs_ok (by exact ⟨⟨by kernel_rfl, f5_holds⟩, ⟨by kernel_rfl, f6_holds⟩, ⟨by kernel_rfl, f7_holds⟩, ⟨by kernel_rfl, f8_holds⟩, ⟨by kernel_rfl, f9_holds⟩, ⟨by kernel_rfl, f10_holds⟩, ⟨by kernel_rfl, f11_holds⟩, ⟨by kernel_rfl, f12_holds⟩, ⟨by kernel_rfl, f13_holds⟩, ⟨by kernel_rfl, f14_holds⟩, ⟨by kernel_rfl, f15_holds⟩, trivial⟩)
  have hE : EOk Tryd.prog E4 := eok_te ok
  exact fn_sound (L := LL4) hE hS hB (draws_ok hE hS (by kernel_rfl)) hBS (fn := Tryd.f4) (by kernel_rfl) (c := bodyOf Tryd.f4) (by kernel_rfl) (stepped_none rfl) fun x r h => ⟨fuel, (f4_run fuel x).trans h⟩

/-! gamehall/gamehallkeep2.CardsReads -/
noncomputable def E3 : Env := { te := te, spec := [(4, S4), (5, S5), (6, S6), (7, S7)], body := [] }
def LL3 : Loops := []
def f3 (k : Nat) (a0 : List Int) (a1 : ByteArray) : Option (Bool) :=
  (f4 fuel).bind fun r1 =>
  if (!r1) = true then
    some false
  else
    (f5 fuel a0).bind fun r2 =>
    if (r2.2 == 0) = true then
      (f6 fuel r2.1).bind fun r3 =>
      if (r3.2 != 0) = false then
        (f7 fuel r3.1 a0).bind fun r4 =>
        if (!r4) = true then
          some false
        else
          (f6 fuel a1).bind fun r5 =>
          if (r5.2 != 0) = true then
            some ((r5.1.length : Int) == 0)
          else
            (f5 fuel r5.1).bind fun r6 =>
            if (r6.2 == 0) = true then
              some ((r6.1.toList == a1.toList))
            else
              some false
      else
        some false
    else
      (f6 fuel a1).bind fun r7 =>
      if (r7.2 != 0) = true then
        some ((r7.1.length : Int) == 0)
      else
        (f5 fuel r7.1).bind fun r8 =>
        if (r8.2 == 0) = true then
          some ((r8.1.toList == a1.toList))
        else
          some false
theorem f3_run (k : Nat) (x : denL [.slice (.int .i64), .str]) : runFn E3 LL3 k 3 Tryd.f3 [.slice (.int .i64), .str] [.imm .bool] x = f3 k x.1 x.2 := by kernel_rfl
noncomputable def S3 : Vm.Spec := { ps := [.slice (.int .i64), .str], rs := [.imm .bool], f := fun x => f3 fuel x.1 x.2 }
theorem f3_holds : Vm.Spec.holds Tryd.prog 3 S3 := by
  have hB : BodiesOk Tryd.prog E3 := bodies_none rfl
  have hBS : BodiesStepped E3 LL3 := bodies_stepped_none rfl
  have hS : SpecsOk Tryd.prog E3 := specs_ok (by exact ⟨⟨by kernel_rfl, f4_holds⟩, ⟨by kernel_rfl, f5_holds⟩, ⟨by kernel_rfl, f6_holds⟩, ⟨by kernel_rfl, f7_holds⟩, trivial⟩)
  have hE : EOk Tryd.prog E3 := eok_te ok
  exact fn_sound (L := LL3) hE hS hB (draws_ok hE hS (by kernel_rfl)) hBS (fn := Tryd.f3) (by kernel_rfl) (c := bodyOf Tryd.f3) (by kernel_rfl) (stepped_none rfl) fun x r h => ⟨fuel, (f3_run fuel x).trans h⟩

end Go.Proofs.YtbbgmlfelhjkaaaDoor
