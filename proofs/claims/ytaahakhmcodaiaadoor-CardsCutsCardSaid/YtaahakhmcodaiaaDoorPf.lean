/- Pure functions, printed by a program of this session out of the program. -/
import Derived.Test.YtaahakhmcodaiaaDoorVmD
import Derived.Test.YtaahakhmcodaiaaDoorSh
set_option linter.unusedVariables false
namespace Go.Proofs.YtaahakhmcodaiaaDoor
open Go Vm Go.Proofs
def te : TE := [(3, ⟨.int .i64, .sc, 8⟩),
  (4, ⟨.bool, .sc, 1⟩),
  (9, ⟨.str, .sc, 16⟩),
  (22, ⟨.slice (.int .i64), .slice 3, 24⟩),
  (24, ⟨.int .i64, .sc, 8⟩),
  (31, ⟨.slice (.slice (.int .i64)), .slice 22, 24⟩),
  (46, ⟨.slice (.int .i64), .slice 24, 24⟩),
  (49, ⟨.int .u64, .sc, 8⟩),
  (53, ⟨.slice .str, .slice 9, 24⟩)]
theorem ok : EOk Tryd.prog ⟨te, [], []⟩ := eok_of (by kernel_rfl)
/-! slices.Index[[]int,int] -/
noncomputable def E22 : Env := { te := te, spec := [], body := [] }
def l22_2H : Ann := { slots := [(0, .one (.val (.slice (.int .i64)))), (1, .one (.val (.int .i64))), (7, .one (.val (.int .i64))), (8, .one (.val (.int .i64)))], objs := [] }
def l22_2X : Ann := { slots := [], objs := [] }
def l22_2R : Ann := { slots := [(4, .one (.val (.int .i64)))], objs := [] }
def l22_2 : Nat → List Int → Int → Int → Int → Option (LR l22_2X l22_2R)
  | 0, _, _, _, _ => none
  | m + 1, s0, s1, s7, s8 =>
    if decide (s8 < s7) = true then
      if (0 : Int) ≤ s8 then
        if s8 < s0.length then
          if (s1 == s0.getD s8.toNat 0) = true then
            some (.ret (s8, ()))
          else
            l22_2 m s0 s1 s7 (IntKind.i64.wrap (s8 + 1))
        else none
      else none
    else
      some (.exit ())
def l22_2L : LSpec := { h := l22_2H, x := l22_2X, r := l22_2R, xid := 0, rt := true, pins := [], f := fun k d => l22_2 k d.1 d.2.1 d.2.2.1 d.2.2.2.1 }
def LL22 : Loops := [([22], [(2, l22_2L)])]
def f22 (k : Nat) (a0 : List Int) (a1 : Int) : Option (Int) :=
  match l22_2 k a0 a1 (a0.length : Int) 0 with
  | none => none
  | some (.exit d1) =>
    some (-1)
  | some (.ret d1) =>
    some d1.1
theorem l22_2_step (m : Nat) (d : dens l22_2H.tys) : l22_2L.f (m + 1) d = round E22 LL22 m [22] 19 (loopN (bodyOf Tryd.f22) 0) l22_2L (l22_2L.f m) d := by kernel_rfl
theorem f22_run (k : Nat) (x : denL [.slice (.int .i64), .int .i64]) : runFn E22 LL22 k 22 Tryd.f22 [.slice (.int .i64), .int .i64] [.imm (.int .i64)] x = f22 k x.1 x.2 := by kernel_rfl
noncomputable def S22 : Vm.Spec := { ps := [.slice (.int .i64), .int .i64], rs := [.imm (.int .i64)], f := fun x => f22 fuel x.1 x.2 }
theorem f22_holds : Vm.Spec.holds Tryd.prog 22 S22 := by
  have hB : BodiesOk Tryd.prog E22 := bodies_none rfl
  have hBS : BodiesStepped E22 LL22 := bodies_stepped_none rfl
  have hS : SpecsOk Tryd.prog E22 := specs_ok (by exact trivial)
  have hE : EOk Tryd.prog E22 := eok_te ok
  exact fn_sound (L := LL22) hE hS hB (draws_ok hE hS (by kernel_rfl)) hBS (fn := Tryd.f22) (by kernel_rfl) (c := bodyOf Tryd.f22) (by kernel_rfl) (stepped_of (ls := [(2, l22_2L)]) rfl rfl ⟨by kernel_rfl, fun _ => rfl, l22_2_step, stepsI_end (by kernel_rfl)⟩) fun x r h => ⟨fuel, (f22_run fuel x).trans h⟩

/-! slices.Contains[[]int,int] -/
noncomputable def E26 : Env := { te := te, spec := [(22, S22)], body := [] }
def LL26 : Loops := []
def f26 (k : Nat) (a0 : List Int) (a1 : Int) : Option (Bool) :=
  (f22 fuel a0 a1).bind fun r1 =>
  some (decide (r1 ≥ 0))
theorem f26_run (k : Nat) (x : denL [.slice (.int .i64), .int .i64]) : runFn E26 LL26 k 26 Tryd.f26 [.slice (.int .i64), .int .i64] [.imm .bool] x = f26 k x.1 x.2 := by kernel_rfl
noncomputable def S26 : Vm.Spec := { ps := [.slice (.int .i64), .int .i64], rs := [.imm .bool], f := fun x => f26 fuel x.1 x.2 }
theorem f26_holds : Vm.Spec.holds Tryd.prog 26 S26 := by
  have hB : BodiesOk Tryd.prog E26 := bodies_none rfl
  have hBS : BodiesStepped E26 LL26 := bodies_stepped_none rfl
  have hS : SpecsOk Tryd.prog E26 := specs_ok (by exact ⟨⟨by kernel_rfl, f22_holds⟩, trivial⟩)
  have hE : EOk Tryd.prog E26 := eok_te ok
  exact fn_sound (L := LL26) hE hS hB (draws_ok hE hS (by kernel_rfl)) hBS (fn := Tryd.f26) (by kernel_rfl) (c := bodyOf Tryd.f26) (by kernel_rfl) (stepped_none rfl) fun x r h => ⟨fuel, (f26_run fuel x).trans h⟩

/-! gamehall/cards.Check -/
noncomputable def E15 : Env := { te := te, spec := [(26, S26)], body := [] }
def l15_4H : Ann := { slots := [(0, .one (.val (.slice (.int .i64)))), (8, .one (.val (.slice (.int .i64)))), (9, .one (.val (.int .i64))), (10, .one (.val (.int .i64)))], objs := [] }
def l15_4X : Ann := { slots := [], objs := [] }
def l15_4R : Ann := { slots := [(2, .one (.val (.int .i64)))], objs := [] }
def l15_4 : Nat → List Int → List Int → Int → Int → Option (LR l15_4X l15_4R)
  | 0, _, _, _, _ => none
  | m + 1, s0, s8, s9, s10 =>
    if decide (s10 < s9) = true then
      if (0 : Int) ≤ s10 then
        if s10 < s8.length then
          if decide (s8.getD s10.toNat 0 < 0) = false then
            if decide (s8.getD s10.toNat 0 ≥ 52) = true then
              some (.ret (4, ()))
            else
              if (0 : Int) ≤ s10 then
                if s10 ≤ s0.length then
                  (f26 fuel ((s0.take s10.toNat).drop 0) (s8.getD s10.toNat 0)).bind fun r1 =>
                  if r1 = true then
                    some (.ret (7, ()))
                  else
                    l15_4 m s0 s8 s9 (IntKind.i64.wrap (s10 + 1))
                else none
              else none
          else
            some (.ret (4, ()))
        else none
      else none
    else
      some (.exit ())
def l15_4L : LSpec := { h := l15_4H, x := l15_4X, r := l15_4R, xid := 0, rt := true, pins := [], f := fun k d => l15_4 k d.1 d.2.1 d.2.2.1 d.2.2.2.1 }
def LL15 : Loops := [([15], [(4, l15_4L)])]
def f15 (k : Nat) (a0 : List Int) : Option (Int) :=
  if decide ((a0.length : Int) > 52) = true then
    some 2
  else
    match l15_4 k a0 a0 (a0.length : Int) 0 with
    | none => none
    | some (.exit d1) =>
      some 0
    | some (.ret d1) =>
      some d1.1
theorem l15_4_step (m : Nat) (d : dens l15_4H.tys) : l15_4L.f (m + 1) d = round E15 LL15 m [15] 27 (loopN (bodyOf Tryd.f15) 0) l15_4L (l15_4L.f m) d := by kernel_rfl
theorem f15_run (k : Nat) (x : denL [.slice (.int .i64)]) : runFn E15 LL15 k 15 Tryd.f15 [.slice (.int .i64)] [.imm (.int .i64)] x = f15 k x := by kernel_rfl
noncomputable def S15 : Vm.Spec := { ps := [.slice (.int .i64)], rs := [.imm (.int .i64)], f := fun x => f15 fuel x }
theorem f15_holds : Vm.Spec.holds Tryd.prog 15 S15 := by
  have hB : BodiesOk Tryd.prog E15 := bodies_none rfl
  have hBS : BodiesStepped E15 LL15 := bodies_stepped_none rfl
  have hS : SpecsOk Tryd.prog E15 := specs_ok (by exact ⟨⟨by kernel_rfl, f26_holds⟩, trivial⟩)
  have hE : EOk Tryd.prog E15 := eok_te ok
  exact fn_sound (L := LL15) hE hS hB (draws_ok hE hS (by kernel_rfl)) hBS (fn := Tryd.f15) (by kernel_rfl) (c := bodyOf Tryd.f15) (by kernel_rfl) (stepped_of (ls := [(4, l15_4L)]) rfl rfl ⟨by kernel_rfl, fun _ => rfl, l15_4_step, stepsI_end (by kernel_rfl)⟩) fun x r h => ⟨fuel, (f15_run fuel x).trans h⟩

/-! gamehall/cards.Fits -/
noncomputable def E20 : Env := { te := te, spec := [], body := [] }
def l20_4H : Ann := { slots := [(0, .one (.val (.int .i64))), (13, .one (.val (.slice (.int .i64)))), (14, .one (.val (.int .i64))), (15, .one (.val (.int .i64)))], objs := [] }
def l20_4X : Ann := { slots := [], objs := [] }
def l20_4R : Ann := { slots := [(4, .one (.val (.int .i64)))], objs := [] }
def l20_4 : Nat → Int → List Int → Int → Int → Option (LR l20_4X l20_4R)
  | 0, _, _, _, _ => none
  | m + 1, s0, s13, s14, s15 =>
    if decide (s15 < s14) = true then
      if (0 : Int) ≤ s15 then
        if s15 < s13.length then
          if decide (s13.getD s15.toNat 0 < 0) = false then
            if decide (s13.getD s15.toNat 0 > IntKind.i64.wrap ((IntKind.i64.wrap (s0 - 1)) - s15)) = true then
              some (.ret (4, ()))
            else
              l20_4 m s0 s13 s14 (IntKind.i64.wrap (s15 + 1))
          else
            some (.ret (4, ()))
        else none
      else none
    else
      some (.exit ())
def l20_4L : LSpec := { h := l20_4H, x := l20_4X, r := l20_4R, xid := 0, rt := true, pins := [], f := fun k d => l20_4 k d.1 d.2.1 d.2.2.1 d.2.2.2.1 }
def LL20 : Loops := [([20], [(4, l20_4L)])]
def f20 (k : Nat) (a0 : Int) (a1 : List Int) : Option (Int) :=
  if ((a1.length : Int) != (if IntKind.i64.wrap (a0 - 1) > 0 then IntKind.i64.wrap (a0 - 1) else 0)) = true then
    some 3
  else
    match l20_4 k a0 a1 (a1.length : Int) 0 with
    | none => none
    | some (.exit d1) =>
      some 0
    | some (.ret d1) =>
      some d1.1
theorem l20_4_step (m : Nat) (d : dens l20_4H.tys) : l20_4L.f (m + 1) d = round E20 LL20 m [20] 31 (loopN (bodyOf Tryd.f20) 0) l20_4L (l20_4L.f m) d := by kernel_rfl
theorem f20_run (k : Nat) (x : denL [.int .i64, .slice (.int .i64)]) : runFn E20 LL20 k 20 Tryd.f20 [.int .i64, .slice (.int .i64)] [.imm (.int .i64)] x = f20 k x.1 x.2 := by kernel_rfl
noncomputable def S20 : Vm.Spec := { ps := [.int .i64, .slice (.int .i64)], rs := [.imm (.int .i64)], f := fun x => f20 fuel x.1 x.2 }
theorem f20_holds : Vm.Spec.holds Tryd.prog 20 S20 := by
  have hB : BodiesOk Tryd.prog E20 := bodies_none rfl
  have hBS : BodiesStepped E20 LL20 := bodies_stepped_none rfl
  have hS : SpecsOk Tryd.prog E20 := specs_ok (by exact trivial)
  have hE : EOk Tryd.prog E20 := eok_te ok
  exact fn_sound (L := LL20) hE hS hB (draws_ok hE hS (by kernel_rfl)) hBS (fn := Tryd.f20) (by kernel_rfl) (c := bodyOf Tryd.f20) (by kernel_rfl) (stepped_of (ls := [(4, l20_4L)]) rfl rfl ⟨by kernel_rfl, fun _ => rfl, l20_4_step, stepsI_end (by kernel_rfl)⟩) fun x r h => ⟨fuel, (f20_run fuel x).trans h⟩

/-! slices.Clone[[]int,int] -/
noncomputable def E21 : Env := { te := te, spec := [], body := [] }
def LL21 : Loops := []
def f21 (k : Nat) (a0 : Option (List Int)) : Option (List Int) :=
  if a0.isNone = true then
    some []
  else
    if (0 + (a0.getD []).length) * 8 ≤ 140737488355328 then
      some ([] ++ (a0.getD []))
    else none
theorem f21_run (k : Nat) (x : denL [.nsl (.int .i64)]) : runFn E21 LL21 k 21 Tryd.f21 [.nsl (.int .i64)] [.fresh (.int .i64)] x = f21 k x := by kernel_rfl
noncomputable def S21 : Vm.Spec := { ps := [.nsl (.int .i64)], rs := [.fresh (.int .i64)], f := fun x => f21 fuel x }
theorem f21_holds : Vm.Spec.holds Tryd.prog 21 S21 := by
  have hB : BodiesOk Tryd.prog E21 := bodies_none rfl
  have hBS : BodiesStepped E21 LL21 := bodies_stepped_none rfl
  have hS : SpecsOk Tryd.prog E21 := specs_ok (by exact trivial)
  have hE : EOk Tryd.prog E21 := eok_te ok
  exact fn_sound (L := LL21) hE hS hB (draws_ok hE hS (by kernel_rfl)) hBS (fn := Tryd.f21) (by kernel_rfl) (c := bodyOf Tryd.f21) (by kernel_rfl) (stepped_none rfl) fun x r h => ⟨fuel, (f21_run fuel x).trans h⟩

def f21s (x : List Int) := f21 fuel (some x)
noncomputable def S21s : Vm.Spec := { ps := [.slice (.int .i64)], rs := [.fresh (.int .i64)], f := f21s }
theorem f21s_holds : Vm.Spec.holds Tryd.prog 21 S21s := holds_nsl f21_holds fun xs r h => ⟨h, fun e => by subst e; exact h⟩

/-! gamehall/cards.Shuffle -/
noncomputable def E7 : Env := { te := te, spec := [(15, S15), (20, S20), (21, S21s)], body := [] }
def l7_9H : Ann := { slots := [(8, .one (.own 100 (.int .i64))), (26, .one (.val (.slice (.int .i64)))), (27, .one (.val (.int .i64))), (28, .one (.val (.int .i64)))], objs := [(100, .buf (.int .i64))] }
def l7_9X : Ann := { slots := [(8, .one (.own 100 (.int .i64)))], objs := [(100, .buf (.int .i64))] }
def l7_9R : Ann := { slots := [], objs := [] }
def l7_9 : Nat → List Int → Int → Int → List Int → Option (LR l7_9X l7_9R)
  | 0, _, _, _, _ => none
  | m + 1, s26, s27, s28, b100 =>
    if decide (s28 < s27) = true then
      if (0 : Int) ≤ s28 then
        if s28 < s26.length then
          if (0 : Int) ≤ s26.getD s28.toNat 0 then
            if s26.getD s28.toNat 0 < b100.length then
              if (0 : Int) ≤ IntKind.i64.wrap ((IntKind.i64.wrap ((b100.length : Int) - 1)) - s28) then
                if IntKind.i64.wrap ((IntKind.i64.wrap ((b100.length : Int) - 1)) - s28) < b100.length then
                  if (0 : Int) ≤ IntKind.i64.wrap ((IntKind.i64.wrap ((b100.length : Int) - 1)) - s28) then
                    if IntKind.i64.wrap ((IntKind.i64.wrap ((b100.length : Int) - 1)) - s28) < b100.length then
                      if (0 : Int) ≤ s26.getD s28.toNat 0 then
                        if s26.getD s28.toNat 0 < (b100.set ((IntKind.i64.wrap ((IntKind.i64.wrap ((b100.length : Int) - 1)) - s28)).toNat) (b100.getD ((s26.getD s28.toNat 0).toNat) 0)).length then
                          l7_9 m s26 s27 (IntKind.i64.wrap (s28 + 1)) ((b100.set ((IntKind.i64.wrap ((IntKind.i64.wrap ((b100.length : Int) - 1)) - s28)).toNat) (b100.getD ((s26.getD s28.toNat 0).toNat) 0)).set ((s26.getD s28.toNat 0).toNat) (b100.getD ((IntKind.i64.wrap ((IntKind.i64.wrap ((b100.length : Int) - 1)) - s28)).toNat) 0))
                        else none
                      else none
                    else none
                  else none
                else none
              else none
            else none
          else none
        else none
      else none
    else
      some (.exit (b100, ()))
def l7_9L : LSpec := { h := l7_9H, x := l7_9X, r := l7_9R, xid := 0, rt := false, pins := [100], f := fun k d => l7_9 k d.1 d.2.1 d.2.2.1 d.2.2.2.1 }
def LL7 : Loops := [([7], [(9, l7_9L)])]
def f7 (k : Nat) (a0 : List Int) (a1 : List Int) : Option (List Int × Int) :=
  (f15 fuel a0).bind fun r1 =>
  if (r1 != 0) = true then
    some ([], r1)
  else
    (f20 fuel (a0.length : Int) a1).bind fun r2 =>
    if (r2 != 0) = true then
      some ([], r2)
    else
      (f21s a0).bind fun r3 =>
      match l7_9 k a1 (a1.length : Int) 0 r3 with
      | none => none
      | some (.exit d4) =>
        some (d4.1, 0)
      | some (.ret d4) =>
        none
theorem l7_9_step (m : Nat) (d : dens l7_9H.tys) : l7_9L.f (m + 1) d = round E7 LL7 m [7] 54 (loopN (bodyOf Tryd.f7) 0) l7_9L (l7_9L.f m) d := by kernel_rfl
theorem f7_run (k : Nat) (x : denL [.slice (.int .i64), .slice (.int .i64)]) : runFn E7 LL7 k 7 Tryd.f7 [.slice (.int .i64), .slice (.int .i64)] [.fresh (.int .i64), .imm (.int .i64)] x = f7 k x.1 x.2 := by kernel_rfl
noncomputable def S7 : Vm.Spec := { ps := [.slice (.int .i64), .slice (.int .i64)], rs := [.fresh (.int .i64), .imm (.int .i64)], f := fun x => f7 fuel x.1 x.2 }
theorem f7_holds : Vm.Spec.holds Tryd.prog 7 S7 := by
  have hB : BodiesOk Tryd.prog E7 := bodies_none rfl
  have hBS : BodiesStepped E7 LL7 := bodies_stepped_none rfl
  have hS : SpecsOk Tryd.prog E7 := specs_ok (by exact ⟨⟨by kernel_rfl, f15_holds⟩, ⟨by kernel_rfl, f20_holds⟩, ⟨by kernel_rfl, f21s_holds⟩, trivial⟩)
  have hE : EOk Tryd.prog E7 := eok_te ok
  exact fn_sound (L := LL7) hE hS hB (draws_ok hE hS (by kernel_rfl)) hBS (fn := Tryd.f7) (by kernel_rfl) (c := bodyOf Tryd.f7) (by kernel_rfl) (stepped_of (ls := [(9, l7_9L)]) rfl rfl ⟨by kernel_rfl, fun _ => rfl, l7_9_step, stepsI_end (by kernel_rfl)⟩) fun x r h => ⟨fuel, (f7_run fuel x).trans h⟩

/-! gamehall/cards.Draws -/
noncomputable def E8 : Env := { te := te, spec := [(15, S15), (21, S21s), (22, S22)], body := [] }
def l8_12H : Ann := { slots := [(1, .one (.val (.slice (.int .i64)))), (8, .one (.own 112 (.int .i64))), (9, .one (.own 252 (.int .i64))), (10, .one (.val (.int .i64)))], objs := [(112, .buf (.int .i64)), (252, .buf (.int .i64))] }
def l8_12X : Ann := { slots := [(9, .one (.own 252 (.int .i64)))], objs := [(252, .buf (.int .i64)), (112, .buf (.int .i64))] }
def l8_12R : Ann := { slots := [(4, .one (.fix .nil)), (5, .one (.val (.int .i64)))], objs := [(112, .buf (.int .i64))] }
def l8_12 : Nat → List Int → Int → List Int → List Int → Option (LR l8_12X l8_12R)
  | 0, _, _, _, _ => none
  | m + 1, s1, s10, b112, b252 =>
    if decide (s10 ≥ 0) = true then
      if (0 : Int) ≤ s10 then
        if s10 < s1.length then
          (f22 fuel b112 (s1.getD s10.toNat 0)).bind fun r1 =>
          if decide (r1 < 0) = true then
            some (.ret (3, b112, ()))
          else
            if (0 : Int) ≤ r1 then
              if r1 < b112.length then
                if (0 : Int) ≤ s10 then
                  if s10 < b112.length then
                    if (0 : Int) ≤ s10 then
                      if s10 < b112.length then
                        if (0 : Int) ≤ r1 then
                          if r1 < (b112.set s10.toNat (b112.getD r1.toNat 0)).length then
                            if decide (s10 > 0) = true then
                              if (b252.length + 1) * 8 ≤ 140737488355328 then
                                l8_12 m s1 (IntKind.i64.wrap (s10 - 1)) ((b112.set s10.toNat (b112.getD r1.toNat 0)).set r1.toNat (b112.getD s10.toNat 0)) (b252 ++ [r1])
                              else none
                            else
                              l8_12 m s1 (IntKind.i64.wrap (s10 - 1)) ((b112.set s10.toNat (b112.getD r1.toNat 0)).set r1.toNat (b112.getD s10.toNat 0)) b252
                          else none
                        else none
                      else none
                    else none
                  else none
                else none
              else none
            else none
        else none
      else none
    else
      some (.exit (b252, b112, ()))
def l8_12L : LSpec := { h := l8_12H, x := l8_12X, r := l8_12R, xid := 0, rt := true, pins := [112], f := fun k d => l8_12 k d.1 d.2.1 d.2.2.1 d.2.2.2.1 }
def LL8 : Loops := [([8], [(12, l8_12L)])]
def f8 (k : Nat) (a0 : List Int) (a1 : List Int) : Option (List Int × Int) :=
  (f15 fuel a0).bind fun r1 =>
  if (r1 != 0) = true then
    some ([], r1)
  else
    (f15 fuel a1).bind fun r2 =>
    if (r2 != 0) = true then
      some ([], r2)
    else
      if ((a0.length : Int) != (a1.length : Int)) = true then
        some ([], 3)
      else
        (f21s a0).bind fun r3 =>
        match l8_12 k a1 (IntKind.i64.wrap ((r3.length : Int) - 1)) r3 [] with
        | none => none
        | some (.exit d4) =>
          some (d4.1, 0)
        | some (.ret d4) =>
          some ([], d4.1)
theorem l8_12_step (m : Nat) (d : dens l8_12H.tys) : l8_12L.f (m + 1) d = round E8 LL8 m [8] 65 (loopN (bodyOf Tryd.f8) 0) l8_12L (l8_12L.f m) d := by kernel_rfl
theorem f8_run (k : Nat) (x : denL [.slice (.int .i64), .slice (.int .i64)]) : runFn E8 LL8 k 8 Tryd.f8 [.slice (.int .i64), .slice (.int .i64)] [.fresh (.int .i64), .imm (.int .i64)] x = f8 k x.1 x.2 := by kernel_rfl
noncomputable def S8 : Vm.Spec := { ps := [.slice (.int .i64), .slice (.int .i64)], rs := [.fresh (.int .i64), .imm (.int .i64)], f := fun x => f8 fuel x.1 x.2 }
theorem f8_holds : Vm.Spec.holds Tryd.prog 8 S8 := by
  have hB : BodiesOk Tryd.prog E8 := bodies_none rfl
  have hBS : BodiesStepped E8 LL8 := bodies_stepped_none rfl
  have hS : SpecsOk Tryd.prog E8 := specs_ok (by exact ⟨⟨by kernel_rfl, f15_holds⟩, ⟨by kernel_rfl, f21s_holds⟩, ⟨by kernel_rfl, f22_holds⟩, trivial⟩)
  have hE : EOk Tryd.prog E8 := eok_te ok
  exact fn_sound (L := LL8) hE hS hB (draws_ok hE hS (by kernel_rfl)) hBS (fn := Tryd.f8) (by kernel_rfl) (c := bodyOf Tryd.f8) (by kernel_rfl) (stepped_of (ls := [(12, l8_12L)]) rfl rfl ⟨by kernel_rfl, fun _ => rfl, l8_12_step, stepsI_end (by kernel_rfl)⟩) fun x r h => ⟨fuel, (f8_run fuel x).trans h⟩

/-! slices.Equal[[]int,int] -/
noncomputable def E10 : Env := { te := te, spec := [], body := [] }
def l10_4H : Ann := { slots := [(0, .one (.val (.slice (.int .i64)))), (1, .one (.val (.slice (.int .i64)))), (12, .one (.val (.int .i64))), (13, .one (.val (.int .i64)))], objs := [] }
def l10_4X : Ann := { slots := [], objs := [] }
def l10_4R : Ann := { slots := [(4, .one (.val .bool))], objs := [] }
def l10_4 : Nat → List Int → List Int → Int → Int → Option (LR l10_4X l10_4R)
  | 0, _, _, _, _ => none
  | m + 1, s0, s1, s12, s13 =>
    if decide (s13 < s12) = true then
      if (0 : Int) ≤ s13 then
        if s13 < s0.length then
          if (0 : Int) ≤ s13 then
            if s13 < s1.length then
              if (s0.getD s13.toNat 0 != s1.getD s13.toNat 0) = true then
                some (.ret (false, ()))
              else
                l10_4 m s0 s1 s12 (IntKind.i64.wrap (s13 + 1))
            else none
          else none
        else none
      else none
    else
      some (.exit ())
def l10_4L : LSpec := { h := l10_4H, x := l10_4X, r := l10_4R, xid := 0, rt := true, pins := [], f := fun k d => l10_4 k d.1 d.2.1 d.2.2.1 d.2.2.2.1 }
def LL10 : Loops := [([10], [(4, l10_4L)])]
def f10 (k : Nat) (a0 : List Int) (a1 : List Int) : Option (Bool) :=
  if ((a0.length : Int) != (a1.length : Int)) = true then
    some false
  else
    match l10_4 k a0 a1 (a0.length : Int) 0 with
    | none => none
    | some (.exit d1) =>
      some true
    | some (.ret d1) =>
      some d1.1
theorem l10_4_step (m : Nat) (d : dens l10_4H.tys) : l10_4L.f (m + 1) d = round E10 LL10 m [10] 26 (loopN (bodyOf Tryd.f10) 0) l10_4L (l10_4L.f m) d := by kernel_rfl
theorem f10_run (k : Nat) (x : denL [.slice (.int .i64), .slice (.int .i64)]) : runFn E10 LL10 k 10 Tryd.f10 [.slice (.int .i64), .slice (.int .i64)] [.imm .bool] x = f10 k x.1 x.2 := by kernel_rfl
noncomputable def S10 : Vm.Spec := { ps := [.slice (.int .i64), .slice (.int .i64)], rs := [.imm .bool], f := fun x => f10 fuel x.1 x.2 }
theorem f10_holds : Vm.Spec.holds Tryd.prog 10 S10 := by
  have hB : BodiesOk Tryd.prog E10 := bodies_none rfl
  have hBS : BodiesStepped E10 LL10 := bodies_stepped_none rfl
  have hS : SpecsOk Tryd.prog E10 := specs_ok (by exact trivial)
  have hE : EOk Tryd.prog E10 := eok_te ok
  exact fn_sound (L := LL10) hE hS hB (draws_ok hE hS (by kernel_rfl)) hBS (fn := Tryd.f10) (by kernel_rfl) (c := bodyOf Tryd.f10) (by kernel_rfl) (stepped_of (ls := [(4, l10_4L)]) rfl rfl ⟨by kernel_rfl, fun _ => rfl, l10_4_step, stepsI_end (by kernel_rfl)⟩) fun x r h => ⟨fuel, (f10_run fuel x).trans h⟩

/-! gamehall/gamehallkeep2.fine -/
noncomputable def E9 : Env := { te := te, spec := [], body := [(23, Tryd.f23), (24, Tryd.f24), (33, Tryd.f33)] }
def l33_23_9_2H : Ann := { slots := [(0, .one (.val (.slice (.int .i64)))), (1, .one (.fix (.func 24))), (7, .one (.val (.int .i64))), (8, .one (.val (.int .i64)))], objs := [] }
def l33_23_9_2X : Ann := { slots := [], objs := [] }
def l33_23_9_2R : Ann := { slots := [(4, .one (.val (.int .i64)))], objs := [] }
def l33_23_9_2 : Nat → List Int → Int → Int → Option (LR l33_23_9_2X l33_23_9_2R)
  | 0, _, _, _ => none
  | m + 1, s0, s7, s8 =>
    if decide (s8 < s7) = true then
      if (0 : Int) ≤ s8 then
        if s8 < s0.length then
          if (s0.getD s8.toNat 0 != 0) = true then
            some (.ret (s8, ()))
          else
            l33_23_9_2 m s0 s7 (IntKind.i64.wrap (s8 + 1))
        else none
      else none
    else
      some (.exit ())
def l33_23_9_2L : LSpec := { h := l33_23_9_2H, x := l33_23_9_2X, r := l33_23_9_2R, xid := 0, rt := true, pins := [], f := fun k d => l33_23_9_2 k d.1 d.2.1 d.2.2.1 }
def LL9 : Loops := [([33, 23, 9], [(2, l33_23_9_2L)])]
def f9 (k : Nat) (a0 : List Int) : Option (Bool) :=
  match l33_23_9_2 k a0 (a0.length : Int) 0 with
  | none => none
  | some (.exit d1) =>
    some true
  | some (.ret d1) =>
    some (!(decide (d1.1 ≥ 0)))
theorem l33_23_9_2_step (m : Nat) (d : dens l33_23_9_2H.tys) : l33_23_9_2L.f (m + 1) d = round E9 LL9 m [33, 23, 9] 19 (loopN (bodyOf Tryd.f33) 0) l33_23_9_2L (l33_23_9_2L.f m) d := by kernel_rfl
theorem f9_run (k : Nat) (x : denL [.slice (.int .i64)]) : runFn E9 LL9 k 9 Tryd.f9 [.slice (.int .i64)] [.imm .bool] x = f9 k x := by kernel_rfl
noncomputable def S9 : Vm.Spec := { ps := [.slice (.int .i64)], rs := [.imm .bool], f := fun x => f9 fuel x }
theorem f9_holds : Vm.Spec.holds Tryd.prog 9 S9 := by
  have hB : BodiesOk Tryd.prog E9 := bodies_ok (by exact ⟨by kernel_rfl, by kernel_rfl, by kernel_rfl, by kernel_rfl, by kernel_rfl, by kernel_rfl, trivial⟩)
  have hBS : BodiesStepped E9 LL9 := by
    refine bodies_stepped ?_
    exact ⟨(fun _ => stepped_noloop (by kernel_rfl)), (fun _ => stepped_noloop (by kernel_rfl)), (stepped_paths [[23, 9]] (by exact ⟨stepped_of (ls := [(2, l33_23_9_2L)]) rfl rfl ⟨by kernel_rfl, fun _ => rfl, l33_23_9_2_step, stepsI_end (by kernel_rfl)⟩,  trivial⟩) rfl),  trivial⟩
  have hS : SpecsOk Tryd.prog E9 := specs_ok (by exact trivial)
  have hE : EOk Tryd.prog E9 := eok_te ok
  exact fn_sound (L := LL9) hE hS hB (draws_ok hE hS (by kernel_rfl)) hBS (fn := Tryd.f9) (by kernel_rfl) (c := bodyOf Tryd.f9) (by kernel_rfl) (stepped_none rfl) fun x r h => ⟨fuel, (f9_run fuel x).trans h⟩

/-! gamehall/gamehallkeep2.pick -/
noncomputable def E11 : Env := { te := te, spec := [], body := [] }
def LL11 : Loops := []
def f11 (k : Nat) (a0 : Int) (a1 : Int) : Option (Int) :=
  if IntKind.u64.wrap (a1) = 0 then
    none
  else
    some (IntKind.i64.wrap ((IntKind.u64.wrap (a0)).tmod (IntKind.u64.wrap (a1))))
theorem f11_run (k : Nat) (x : denL [.int .i64, .int .i64]) : runFn E11 LL11 k 11 Tryd.f11 [.int .i64, .int .i64] [.imm (.int .i64)] x = f11 k x.1 x.2 := by kernel_rfl
noncomputable def S11 : Vm.Spec := { ps := [.int .i64, .int .i64], rs := [.imm (.int .i64)], f := fun x => f11 fuel x.1 x.2 }
theorem f11_holds : Vm.Spec.holds Tryd.prog 11 S11 := by
  have hB : BodiesOk Tryd.prog E11 := bodies_none rfl
  have hBS : BodiesStepped E11 LL11 := bodies_stepped_none rfl
  have hS : SpecsOk Tryd.prog E11 := specs_ok (by exact trivial)
  have hE : EOk Tryd.prog E11 := eok_te ok
  exact fn_sound (L := LL11) hE hS hB (draws_ok hE hS (by kernel_rfl)) hBS (fn := Tryd.f11) (by kernel_rfl) (c := bodyOf Tryd.f11) (by kernel_rfl) (stepped_none rfl) fun x r h => ⟨fuel, (f11_run fuel x).trans h⟩

/-! gamehall/cards.Fresh -/
noncomputable def E12 : Env := { te := te, spec := [], body := [] }
def l12_5H : Ann := { slots := [(4, .one (.own 76 (.int .i64))), (12, .one (.val (.int .i64))), (13, .one (.val (.int .i64)))], objs := [(76, .buf (.int .i64))] }
def l12_5X : Ann := { slots := [(4, .one (.own 76 (.int .i64)))], objs := [(76, .buf (.int .i64))] }
def l12_5R : Ann := { slots := [], objs := [] }
def l12_5 : Nat → Int → Int → List Int → Option (LR l12_5X l12_5R)
  | 0, _, _, _ => none
  | m + 1, s12, s13, b76 =>
    if decide (s13 < s12) = true then
      if (b76.length + 1) * 8 ≤ 140737488355328 then
        l12_5 m s12 (IntKind.i64.wrap (s13 + 1)) (b76 ++ [s13])
      else none
    else
      some (.exit (b76, ()))
def l12_5L : LSpec := { h := l12_5H, x := l12_5X, r := l12_5R, xid := 0, rt := false, pins := [], f := fun k d => l12_5 k d.1 d.2.1 d.2.2.1 }
def LL12 : Loops := [([12], [(5, l12_5L)])]
def f12 (k : Nat) (a0 : Int) : Option (List Int × Int) :=
  if decide (a0 < 0) = false then
    if decide (a0 > 52) = true then
      some ([], 4)
    else
      match l12_5 k a0 0 [] with
      | none => none
      | some (.exit d1) =>
        some (d1.1, 0)
      | some (.ret d1) =>
        none
  else
    some ([], 4)
theorem l12_5_step (m : Nat) (d : dens l12_5H.tys) : l12_5L.f (m + 1) d = round E12 LL12 m [12] 22 (loopN (bodyOf Tryd.f12) 0) l12_5L (l12_5L.f m) d := by kernel_rfl
theorem f12_run (k : Nat) (x : denL [.int .i64]) : runFn E12 LL12 k 12 Tryd.f12 [.int .i64] [.fresh (.int .i64), .imm (.int .i64)] x = f12 k x := by kernel_rfl
noncomputable def S12 : Vm.Spec := { ps := [.int .i64], rs := [.fresh (.int .i64), .imm (.int .i64)], f := fun x => f12 fuel x }
theorem f12_holds : Vm.Spec.holds Tryd.prog 12 S12 := by
  have hB : BodiesOk Tryd.prog E12 := bodies_none rfl
  have hBS : BodiesStepped E12 LL12 := bodies_stepped_none rfl
  have hS : SpecsOk Tryd.prog E12 := specs_ok (by exact trivial)
  have hE : EOk Tryd.prog E12 := eok_te ok
  exact fn_sound (L := LL12) hE hS hB (draws_ok hE hS (by kernel_rfl)) hBS (fn := Tryd.f12) (by kernel_rfl) (c := bodyOf Tryd.f12) (by kernel_rfl) (stepped_of (ls := [(5, l12_5L)]) rfl rfl ⟨by kernel_rfl, fun _ => rfl, l12_5_step, stepsI_end (by kernel_rfl)⟩) fun x r h => ⟨fuel, (f12_run fuel x).trans h⟩

/-! slices.Concat[[]int,int] -/
noncomputable def E27 : Env := { te := te, spec := [], body := [(34, Tryd.f34)] }
def l27_3H : Ann := { slots := [(3, .one (.val (.int .i64))), (9, .one (.val (.slice (.slice (.int .i64))))), (10, .one (.val (.int .i64))), (11, .one (.val (.int .i64)))], objs := [] }
def l27_3X : Ann := { slots := [(3, .one (.val (.int .i64)))], objs := [] }
def l27_3R : Ann := { slots := [], objs := [] }
def l27_11H : Ann := { slots := [(6, .one (.pre 4088 (.int .i64))), (25, .one (.val (.slice (.slice (.int .i64))))), (26, .one (.val (.int .i64))), (27, .one (.val (.int .i64)))], objs := [(4088, .buf (.int .i64))] }
def l27_11X : Ann := { slots := [(6, .one (.pre 4088 (.int .i64)))], objs := [(4088, .buf (.int .i64))] }
def l27_11R : Ann := { slots := [], objs := [] }
def l27_3 : Nat → Int → List (List Int) → Int → Int → Option (LR l27_3X l27_3R)
  | 0, _, _, _, _ => none
  | m + 1, s3, s9, s10, s11 =>
    if decide (s11 < s10) = true then
      if (0 : Int) ≤ s11 then
        if s11 < s9.length then
          if decide (IntKind.i64.wrap (s3 + ((s9.getD s11.toNat []).length : Int)) < 0) = true then
            none
          else
            l27_3 m (IntKind.i64.wrap (s3 + ((s9.getD s11.toNat []).length : Int))) s9 s10 (IntKind.i64.wrap (s11 + 1))
        else none
      else none
    else
      some (.exit (s3, ()))
def l27_3L : LSpec := { h := l27_3H, x := l27_3X, r := l27_3R, xid := 0, rt := false, pins := [], f := fun k d => l27_3 k d.1 d.2.1 d.2.2.1 d.2.2.2.1 }
def l27_11 : Nat → Nat → List (List Int) → Int → Int → List Int → Option (LR l27_11X l27_11R)
  | 0, _, _, _, _, _ => none
  | m + 1, s6, s25, s26, s27, b4088 =>
    if decide (s27 < s26) = true then
      if (0 : Int) ≤ s27 then
        if s27 < s25.length then
          if ((b4088.take s6).length + (s25.getD s27.toNat []).length) * 8 ≤ 140737488355328 then
            l27_11 m (((b4088.take s6) ++ (s25.getD s27.toNat [])).length) s25 s26 (IntKind.i64.wrap (s27 + 1)) ((b4088.take s6) ++ (s25.getD s27.toNat []))
          else none
        else none
      else none
    else
      some (.exit (s6, b4088, ()))
def l27_11L : LSpec := { h := l27_11H, x := l27_11X, r := l27_11R, xid := 2, rt := false, pins := [], f := fun k d => l27_11 k d.1 d.2.1 d.2.2.1 d.2.2.2.1 d.2.2.2.2.1 }
def LL27 : Loops := [([27], [(3, l27_3L), (11, l27_11L)])]
def f27 (k : Nat) (a0 : List (List Int)) : Option (List Int) :=
  match l27_3 k 0 a0 (a0.length : Int) 0 with
  | none => none
  | some (.exit d1) =>
    if decide (d1.1 < 0) = true then
      none
    else
      if decide (IntKind.i64.wrap (d1.1 - 0) > 0) = true then
        if (0 : Int) < IntKind.i64.wrap (d1.1 - 0) then
          if (IntKind.i64.wrap (d1.1 - 0)) * 8 ≤ 140737488355328 then
            if (0 : Int) ≤ (List.replicate (IntKind.i64.wrap (d1.1 - 0)).toNat 0).length then
              match l27_11 k 0 a0 (a0.length : Int) 0 (List.replicate (IntKind.i64.wrap (d1.1 - 0)).toNat 0) with
              | none => none
              | some (.exit d2) =>
                some (d2.2.1.take d2.1)
              | some (.ret d2) =>
                none
            else none
          else none
        else none
      else
        match l27_11 k 0 a0 (a0.length : Int) 0 [] with
        | none => none
        | some (.exit d3) =>
          some (d3.2.1.take d3.1)
        | some (.ret d3) =>
          none
  | some (.ret d1) =>
    none
theorem l27_3_step (m : Nat) (d : dens l27_3H.tys) : l27_3L.f (m + 1) d = round E27 LL27 m [27] 36 (loopN (bodyOf Tryd.f27) 0) l27_3L (l27_3L.f m) d := by kernel_rfl
theorem l27_11_step (m : Nat) (d : dens l27_11H.tys) : l27_11L.f (m + 1) d = round E27 LL27 m [27] 36 (loopN (bodyOf Tryd.f27) 1) l27_11L (l27_11L.f m) d := by kernel_rfl
theorem f27_run (k : Nat) (x : denL [.slice (.slice (.int .i64))]) : runFn E27 LL27 k 27 Tryd.f27 [.slice (.slice (.int .i64))] [.fresh (.int .i64)] x = f27 k x := by kernel_rfl
noncomputable def S27 : Vm.Spec := { ps := [.slice (.slice (.int .i64))], rs := [.fresh (.int .i64)], f := fun x => f27 fuel x }
theorem f27_holds : Vm.Spec.holds Tryd.prog 27 S27 := by
  have hB : BodiesOk Tryd.prog E27 := bodies_ok (by exact ⟨by kernel_rfl, by kernel_rfl, trivial⟩)
  have hBS : BodiesStepped E27 LL27 := by
    refine bodies_stepped ?_
    exact ⟨(fun _ => stepped_noloop (by kernel_rfl)),  trivial⟩
  have hS : SpecsOk Tryd.prog E27 := specs_ok (by exact trivial)
  have hE : EOk Tryd.prog E27 := eok_te ok
  exact fn_sound (L := LL27) hE hS hB (draws_ok hE hS (by kernel_rfl)) hBS (fn := Tryd.f27) (by kernel_rfl) (c := bodyOf Tryd.f27) (by kernel_rfl) (stepped_of (ls := [(3, l27_3L), (11, l27_11L)]) rfl rfl ⟨by kernel_rfl, fun _ => rfl, l27_3_step, by kernel_rfl, fun _ => rfl, l27_11_step, stepsI_end (by kernel_rfl)⟩) fun x r h => ⟨fuel, (f27_run fuel x).trans h⟩

/-! gamehall/cards.Cut -/
noncomputable def E16 : Env := { te := te, spec := [(15, S15), (27, S27)], body := [] }
def LL16 : Loops := []
def f16 (k : Nat) (a0 : List Int) (a1 : Int) : Option (List Int × Int) :=
  (f15 fuel a0).bind fun r1 =>
  if (r1 != 0) = true then
    some ([], r1)
  else
    if decide (a1 < 0) = false then
      if decide (a1 > (a0.length : Int)) = true then
        some ([], 4)
      else
        if (0 : Int) ≤ a1 then
          if a1 ≤ a0.length then
            if (0 : Int) ≤ a1 then
              if a1 ≤ a0.length then
                (f27 fuel [(a0.take a0.length).drop a1.toNat, (a0.take a1.toNat).drop 0]).bind fun r2 =>
                some (r2, 0)
              else none
            else none
          else none
        else none
    else
      some ([], 4)
theorem f16_run (k : Nat) (x : denL [.slice (.int .i64), .int .i64]) : runFn E16 LL16 k 16 Tryd.f16 [.slice (.int .i64), .int .i64] [.fresh (.int .i64), .imm (.int .i64)] x = f16 k x.1 x.2 := by kernel_rfl
noncomputable def S16 : Vm.Spec := { ps := [.slice (.int .i64), .int .i64], rs := [.fresh (.int .i64), .imm (.int .i64)], f := fun x => f16 fuel x.1 x.2 }
theorem f16_holds : Vm.Spec.holds Tryd.prog 16 S16 := by
  have hB : BodiesOk Tryd.prog E16 := bodies_none rfl
  have hBS : BodiesStepped E16 LL16 := bodies_stepped_none rfl
  have hS : SpecsOk Tryd.prog E16 := specs_ok (by exact ⟨⟨by kernel_rfl, f15_holds⟩, ⟨by kernel_rfl, f27_holds⟩, trivial⟩)
  have hE : EOk Tryd.prog E16 := eok_te ok
  exact fn_sound (L := LL16) hE hS hB (draws_ok hE hS (by kernel_rfl)) hBS (fn := Tryd.f16) (by kernel_rfl) (c := bodyOf Tryd.f16) (by kernel_rfl) (stepped_none rfl) fun x r h => ⟨fuel, (f16_run fuel x).trans h⟩

/-! gamehall/cards.Deal -/
noncomputable def E17 : Env := { te := te, spec := [(15, S15), (21, S21s)], body := [] }
def l17_10H : Ann := { slots := [(1, .one (.val (.int .i64))), (10, .one (.own 156 (.slice (.int .i64)))), (44, .one (.val (.slice (.int .i64)))), (45, .one (.val (.int .i64))), (46, .one (.val (.int .i64)))], objs := [(156, .grid (.int .i64))] }
def l17_10X : Ann := { slots := [(10, .one (.own 156 (.slice (.int .i64))))], objs := [(156, .grid (.int .i64))] }
def l17_10R : Ann := { slots := [], objs := [] }
def l17_10 : Nat → Int → List Int → Int → Int → List (List Int) → Option (LR l17_10X l17_10R)
  | 0, _, _, _, _, _ => none
  | m + 1, s1, s44, s45, s46, b156 =>
    if decide (s46 < s45) = true then
      if (0 : Int) ≤ s46 then
        if s46 < s44.length then
          if s1 = 0 then
            none
          else
            if s1 = 0 then
              none
            else
              if (0 : Int) ≤ s46.tmod s1 then
                if s46.tmod s1 < b156.length then
                  if ((b156.getD (s46.tmod s1).toNat []).length + 1) * 8 ≤ 140737488355328 then
                    if (0 : Int) ≤ s46.tmod s1 then
                      if s46.tmod s1 < b156.length then
                        if (s46.tmod s1).toNat = (s46.tmod s1).toNat then
                          l17_10 m s1 s44 s45 (IntKind.i64.wrap (s46 + 1)) (b156.set (s46.tmod s1).toNat ((b156.getD (s46.tmod s1).toNat []) ++ [s44.getD s46.toNat 0]))
                        else none
                      else none
                    else none
                  else none
                else none
              else none
        else none
      else none
    else
      some (.exit (b156, ()))
def l17_10L : LSpec := { h := l17_10H, x := l17_10X, r := l17_10R, xid := 0, rt := false, pins := [156], f := fun k d => l17_10 k d.1 d.2.1 d.2.2.1 d.2.2.2.1 d.2.2.2.2.1 }
def LL17 : Loops := [([17], [(10, l17_10L)])]
def f17 (k : Nat) (a0 : List Int) (a1 : Int) (a2 : Int) : Option ((List (List Int)) × List Int × Int) :=
  (f15 fuel a0).bind fun r1 =>
  if (r1 != 0) = true then
    some ([], [], r1)
  else
    if decide (a1 < 1) = false then
      if decide (a1 > 52) = false then
        if decide (a2 < 0) = false then
          if decide (a2 > 52) = true then
            some ([], [], 4)
          else
            if decide (IntKind.i64.wrap (a1 * a2) > (a0.length : Int)) = true then
              some ([], [], 8)
            else
              if (0 : Int) ≤ a1 then
                if a1 ≤ a1 then
                  if a1 * 24 ≤ 281474976710656 then
                    if (0 : Int) ≤ IntKind.i64.wrap (a1 * a2) then
                      if IntKind.i64.wrap (a1 * a2) ≤ a0.length then
                        match l17_10 k a1 ((a0.take (IntKind.i64.wrap (a1 * a2)).toNat).drop 0) (((a0.take (IntKind.i64.wrap (a1 * a2)).toNat).drop 0).length : Int) 0 (List.replicate a1.toNat []) with
                        | none => none
                        | some (.exit d2) =>
                          if (0 : Int) ≤ IntKind.i64.wrap (a1 * a2) then
                            if IntKind.i64.wrap (a1 * a2) ≤ a0.length then
                              (f21s ((a0.take a0.length).drop (IntKind.i64.wrap (a1 * a2)).toNat)).bind fun r3 =>
                              some (d2.1, r3, 0)
                            else none
                          else none
                        | some (.ret d2) =>
                          none
                      else none
                    else none
                  else none
                else none
              else none
        else
          some ([], [], 4)
      else
        some ([], [], 4)
    else
      some ([], [], 4)
theorem l17_10_step (m : Nat) (d : dens l17_10H.tys) : l17_10L.f (m + 1) d = round E17 LL17 m [17] 73 (loopN (bodyOf Tryd.f17) 0) l17_10L (l17_10L.f m) d := by kernel_rfl
theorem f17_run (k : Nat) (x : denL [.slice (.int .i64), .int .i64, .int .i64]) : runFn E17 LL17 k 17 Tryd.f17 [.slice (.int .i64), .int .i64, .int .i64] [.imm (.slice (.slice (.int .i64))), .fresh (.int .i64), .imm (.int .i64)] x = f17 k x.1 x.2.1 x.2.2 := by kernel_rfl
noncomputable def S17 : Vm.Spec := { ps := [.slice (.int .i64), .int .i64, .int .i64], rs := [.imm (.slice (.slice (.int .i64))), .fresh (.int .i64), .imm (.int .i64)], f := fun x => f17 fuel x.1 x.2.1 x.2.2 }
theorem f17_holds : Vm.Spec.holds Tryd.prog 17 S17 := by
  have hB : BodiesOk Tryd.prog E17 := bodies_none rfl
  have hBS : BodiesStepped E17 LL17 := bodies_stepped_none rfl
  have hS : SpecsOk Tryd.prog E17 := specs_ok (by exact ⟨⟨by kernel_rfl, f15_holds⟩, ⟨by kernel_rfl, f21s_holds⟩, trivial⟩)
  have hE : EOk Tryd.prog E17 := eok_te ok
  exact fn_sound (L := LL17) hE hS hB (draws_ok hE hS (by kernel_rfl)) hBS (fn := Tryd.f17) (by kernel_rfl) (c := bodyOf Tryd.f17) (by kernel_rfl) (stepped_of (ls := [(10, l17_10L)]) rfl rfl ⟨by kernel_rfl, fun _ => rfl, l17_10_step, stepsI_end (by kernel_rfl)⟩) fun x r h => ⟨fuel, (f17_run fuel x).trans h⟩

/-! gamehall/cards.Rank -/
noncomputable def E28 : Env := { te := te, spec := [], body := [] }
def LL28 : Loops := []
def f28 (k : Nat) (a0 : Int) : Option (Int) :=
  some (a0.tmod 13)
theorem f28_run (k : Nat) (x : denL [.int .i64]) : runFn E28 LL28 k 28 Tryd.f28 [.int .i64] [.imm (.int .i64)] x = f28 k x := by kernel_rfl
noncomputable def S28 : Vm.Spec := { ps := [.int .i64], rs := [.imm (.int .i64)], f := fun x => f28 fuel x }
theorem f28_holds : Vm.Spec.holds Tryd.prog 28 S28 := by
  have hB : BodiesOk Tryd.prog E28 := bodies_none rfl
  have hBS : BodiesStepped E28 LL28 := bodies_stepped_none rfl
  have hS : SpecsOk Tryd.prog E28 := specs_ok (by exact trivial)
  have hE : EOk Tryd.prog E28 := eok_te ok
  exact fn_sound (L := LL28) hE hS hB (draws_ok hE hS (by kernel_rfl)) hBS (fn := Tryd.f28) (by kernel_rfl) (c := bodyOf Tryd.f28) (by kernel_rfl) (stepped_none rfl) fun x r h => ⟨fuel, (f28_run fuel x).trans h⟩

/-! gamehall/cards.Suit -/
noncomputable def E29 : Env := { te := te, spec := [], body := [] }
def LL29 : Loops := []
def f29 (k : Nat) (a0 : Int) : Option (Int) :=
  some (IntKind.i64.wrap (a0.tdiv 13))
theorem f29_run (k : Nat) (x : denL [.int .i64]) : runFn E29 LL29 k 29 Tryd.f29 [.int .i64] [.imm (.int .i64)] x = f29 k x := by kernel_rfl
noncomputable def S29 : Vm.Spec := { ps := [.int .i64], rs := [.imm (.int .i64)], f := fun x => f29 fuel x }
theorem f29_holds : Vm.Spec.holds Tryd.prog 29 S29 := by
  have hB : BodiesOk Tryd.prog E29 := bodies_none rfl
  have hBS : BodiesStepped E29 LL29 := bodies_stepped_none rfl
  have hS : SpecsOk Tryd.prog E29 := specs_ok (by exact trivial)
  have hE : EOk Tryd.prog E29 := eok_te ok
  exact fn_sound (L := LL29) hE hS hB (draws_ok hE hS (by kernel_rfl)) hBS (fn := Tryd.f29) (by kernel_rfl) (c := bodyOf Tryd.f29) (by kernel_rfl) (stepped_none rfl) fun x r h => ⟨fuel, (f29_run fuel x).trans h⟩

/-! strings.Split -/
noncomputable def E31 : Env := { te := te, spec := [(43, Vm.sCount), (44, Vm.sIndex)], body := [(38, Tryd.f38)] }
def l38_31_11H : Ann := { slots := [(0, .one (.val .str)), (1, .one (.val .str)), (2, .one (.val (.int .i64))), (3, .one (.val (.int .i64))), (9, .one (.own 4124 .str)), (10, .one (.val (.int .i64)))], objs := [(4124, .buf .str)] }
def l38_31_11X : Ann := { slots := [(0, .one (.val .str)), (9, .one (.own 4124 .str)), (10, .one (.val (.int .i64)))], objs := [(4124, .buf .str)] }
def l38_31_11R : Ann := { slots := [], objs := [] }
def l38_31_11 : Nat → ByteArray → ByteArray → Int → Int → Int → List ByteArray → Option (LR l38_31_11X l38_31_11R)
  | 0, _, _, _, _, _, _ => none
  | m + 1, s0, s1, s2, s3, s10, b4124 =>
    if decide (s10 < s3) = true then
      (Vm.stdIndex s0 s1).bind fun r1 =>
      if decide (r1 < 0) = true then
        some (.exit (s0, s10, b4124, ()))
      else
        if (0 : Int) ≤ IntKind.i64.wrap (r1 + s2) then
          if IntKind.i64.wrap (r1 + s2) ≤ s0.size then
            if (0 : Int) ≤ s10 then
              if s10 < b4124.length then
                if (0 : Int) ≤ IntKind.i64.wrap (r1 + (s1.size : Int)) then
                  if IntKind.i64.wrap (r1 + (s1.size : Int)) ≤ s0.size then
                    l38_31_11 m (s0.extract (IntKind.i64.wrap (r1 + (s1.size : Int))).toNat s0.size) s1 s2 s3 (IntKind.i64.wrap (s10 + 1)) (b4124.set s10.toNat (s0.extract 0 (IntKind.i64.wrap (r1 + s2)).toNat))
                  else none
                else none
              else none
            else none
          else none
        else none
    else
      some (.exit (s0, s10, b4124, ()))
def l38_31_11L : LSpec := { h := l38_31_11H, x := l38_31_11X, r := l38_31_11R, xid := 0, rt := false, pins := [4124], f := fun k d => l38_31_11 k d.1 d.2.1 d.2.2.1 d.2.2.2.1 d.2.2.2.2.1 d.2.2.2.2.2.1 }
def LL31 : Loops := [([38, 31], [(11, l38_31_11L)])]
def f31 (k : Nat) (a0 : ByteArray) (a1 : ByteArray) : Option (List ByteArray) :=
  if ((a1.toList == (⟨#[]⟩ : ByteArray).toList)) = true then
    none
  else
    (Vm.stdCount a0 a1).bind fun r1 =>
    if (0 : Int) ≤ (if IntKind.i64.wrap ((a0.size : Int) + 1) < IntKind.i64.wrap (r1 + 1) then IntKind.i64.wrap ((a0.size : Int) + 1) else IntKind.i64.wrap (r1 + 1)) then
      if (if IntKind.i64.wrap ((a0.size : Int) + 1) < IntKind.i64.wrap (r1 + 1) then IntKind.i64.wrap ((a0.size : Int) + 1) else IntKind.i64.wrap (r1 + 1)) ≤ (if IntKind.i64.wrap ((a0.size : Int) + 1) < IntKind.i64.wrap (r1 + 1) then IntKind.i64.wrap ((a0.size : Int) + 1) else IntKind.i64.wrap (r1 + 1)) then
        if (if IntKind.i64.wrap ((a0.size : Int) + 1) < IntKind.i64.wrap (r1 + 1) then IntKind.i64.wrap ((a0.size : Int) + 1) else IntKind.i64.wrap (r1 + 1)) * 16 ≤ 281474976710656 then
          match l38_31_11 k a0 a1 0 (IntKind.i64.wrap ((if IntKind.i64.wrap ((a0.size : Int) + 1) < IntKind.i64.wrap (r1 + 1) then IntKind.i64.wrap ((a0.size : Int) + 1) else IntKind.i64.wrap (r1 + 1)) - 1)) 0 (List.replicate ((if IntKind.i64.wrap ((a0.size : Int) + 1) < IntKind.i64.wrap (r1 + 1) then IntKind.i64.wrap ((a0.size : Int) + 1) else IntKind.i64.wrap (r1 + 1)).toNat) ByteArray.empty) with
          | none => none
          | some (.exit d2) =>
            if (0 : Int) ≤ d2.2.1 then
              if d2.2.1 < d2.2.2.1.length then
                if (0 : Int) ≤ IntKind.i64.wrap (d2.2.1 + 1) then
                  if IntKind.i64.wrap (d2.2.1 + 1) ≤ (d2.2.2.1.set d2.2.1.toNat d2.1).length then
                    some ((d2.2.2.1.set d2.2.1.toNat d2.1).take ((IntKind.i64.wrap (d2.2.1 + 1)).toNat))
                  else none
                else none
              else none
            else none
          | some (.ret d2) =>
            none
        else none
      else none
    else none
theorem l38_31_11_step (m : Nat) (d : dens l38_31_11H.tys) : l38_31_11L.f (m + 1) d = round E31 LL31 m [38, 31] 66 (loopN (bodyOf Tryd.f38) 0) l38_31_11L (l38_31_11L.f m) d := by kernel_rfl
theorem f31_run (k : Nat) (x : denL [.str, .str]) : runFn E31 LL31 k 31 Tryd.f31 [.str, .str] [.fresh .str] x = f31 k x.1 x.2 := by kernel_rfl
noncomputable def S31 : Vm.Spec := { ps := [.str, .str], rs := [.fresh .str], f := fun x => f31 fuel x.1 x.2 }
theorem f31_holds : Vm.Spec.holds Tryd.prog 31 S31 := by
  have hB : BodiesOk Tryd.prog E31 := bodies_ok (by exact ⟨by kernel_rfl, by kernel_rfl, trivial⟩)
  have hBS : BodiesStepped E31 LL31 := by
    refine bodies_stepped ?_
    exact ⟨(stepped_paths [[31]] (by exact ⟨stepped_of (ls := [(11, l38_31_11L)]) rfl rfl ⟨by kernel_rfl, fun _ => rfl, l38_31_11_step, stepsI_end (by kernel_rfl)⟩,  trivial⟩) rfl),  trivial⟩
  have hS : SpecsOk Tryd.prog E31 := specs_ok (by exact ⟨⟨by kernel_rfl, g43_holds⟩, ⟨by kernel_rfl, g44_holds⟩, trivial⟩)
  have hE : EOk Tryd.prog E31 := eok_te ok
  exact fn_sound (L := LL31) hE hS hB (draws_ok hE hS (by kernel_rfl)) hBS (fn := Tryd.f31) (by kernel_rfl) (c := bodyOf Tryd.f31) (by kernel_rfl) (stepped_none rfl) fun x r h => ⟨fuel, (f31_run fuel x).trans h⟩

/-! gamehall/cards.Text -/
noncomputable def E18 : Env := { te := te, spec := [(15, S15), (28, S28), (29, S29), (30, Vm.sJoin)], body := [] }
def l18_6H : Ann := { slots := [(5, .one (.own 136 .str)), (13, .one (.val (.slice (.int .i64)))), (14, .one (.val (.int .i64))), (15, .one (.val (.int .i64)))], objs := [(136, .buf .str)] }
def l18_6X : Ann := { slots := [(5, .one (.own 136 .str))], objs := [(136, .buf .str)] }
def l18_6R : Ann := { slots := [], objs := [] }
def l18_6 : Nat → List Int → Int → Int → List ByteArray → Option (LR l18_6X l18_6R)
  | 0, _, _, _, _ => none
  | m + 1, s13, s14, s15, b136 =>
    if decide (s15 < s14) = true then
      if (0 : Int) ≤ s15 then
        if s15 < s13.length then
          (f28 fuel (s13.getD s15.toNat 0)).bind fun r1 =>
          (f28 fuel (s13.getD s15.toNat 0)).bind fun r2 =>
          if (0 : Int) ≤ IntKind.i64.wrap (r2 + 1) then
            if IntKind.i64.wrap (r2 + 1) ≤ (⟨#[50, 51, 52, 53, 54, 55, 56, 57, 84, 74, 81, 75, 65]⟩ : ByteArray).size then
              if (0 : Int) ≤ r1 then
                if r1 ≤ IntKind.i64.wrap (r2 + 1) then
                  (f29 fuel (s13.getD s15.toNat 0)).bind fun r3 =>
                  (f29 fuel (s13.getD s15.toNat 0)).bind fun r4 =>
                  if (0 : Int) ≤ IntKind.i64.wrap (r4 + 1) then
                    if IntKind.i64.wrap (r4 + 1) ≤ (⟨#[67, 68, 72, 83]⟩ : ByteArray).size then
                      if (0 : Int) ≤ r3 then
                        if r3 ≤ IntKind.i64.wrap (r4 + 1) then
                          if ((⟨#[50, 51, 52, 53, 54, 55, 56, 57, 84, 74, 81, 75, 65]⟩ : ByteArray).extract r1.toNat (IntKind.i64.wrap (r2 + 1)).toNat).size + ((⟨#[67, 68, 72, 83]⟩ : ByteArray).extract r3.toNat (IntKind.i64.wrap (r4 + 1)).toNat).size ≤ 4611686018427387904 then
                            if (b136.length + 1) * 16 ≤ 140737488355328 then
                              l18_6 m s13 s14 (IntKind.i64.wrap (s15 + 1)) (b136 ++ [((⟨#[50, 51, 52, 53, 54, 55, 56, 57, 84, 74, 81, 75, 65]⟩ : ByteArray).extract r1.toNat (IntKind.i64.wrap (r2 + 1)).toNat) ++ ((⟨#[67, 68, 72, 83]⟩ : ByteArray).extract r3.toNat (IntKind.i64.wrap (r4 + 1)).toNat)])
                            else none
                          else none
                        else none
                      else none
                    else none
                  else none
                else none
              else none
            else none
          else none
        else none
      else none
    else
      some (.exit (b136, ()))
def l18_6L : LSpec := { h := l18_6H, x := l18_6X, r := l18_6R, xid := 0, rt := false, pins := [], f := fun k d => l18_6 k d.1 d.2.1 d.2.2.1 d.2.2.2.1 }
def LL18 : Loops := [([18], [(6, l18_6L)])]
def f18 (k : Nat) (a0 : List Int) : Option (ByteArray × Int) :=
  (f15 fuel a0).bind fun r1 =>
  if (r1 != 0) = true then
    some ((⟨#[]⟩ : ByteArray), r1)
  else
    match l18_6 k a0 (a0.length : Int) 0 [] with
    | none => none
    | some (.exit d2) =>
      (Vm.stdJoin d2.1 (⟨#[32]⟩ : ByteArray)).bind fun r3 =>
      some (r3, 0)
    | some (.ret d2) =>
      none
theorem l18_6_step (m : Nat) (d : dens l18_6H.tys) : l18_6L.f (m + 1) d = round E18 LL18 m [18] 38 (loopN (bodyOf Tryd.f18) 0) l18_6L (l18_6L.f m) d := by kernel_rfl
theorem f18_run (k : Nat) (x : denL [.slice (.int .i64)]) : runFn E18 LL18 k 18 Tryd.f18 [.slice (.int .i64)] [.imm .str, .imm (.int .i64)] x = f18 k x := by kernel_rfl
noncomputable def S18 : Vm.Spec := { ps := [.slice (.int .i64)], rs := [.imm .str, .imm (.int .i64)], f := fun x => f18 fuel x }
theorem f18_holds : Vm.Spec.holds Tryd.prog 18 S18 := by
  have hB : BodiesOk Tryd.prog E18 := bodies_none rfl
  have hBS : BodiesStepped E18 LL18 := bodies_stepped_none rfl
  have hS : SpecsOk Tryd.prog E18 := specs_ok (by exact ⟨⟨by kernel_rfl, f15_holds⟩, ⟨by kernel_rfl, f28_holds⟩, ⟨by kernel_rfl, f29_holds⟩, ⟨by kernel_rfl, g30_holds⟩, trivial⟩)
  have hE : EOk Tryd.prog E18 := eok_te ok
  exact fn_sound (L := LL18) hE hS hB (draws_ok hE hS (by kernel_rfl)) hBS (fn := Tryd.f18) (by kernel_rfl) (c := bodyOf Tryd.f18) (by kernel_rfl) (stepped_of (ls := [(6, l18_6L)]) rfl rfl ⟨by kernel_rfl, fun _ => rfl, l18_6_step, stepsI_end (by kernel_rfl)⟩) fun x r h => ⟨fuel, (f18_run fuel x).trans h⟩

/-! gamehall/cards.Read -/
noncomputable def E19 : Env := { te := te, spec := [(15, S15), (31, S31), (32, Vm.sIndexByte)], body := [] }
def l19_7H : Ann := { slots := [(4, .one (.own 180 (.int .i64))), (14, .one (.own 56 .str)), (15, .one (.val (.int .i64))), (16, .one (.val (.int .i64)))], objs := [(180, .buf (.int .i64)), (56, .buf .str)] }
def l19_7X : Ann := { slots := [(4, .one (.own 180 (.int .i64)))], objs := [(180, .buf (.int .i64)), (56, .buf .str)] }
def l19_7R : Ann := { slots := [(2, .one (.fix .nil)), (3, .one (.val (.int .i64)))], objs := [(56, .buf .str)] }
def l19_7 : Nat → Int → Int → List Int → List ByteArray → Option (LR l19_7X l19_7R)
  | 0, _, _, _, _ => none
  | m + 1, s15, s16, b180, b56 =>
    if decide (s16 < s15) = true then
      if (0 : Int) ≤ s16 then
        if s16 < b56.length then
          if (((b56.getD s16.toNat ByteArray.empty).size : Int) != 2) = false then
            if (0 : Int) < ((b56.getD s16.toNat ByteArray.empty).size : Int) then
              (Vm.stdIndexByte (⟨#[50, 51, 52, 53, 54, 55, 56, 57, 84, 74, 81, 75, 65]⟩ : ByteArray) (((b56.getD s16.toNat ByteArray.empty).data.getD 0 0).toNat : Int)).bind fun r1 =>
              if decide (r1 < 0) = false then
                if (1 : Int) < ((b56.getD s16.toNat ByteArray.empty).size : Int) then
                  (Vm.stdIndexByte (⟨#[67, 68, 72, 83]⟩ : ByteArray) (((b56.getD s16.toNat ByteArray.empty).data.getD 1 0).toNat : Int)).bind fun r2 =>
                  if decide (r2 < 0) = true then
                    some (.ret (5, b56, ()))
                  else
                    if (1 : Int) < ((b56.getD s16.toNat ByteArray.empty).size : Int) then
                      if (0 : Int) < ((b56.getD s16.toNat ByteArray.empty).size : Int) then
                        (Vm.stdIndexByte (⟨#[67, 68, 72, 83]⟩ : ByteArray) (((b56.getD s16.toNat ByteArray.empty).data.getD 1 0).toNat : Int)).bind fun r3 =>
                        (Vm.stdIndexByte (⟨#[50, 51, 52, 53, 54, 55, 56, 57, 84, 74, 81, 75, 65]⟩ : ByteArray) (((b56.getD s16.toNat ByteArray.empty).data.getD 0 0).toNat : Int)).bind fun r4 =>
                        if (b180.length + 1) * 8 ≤ 140737488355328 then
                          l19_7 m s15 (IntKind.i64.wrap (s16 + 1)) (b180 ++ [IntKind.i64.wrap ((IntKind.i64.wrap (r3 * 13)) + r4)]) b56
                        else none
                      else none
                    else none
                else none
              else
                some (.ret (5, b56, ()))
            else none
          else
            some (.ret (5, b56, ()))
        else none
      else none
    else
      some (.exit (b180, b56, ()))
def l19_7L : LSpec := { h := l19_7H, x := l19_7X, r := l19_7R, xid := 0, rt := true, pins := [56], f := fun k d => l19_7 k d.1 d.2.1 d.2.2.1 d.2.2.2.1 }
def LL19 : Loops := [([19], [(7, l19_7L)])]
def f19 (k : Nat) (a0 : ByteArray) : Option (List Int × Int) :=
  if decide ((a0.size : Int) > 8192) = true then
    some ([], 2)
  else
    if ((a0.toList == (⟨#[]⟩ : ByteArray).toList)) = true then
      some ([], 0)
    else
      (f31 fuel a0 (⟨#[32]⟩ : ByteArray)).bind fun r1 =>
      match l19_7 k (r1.length : Int) 0 [] r1 with
      | none => none
      | some (.exit d2) =>
        (f15 fuel d2.1).bind fun r3 =>
        if (r3 != 0) = true then
          some ([], r3)
        else
          some (d2.1, 0)
      | some (.ret d2) =>
        some ([], d2.1)
theorem l19_7_step (m : Nat) (d : dens l19_7H.tys) : l19_7L.f (m + 1) d = round E19 LL19 m [19] 53 (loopN (bodyOf Tryd.f19) 0) l19_7L (l19_7L.f m) d := by kernel_rfl
theorem f19_run (k : Nat) (x : denL [.str]) : runFn E19 LL19 k 19 Tryd.f19 [.str] [.fresh (.int .i64), .imm (.int .i64)] x = f19 k x := by kernel_rfl
noncomputable def S19 : Vm.Spec := { ps := [.str], rs := [.fresh (.int .i64), .imm (.int .i64)], f := fun x => f19 fuel x }
theorem f19_holds : Vm.Spec.holds Tryd.prog 19 S19 := by
  have hB : BodiesOk Tryd.prog E19 := bodies_none rfl
  have hBS : BodiesStepped E19 LL19 := bodies_stepped_none rfl
  have hS : SpecsOk Tryd.prog E19 := specs_ok (by exact ⟨⟨by kernel_rfl, f15_holds⟩, ⟨by kernel_rfl, f31_holds⟩, ⟨by kernel_rfl, g32_holds⟩, trivial⟩)
  have hE : EOk Tryd.prog E19 := eok_te ok
  exact fn_sound (L := LL19) hE hS hB (draws_ok hE hS (by kernel_rfl)) hBS (fn := Tryd.f19) (by kernel_rfl) (c := bodyOf Tryd.f19) (by kernel_rfl) (stepped_of (ls := [(7, l19_7L)]) rfl rfl ⟨by kernel_rfl, fun _ => rfl, l19_7_step, stepsI_end (by kernel_rfl)⟩) fun x r h => ⟨fuel, (f19_run fuel x).trans h⟩

/-! gamehall/gamehallkeep2.cardsFact -/
noncomputable def E6 : Env := { te := te, spec := [(7, S7), (8, S8), (9, S9), (10, S10), (12, S12), (15, S15), (16, S16), (17, S17), (18, S18), (19, S19), (20, S20)], body := [] }
def LL6 : Loops := []
def f6 (k : Nat) : Option (Bool) :=
  (f12 fuel 3).bind fun r1 =>
  (f7 fuel [0, 1, 2] [0, 0]).bind fun r2 =>
  (f8 fuel [0, 1, 2] [1, 2, 0]).bind fun r3 =>
  (f16 fuel [4, 5, 6] 1).bind fun r4 =>
  (f17 fuel [5, 6, 7] 2 1).bind fun r5 =>
  (f18 fuel [0, 51]).bind fun r6 =>
  (f19 fuel (⟨#[50, 67, 32, 65, 83]⟩ : ByteArray)).bind fun r7 =>
  (f9 fuel [r1.2, r2.2, r3.2, r4.2, r5.2.2, r6.2, r7.2]).bind fun r8 =>
  if r8 = true then
    (f10 fuel r1.1 [0, 1, 2]).bind fun r9 =>
    if r9 = true then
      (f10 fuel r2.1 [1, 2, 0]).bind fun r10 =>
      if r10 = true then
        (f10 fuel r3.1 [0, 0]).bind fun r11 =>
        if r11 = true then
          (f10 fuel r4.1 [5, 6, 4]).bind fun r12 =>
          if r12 = true then
            if ((r5.1.length : Int) == 2) = true then
              if (1 : Int) < r5.1.length then
                (f10 fuel (r5.1.getD 1 []) [6]).bind fun r13 =>
                if r13 = true then
                  (f10 fuel r5.2.1 [7]).bind fun r14 =>
                  if r14 = true then
                    if ((r6.1.toList == (⟨#[50, 67, 32, 65, 83]⟩ : ByteArray).toList)) = true then
                      (f10 fuel r7.1 [0, 51]).bind fun r15 =>
                      if r15 = true then
                        (f15 fuel [1, 1]).bind fun r16 =>
                        if (r16 == 7) = true then
                          (f20 fuel 2 []).bind fun r17 =>
                          some (r17 == 3)
                        else
                          some false
                      else
                        some false
                    else
                      some false
                  else
                    some false
                else
                  some false
              else none
            else
              some false
          else
            some false
        else
          some false
      else
        some false
    else
      some false
  else
    some false
theorem f6_run (k : Nat) (x : denL []) : runFn E6 LL6 k 6 Tryd.f6 [] [.imm .bool] x = f6 k := by kernel_rfl
noncomputable def S6 : Vm.Spec := { ps := [], rs := [.imm .bool], f := fun x => f6 fuel }
theorem f6_holds : Vm.Spec.holds Tryd.prog 6 S6 := by
  have hB : BodiesOk Tryd.prog E6 := bodies_none rfl
  have hBS : BodiesStepped E6 LL6 := bodies_stepped_none rfl
  have hS : SpecsOk Tryd.prog E6 := specs_ok (by exact ⟨⟨by kernel_rfl, f7_holds⟩, ⟨by kernel_rfl, f8_holds⟩, ⟨by kernel_rfl, f9_holds⟩, ⟨by kernel_rfl, f10_holds⟩, ⟨by kernel_rfl, f12_holds⟩, ⟨by kernel_rfl, f15_holds⟩, ⟨by kernel_rfl, f16_holds⟩, ⟨by kernel_rfl, f17_holds⟩, ⟨by kernel_rfl, f18_holds⟩, ⟨by kernel_rfl, f19_holds⟩, ⟨by kernel_rfl, f20_holds⟩, trivial⟩)
  have hE : EOk Tryd.prog E6 := eok_te ok
  exact fn_sound (L := LL6) hE hS hB (draws_ok hE hS (by kernel_rfl)) hBS (fn := Tryd.f6) (by kernel_rfl) (c := bodyOf Tryd.f6) (by kernel_rfl) (stepped_none rfl) fun x r h => ⟨fuel, (f6_run fuel x).trans h⟩

/-! gamehall/gamehallkeep2.CardsBack -/
noncomputable def E3 : Env := { te := te, spec := [(6, S6), (7, S7), (8, S8), (9, S9), (10, S10)], body := [] }
def LL3 : Loops := []
def f3 (k : Nat) (a0 : List Int) (a1 : List Int) : Option (Bool) :=
  (f6 fuel).bind fun r1 =>
  if (!r1) = true then
    some false
  else
    (f7 fuel a0 a1).bind fun r2 =>
    if (r2.2 != 0) = true then
      some ((r2.1.length : Int) == 0)
    else
      (f8 fuel a0 r2.1).bind fun r3 =>
      (f8 fuel r2.1 a0).bind fun r4 =>
      (f7 fuel r2.1 r4.1).bind fun r5 =>
      (f9 fuel [r3.2, r4.2, r5.2]).bind fun r6 =>
      if r6 = true then
        (f10 fuel r3.1 a1).bind fun r7 =>
        if r7 = true then
          (f10 fuel r5.1 a0).bind fun r8 =>
          some r8
        else
          some false
      else
        some false
theorem f3_run (k : Nat) (x : denL [.slice (.int .i64), .slice (.int .i64)]) : runFn E3 LL3 k 3 Tryd.f3 [.slice (.int .i64), .slice (.int .i64)] [.imm .bool] x = f3 k x.1 x.2 := by kernel_rfl
noncomputable def S3 : Vm.Spec := { ps := [.slice (.int .i64), .slice (.int .i64)], rs := [.imm .bool], f := fun x => f3 fuel x.1 x.2 }
theorem f3_holds : Vm.Spec.holds Tryd.prog 3 S3 := by
  have hB : BodiesOk Tryd.prog E3 := bodies_none rfl
  have hBS : BodiesStepped E3 LL3 := bodies_stepped_none rfl
  have hS : SpecsOk Tryd.prog E3 := specs_ok (by exact ⟨⟨by kernel_rfl, f6_holds⟩, ⟨by kernel_rfl, f7_holds⟩, ⟨by kernel_rfl, f8_holds⟩, ⟨by kernel_rfl, f9_holds⟩, ⟨by kernel_rfl, f10_holds⟩, trivial⟩)
  have hE : EOk Tryd.prog E3 := eok_te ok
  exact fn_sound (L := LL3) hE hS hB (draws_ok hE hS (by kernel_rfl)) hBS (fn := Tryd.f3) (by kernel_rfl) (c := bodyOf Tryd.f3) (by kernel_rfl) (stepped_none rfl) fun x r h => ⟨fuel, (f3_run fuel x).trans h⟩

/-! gamehall/gamehallkeep2.CardsEach -/
noncomputable def E4 : Env := { te := te, spec := [(6, S6), (7, S7), (10, S10), (11, S11), (12, S12)], body := [(13, Tryd.f13), (14, Tryd.f14), (25, Tryd.f25)] }
def l4_9H : Ann := { slots := [(5, .one (.val (.int .i64))), (24, .one (.val (.int .i64))), (25, .one (.val (.int .i64)))], objs := [] }
def l4_9X : Ann := { slots := [(5, .one (.val (.int .i64)))], objs := [] }
def l4_9R : Ann := { slots := [], objs := [] }
def l4_19H : Ann := { slots := [(8, .one (.val (.int .i64))), (9, .one (.own 188 (.int .i64))), (10, .one (.val (.int .i64)))], objs := [(188, .buf (.int .i64))] }
def l4_19X : Ann := { slots := [(9, .one (.own 188 (.int .i64)))], objs := [(188, .buf (.int .i64))] }
def l4_19R : Ann := { slots := [], objs := [] }
def l25_13_4_2H : Ann := { slots := [(0, .one (.own 268 (.slice (.int .i64)))), (1, .one (.fix (.clos 244))), (7, .one (.val (.int .i64))), (8, .one (.val (.int .i64)))], objs := [(268, .buf (.slice (.int .i64))), (244, .clos 14 [.fix (.pbox 44 0)]), (44, .box [.own 216 (.int .i64)]), (216, .buf (.int .i64))] }
def l25_13_4_2X : Ann := { slots := [], objs := [(268, .buf (.slice (.int .i64))), (244, .clos 14 [.fix (.pbox 44 0)]), (44, .box [.own 216 (.int .i64)]), (216, .buf (.int .i64))] }
def l25_13_4_2R : Ann := { slots := [(4, .one (.val (.int .i64)))], objs := [(268, .buf (.slice (.int .i64))), (244, .clos 14 [.fix (.pbox 44 0)]), (44, .box [.own 216 (.int .i64)]), (216, .buf (.int .i64))] }
def l4_15H : Ann := { slots := [(0, .one (.val (.int .i64))), (3, .one (.own 76 (.int .i64))), (7, .one (.own 268 (.slice (.int .i64)))), (33, .one (.val (.int .i64))), (34, .one (.val (.int .i64)))], objs := [(76, .buf (.int .i64)), (268, .buf (.slice (.int .i64)))] }
def l4_15X : Ann := { slots := [], objs := [(76, .buf (.int .i64))] }
def l4_15R : Ann := { slots := [(2, .one (.val .bool))], objs := [(76, .buf (.int .i64))] }
def l4_9 : Nat → Int → Int → Int → Option (LR l4_9X l4_9R)
  | 0, _, _, _ => none
  | m + 1, s5, s24, s25 =>
    if decide (s25 < s24) = true then
      l4_9 m (IntKind.i64.wrap (s5 * (IntKind.i64.wrap (s25 + 1)))) s24 (IntKind.i64.wrap (s25 + 1))
    else
      some (.exit (s5, ()))
def l4_9L : LSpec := { h := l4_9H, x := l4_9X, r := l4_9R, xid := 0, rt := false, pins := [], f := fun k d => l4_9 k d.1 d.2.1 d.2.2.1 }
def l4_19 : Nat → Int → Int → List Int → Option (LR l4_19X l4_19R)
  | 0, _, _, _ => none
  | m + 1, s8, s10, b188 =>
    if decide (s10 > 1) = true then
      if s10 = 0 then
        none
      else
        if (b188.length + 1) * 8 ≤ 140737488355328 then
          if s10 = 0 then
            none
          else
            l4_19 m (IntKind.i64.wrap (s8.tdiv s10)) (IntKind.i64.wrap (s10 - 1)) (b188 ++ [s8.tmod s10])
        else none
    else
      some (.exit (b188, ()))
def l4_19L : LSpec := { h := l4_19H, x := l4_19X, r := l4_19R, xid := 4, rt := false, pins := [], f := fun k d => l4_19 k d.1 d.2.1 d.2.2.1 }
def l25_13_4_2 : Nat → Int → Int → List (List Int) → List Int → Option (LR l25_13_4_2X l25_13_4_2R)
  | 0, _, _, _, _ => none
  | m + 1, s7, s8, b268, b216 =>
    if decide (s8 < s7) = true then
      if (0 : Int) ≤ s8 then
        if s8 < b268.length then
          (f10 fuel (b268.getD s8.toNat []) b216).bind fun r1 =>
          if r1 = true then
            some (.ret (s8, b268, b216, ()))
          else
            l25_13_4_2 m s7 (IntKind.i64.wrap (s8 + 1)) b268 b216
        else none
      else none
    else
      some (.exit (b268, b216, ()))
def l25_13_4_2L : LSpec := { h := l25_13_4_2H, x := l25_13_4_2X, r := l25_13_4_2R, xid := 0, rt := true, pins := [268, 244, 44, 216], f := fun k d => l25_13_4_2 k d.1 d.2.1 d.2.2.1 d.2.2.2.1 }
def l4_15 : Nat → Int → Int → Int → List Int → List (List Int) → Option (LR l4_15X l4_15R)
  | 0, _, _, _, _, _ => none
  | m + 1, s0, s33, s34, b76, b268 =>
    if decide (s34 < s33) = true then
      match l4_19 m s34 s0 [] with
      | none => none
      | some (.exit d1) =>
        (f7 fuel b76 d1.1).bind fun r2 =>
        if (r2.2 != 0) = false then
          match l25_13_4_2 m (b268.length : Int) 0 b268 r2.1 with
          | none => none
          | some (.exit d3) =>
            if (d3.1.length + 1) * 24 ≤ 140737488355328 then
              l4_15 m s0 s33 (IntKind.i64.wrap (s34 + 1)) b76 (d3.1 ++ [d3.2.1])
            else none
          | some (.ret d3) =>
            if decide (d3.1 ≥ 0) = true then
              some (.ret (false, b76, ()))
            else
              if (d3.2.1.length + 1) * 24 ≤ 140737488355328 then
                l4_15 m s0 s33 (IntKind.i64.wrap (s34 + 1)) b76 (d3.2.1 ++ [d3.2.2.1])
              else none
        else
          some (.ret (false, b76, ()))
      | some (.ret d1) =>
        none
    else
      some (.exit (b76, ()))
def l4_15L : LSpec := { h := l4_15H, x := l4_15X, r := l4_15R, xid := 2, rt := true, pins := [76], f := fun k d => l4_15 k d.1 d.2.1 d.2.2.1 d.2.2.2.1 d.2.2.2.2.1 }
def LL4 : Loops := [([4], [(9, l4_9L), (15, l4_15L), (19, l4_19L)]), ([25, 13, 4], [(2, l25_13_4_2L)])]
def f4 (k : Nat) (a0 : Int) : Option (Bool) :=
  (f6 fuel).bind fun r1 =>
  if (!r1) = true then
    some false
  else
    (f11 fuel a0 6).bind fun r2 =>
    (f12 fuel r2).bind fun r3 =>
    if (r3.2 != 0) = true then
      some false
    else
      match l4_9 k 1 r2 0 with
      | none => none
      | some (.exit d4) =>
        match l4_15 k r2 d4.1 0 r3.1 [] with
        | none => none
        | some (.exit d5) =>
          some true
        | some (.ret d5) =>
          some d5.1
      | some (.ret d4) =>
        none
theorem l4_9_step (m : Nat) (d : dens l4_9H.tys) : l4_9L.f (m + 1) d = round E4 LL4 m [4] 69 (loopN (bodyOf Tryd.f4) 0) l4_9L (l4_9L.f m) d := by kernel_rfl
theorem l4_19_step (m : Nat) (d : dens l4_19H.tys) : l4_19L.f (m + 1) d = round E4 LL4 m [4] 69 (loopN (bodyOf Tryd.f4) 2) l4_19L (l4_19L.f m) d := by kernel_rfl
theorem l25_13_4_2_step (m : Nat) (d : dens l25_13_4_2H.tys) : l25_13_4_2L.f (m + 1) d = round E4 LL4 m [25, 13, 4] 19 (loopN (bodyOf Tryd.f25) 0) l25_13_4_2L (l25_13_4_2L.f m) d := by kernel_rfl
theorem l4_15_step (m : Nat) (d : dens l4_15H.tys) : l4_15L.f (m + 1) d = round E4 LL4 m [4] 69 (loopN (bodyOf Tryd.f4) 1) l4_15L (l4_15L.f m) d := by kernel_rfl
theorem f4_run (k : Nat) (x : denL [.int .i64]) : runFn E4 LL4 k 4 Tryd.f4 [.int .i64] [.imm .bool] x = f4 k x := by kernel_rfl
noncomputable def S4 : Vm.Spec := { ps := [.int .i64], rs := [.imm .bool], f := fun x => f4 fuel x }
theorem f4_holds : Vm.Spec.holds Tryd.prog 4 S4 := by
  have hB : BodiesOk Tryd.prog E4 := bodies_ok (by exact ⟨by kernel_rfl, by kernel_rfl, by kernel_rfl, by kernel_rfl, by kernel_rfl, by kernel_rfl, trivial⟩)
  have hBS : BodiesStepped E4 LL4 := by
    refine bodies_stepped ?_
    exact ⟨(fun _ => stepped_noloop (by kernel_rfl)), (fun _ => stepped_noloop (by kernel_rfl)), (stepped_paths [[13, 4]] (by exact ⟨stepped_of (ls := [(2, l25_13_4_2L)]) rfl rfl ⟨by kernel_rfl, fun _ => rfl, l25_13_4_2_step, stepsI_end (by kernel_rfl)⟩,  trivial⟩) rfl),  trivial⟩
  have hS : SpecsOk Tryd.prog E4 := specs_ok (by exact ⟨⟨by kernel_rfl, f6_holds⟩, ⟨by kernel_rfl, f7_holds⟩, ⟨by kernel_rfl, f10_holds⟩, ⟨by kernel_rfl, f11_holds⟩, ⟨by kernel_rfl, f12_holds⟩, trivial⟩)
  have hE : EOk Tryd.prog E4 := eok_te ok
  exact fn_sound (L := LL4) hE hS hB (draws_ok hE hS (by kernel_rfl)) hBS (fn := Tryd.f4) (by kernel_rfl) (c := bodyOf Tryd.f4) (by kernel_rfl) (stepped_of (ls := [(9, l4_9L), (15, l4_15L), (19, l4_19L)]) rfl rfl ⟨by kernel_rfl, fun _ => rfl, l4_9_step, by kernel_rfl, fun _ => rfl, l4_15_step, by kernel_rfl, fun _ => rfl, l4_19_step, stepsI_end (by kernel_rfl)⟩) fun x r h => ⟨fuel, (f4_run fuel x).trans h⟩

/-! gamehall/gamehallkeep2.CardsCuts -/
noncomputable def E5 : Env := { te := te, spec := [(6, S6), (9, S9), (10, S10), (11, S11), (15, S15), (16, S16), (17, S17)], body := [] }
def l5_18H : Ann := { slots := [(15, .one (.val (.int .i64))), (19, .one (.own 480 (.int .i64))), (20, .one (.val (.int .i64))), (104, .one (.val (.slice (.slice (.int .i64))))), (105, .one (.val (.int .i64))), (106, .one (.val (.int .i64)))], objs := [(480, .buf (.int .i64))] }
def l5_18X : Ann := { slots := [(19, .one (.own 480 (.int .i64)))], objs := [(480, .buf (.int .i64))] }
def l5_18R : Ann := { slots := [(8, .one (.val .bool))], objs := [] }
def l5_15H : Ann := { slots := [(15, .one (.val (.int .i64))), (16, .one (.val (.slice (.slice (.int .i64))))), (19, .one (.own 480 (.int .i64))), (100, .one (.val (.int .i64))), (101, .one (.val (.int .i64)))], objs := [(480, .buf (.int .i64))] }
def l5_15X : Ann := { slots := [(19, .one (.own 480 (.int .i64)))], objs := [(480, .buf (.int .i64))] }
def l5_15R : Ann := { slots := [(8, .one (.val .bool))], objs := [] }
def l5_18 : Nat → Int → Int → List (List Int) → Int → Int → List Int → Option (LR l5_18X l5_18R)
  | 0, _, _, _, _, _, _ => none
  | m + 1, s15, s20, s104, s105, s106, b480 =>
    if decide (s106 < s105) = true then
      if (0 : Int) ≤ s106 then
        if s106 < s104.length then
          if (((s104.getD s106.toNat []).length : Int) != s15) = true then
            some (.ret (false, ()))
          else
            if (0 : Int) ≤ s20 then
              if s20 < (s104.getD s106.toNat []).length then
                if (b480.length + 1) * 8 ≤ 140737488355328 then
                  l5_18 m s15 s20 s104 s105 (IntKind.i64.wrap (s106 + 1)) (b480 ++ [(s104.getD s106.toNat []).getD s20.toNat 0])
                else none
              else none
            else none
        else none
      else none
    else
      some (.exit (b480, ()))
def l5_18L : LSpec := { h := l5_18H, x := l5_18X, r := l5_18R, xid := 2, rt := true, pins := [], f := fun k d => l5_18 k d.1 d.2.1 d.2.2.1 d.2.2.2.1 d.2.2.2.2.1 d.2.2.2.2.2.1 }
def l5_15 : Nat → Int → List (List Int) → Int → Int → List Int → Option (LR l5_15X l5_15R)
  | 0, _, _, _, _, _ => none
  | m + 1, s15, s16, s100, s101, b480 =>
    if decide (s101 < s100) = true then
      match l5_18 m s15 s101 s16 (s16.length : Int) 0 b480 with
      | none => none
      | some (.exit d1) =>
        l5_15 m s15 s16 s100 (IntKind.i64.wrap (s101 + 1)) d1.1
      | some (.ret d1) =>
        some (.ret (d1.1, ()))
    else
      some (.exit (b480, ()))
def l5_15L : LSpec := { h := l5_15H, x := l5_15X, r := l5_15R, xid := 0, rt := true, pins := [], f := fun k d => l5_15 k d.1 d.2.1 d.2.2.1 d.2.2.2.1 d.2.2.2.2.1 }
def LL5 : Loops := [([5], [(15, l5_15L), (18, l5_18L)])]
def f5 (k : Nat) (a0 : List Int) (a1 : Int) (a2 : Int) (a3 : Int) : Option (Bool) :=
  (f6 fuel).bind fun r1 =>
  if (!r1) = true then
    some false
  else
    (f15 fuel a0).bind fun r2 =>
    if (r2 != 0) = false then
      if ((a0.length : Int) == 0) = true then
        some true
      else
        (f11 fuel a1 (IntKind.i64.wrap ((a0.length : Int) + 1))).bind fun r3 =>
        (f11 fuel a2 (IntKind.i64.wrap ((a0.length : Int) + 1))).bind fun r4 =>
        (f11 fuel a3 6).bind fun r5 =>
        (f16 fuel a0 r3).bind fun r6 =>
        (f16 fuel r6.1 r4).bind fun r7 =>
        if (a0.length : Int) = 0 then
          none
        else
          (f16 fuel a0 ((IntKind.i64.wrap (r3 + r4)).tmod (a0.length : Int))).bind fun r8 =>
          if IntKind.i64.wrap (1 + r5) = 0 then
            none
          else
            (f17 fuel a0 (IntKind.i64.wrap (1 + r5)) (IntKind.i64.wrap ((a0.length : Int).tdiv (IntKind.i64.wrap (1 + r5))))).bind fun r9 =>
            (f9 fuel [r6.2, r7.2, r8.2, r9.2.2]).bind fun r10 =>
            if (!r10) = false then
              (f10 fuel r7.1 r8.1).bind fun r11 =>
              if (!r11) = false then
                if ((r9.1.length : Int) != IntKind.i64.wrap (1 + r5)) = true then
                  some false
                else
                  match l5_15 k (IntKind.i64.wrap ((a0.length : Int).tdiv (IntKind.i64.wrap (1 + r5)))) r9.1 (IntKind.i64.wrap ((a0.length : Int).tdiv (IntKind.i64.wrap (1 + r5)))) 0 [] with
                  | none => none
                  | some (.exit d12) =>
                    if (d12.1.length + r9.2.1.length) * 8 ≤ 140737488355328 then
                      (f10 fuel (d12.1 ++ r9.2.1) a0).bind fun r13 =>
                      some r13
                    else none
                  | some (.ret d12) =>
                    some d12.1
              else
                some false
            else
              some false
    else
      some true
theorem l5_18_step (m : Nat) (d : dens l5_18H.tys) : l5_18L.f (m + 1) d = round E5 LL5 m [5] 128 (loopN (bodyOf Tryd.f5) 1) l5_18L (l5_18L.f m) d := by kernel_rfl
theorem l5_15_step (m : Nat) (d : dens l5_15H.tys) : l5_15L.f (m + 1) d = round E5 LL5 m [5] 128 (loopN (bodyOf Tryd.f5) 0) l5_15L (l5_15L.f m) d := by kernel_rfl
theorem f5_run (k : Nat) (x : denL [.slice (.int .i64), .int .i64, .int .i64, .int .i64]) : runFn E5 LL5 k 5 Tryd.f5 [.slice (.int .i64), .int .i64, .int .i64, .int .i64] [.imm .bool] x = f5 k x.1 x.2.1 x.2.2.1 x.2.2.2 := by kernel_rfl
noncomputable def S5 : Vm.Spec := { ps := [.slice (.int .i64), .int .i64, .int .i64, .int .i64], rs := [.imm .bool], f := fun x => f5 fuel x.1 x.2.1 x.2.2.1 x.2.2.2 }
theorem f5_holds : Vm.Spec.holds Tryd.prog 5 S5 := by
  have hB : BodiesOk Tryd.prog E5 := bodies_none rfl
  have hBS : BodiesStepped E5 LL5 := bodies_stepped_none rfl
  have hS : SpecsOk Tryd.prog E5 := specs_ok (by exact ⟨⟨by kernel_rfl, f6_holds⟩, ⟨by kernel_rfl, f9_holds⟩, ⟨by kernel_rfl, f10_holds⟩, ⟨by kernel_rfl, f11_holds⟩, ⟨by kernel_rfl, f15_holds⟩, ⟨by kernel_rfl, f16_holds⟩, ⟨by kernel_rfl, f17_holds⟩, trivial⟩)
  have hE : EOk Tryd.prog E5 := eok_te ok
  exact fn_sound (L := LL5) hE hS hB (draws_ok hE hS (by kernel_rfl)) hBS (fn := Tryd.f5) (by kernel_rfl) (c := bodyOf Tryd.f5) (by kernel_rfl) (stepped_of (ls := [(15, l5_15L), (18, l5_18L)]) rfl rfl ⟨by kernel_rfl, fun _ => rfl, l5_15_step, by kernel_rfl, fun _ => rfl, l5_18_step, stepsI_end (by kernel_rfl)⟩) fun x r h => ⟨fuel, (f5_run fuel x).trans h⟩

end Go.Proofs.YtaahakhmcodaiaaDoor
