/- Pure functions, printed by a program of this session out of the program. -/
import Derived.Test.YtnlclnheakhncaaDoorVmD
import Derived.Test.YtnlclnheakhncaaDoorSh
set_option linter.unusedVariables false
namespace Go.Proofs.YtnlclnheakhncaaDoor
open Go Vm Go.Proofs
def te : TE := [(3, ⟨.int .i64, .sc, 8⟩),
  (4, ⟨.bool, .sc, 1⟩),
  (9, ⟨.str, .sc, 16⟩),
  (22, ⟨.slice (.slice (.int .i64)), .slice 26, 24⟩),
  (26, ⟨.slice (.int .i64), .slice 3, 24⟩),
  (27, ⟨.int .i64, .sc, 8⟩),
  (30, ⟨.opq, .ptr 70, 8⟩),
  (46, ⟨.int .u64, .sc, 8⟩),
  (61, ⟨.int .u64, .sc, 8⟩),
  (64, ⟨.slice (.int .i64), .slice 27, 24⟩),
  (67, ⟨.slice .bool, .slice 4, 24⟩),
  (68, ⟨.slice (.int .u64), .slice 46, 24⟩),
  (70, ⟨.pair (.int .i64) (.pair (.int .i64) (.pair (.slice .bool) (.pair (.slice .bool) (.pair (.slice (.int .u64)) (.pair (.slice (.slice (.int .i64))) (.int .i64)))))), .st [3, 3, 67, 67, 68, 22, 3], 120⟩),
  (75, ⟨.slice .str, .slice 9, 24⟩)]
theorem ok : EOk Tryd.prog ⟨te, [], []⟩ := eok_of (by kernel_rfl)
/-! slices.Index[[]int,int] -/
noncomputable def E_slices_Index_int : Env := { te := te, spec := [], body := [] }
def l_slices_Index_int_2H : Ann := { slots := [(0, .one (.val (.slice (.int .i64)))), (1, .one (.val (.int .i64))), (7, .one (.val (.int .i64))), (8, .one (.val (.int .i64)))], objs := [] }
def l_slices_Index_int_2X : Ann := { slots := [], objs := [] }
def l_slices_Index_int_2R : Ann := { slots := [(4, .one (.val (.int .i64)))], objs := [] }
def l_slices_Index_int_2 : Nat → List Int → Int → Int → Int → Option (LR l_slices_Index_int_2X l_slices_Index_int_2R)
  | 0, _, _, _, _ => none
  | m + 1, s0, s1, s7, s8 =>
    if decide (s8 < s7) = true then
      if (0 : Int) ≤ s8 then
        if s8 < s0.length then
          if (s1 == s0.getD s8.toNat 0) = true then
            some (.ret (s8, ()))
          else
            l_slices_Index_int_2 m s0 s1 s7 (IntKind.i64.wrap (s8 + 1))
        else none
      else none
    else
      some (.exit ())
def l_slices_Index_int_2L : LSpec := { h := l_slices_Index_int_2H, x := l_slices_Index_int_2X, r := l_slices_Index_int_2R, xid := 0, rt := true, pins := [], f := fun k d => l_slices_Index_int_2 k d.1 d.2.1 d.2.2.1 d.2.2.2.1 }
def LL_slices_Index_int : Loops := [([40], [(2, l_slices_Index_int_2L)])]
def f_slices_Index_int (k : Nat) (a0 : List Int) (a1 : Int) : Option (Int) :=
  match l_slices_Index_int_2 k a0 a1 (a0.length : Int) 0 with
  | none => none
  | some (.exit d1) =>
    some (-1)
  | some (.ret d1) =>
    some d1.1
theorem l_slices_Index_int_2_step (m : Nat) (d : dens l_slices_Index_int_2H.tys) : l_slices_Index_int_2L.f (m + 1) d = round E_slices_Index_int LL_slices_Index_int m [40] 19 (loopN (bodyOf Tryd.f40) 0) l_slices_Index_int_2L (l_slices_Index_int_2L.f m) d := by kernel_rfl
theorem f_slices_Index_int_run (k : Nat) (x : denL [.slice (.int .i64), .int .i64]) : runFn E_slices_Index_int LL_slices_Index_int k 40 Tryd.f40 [.slice (.int .i64), .int .i64] [.imm (.int .i64)] x = f_slices_Index_int k x.1 x.2 := by kernel_rfl
noncomputable def S_slices_Index_int : Vm.Spec := { ps := [.slice (.int .i64), .int .i64], rs := [.imm (.int .i64)], f := fun x => f_slices_Index_int fuel x.1 x.2 }
theorem f_slices_Index_int_holds : Vm.Spec.holds Tryd.prog 40 S_slices_Index_int := by
  have hB : BodiesOk Tryd.prog E_slices_Index_int := bodies_none rfl
  have hBS : BodiesStepped E_slices_Index_int LL_slices_Index_int := bodies_stepped_none rfl
  have hS : SpecsOk Tryd.prog E_slices_Index_int := specs_ok (by exact trivial)
  have hE : EOk Tryd.prog E_slices_Index_int := eok_te ok
  exact fn_sound (L := LL_slices_Index_int) hE hS hB (draws_ok hE hS (by kernel_rfl)) hBS (fn := Tryd.f40) (by kernel_rfl) (c := bodyOf Tryd.f40) (by kernel_rfl) (stepped_of (ls := [(2, l_slices_Index_int_2L)]) rfl rfl ⟨by kernel_rfl, fun _ => rfl, l_slices_Index_int_2_step, stepsI_end (by kernel_rfl)⟩) fun x r h => ⟨fuel, (f_slices_Index_int_run fuel x).trans h⟩

/-! slices.Contains[[]int,int] -/
noncomputable def E_slices_Contains_int : Env := { te := te, spec := [(40, S_slices_Index_int)], body := [] }
def LL_slices_Contains_int : Loops := []
def f_slices_Contains_int (k : Nat) (a0 : List Int) (a1 : Int) : Option (Bool) :=
  (f_slices_Index_int fuel a0 a1).bind fun r1 =>
  some (decide (r1 ≥ 0))
theorem f_slices_Contains_int_run (k : Nat) (x : denL [.slice (.int .i64), .int .i64]) : runFn E_slices_Contains_int LL_slices_Contains_int k 47 Tryd.f47 [.slice (.int .i64), .int .i64] [.imm .bool] x = f_slices_Contains_int k x.1 x.2 := by kernel_rfl
noncomputable def S_slices_Contains_int : Vm.Spec := { ps := [.slice (.int .i64), .int .i64], rs := [.imm .bool], f := fun x => f_slices_Contains_int fuel x.1 x.2 }
theorem f_slices_Contains_int_holds : Vm.Spec.holds Tryd.prog 47 S_slices_Contains_int := by
  have hB : BodiesOk Tryd.prog E_slices_Contains_int := bodies_none rfl
  have hBS : BodiesStepped E_slices_Contains_int LL_slices_Contains_int := bodies_stepped_none rfl
  have hS : SpecsOk Tryd.prog E_slices_Contains_int := specs_ok (by exact ⟨⟨by kernel_rfl, f_slices_Index_int_holds⟩, trivial⟩)
  have hE : EOk Tryd.prog E_slices_Contains_int := eok_te ok
  exact fn_sound (L := LL_slices_Contains_int) hE hS hB (draws_ok hE hS (by kernel_rfl)) hBS (fn := Tryd.f47) (by kernel_rfl) (c := bodyOf Tryd.f47) (by kernel_rfl) (stepped_none rfl) fun x r h => ⟨fuel, (f_slices_Contains_int_run fuel x).trans h⟩

/-! slices.Index[[]bool,bool] -/
noncomputable def E_slices_Index_bool : Env := { te := te, spec := [], body := [] }
def l_slices_Index_bool_2H : Ann := { slots := [(0, .one (.val (.slice .bool))), (1, .one (.val .bool)), (7, .one (.val (.int .i64))), (8, .one (.val (.int .i64)))], objs := [] }
def l_slices_Index_bool_2X : Ann := { slots := [], objs := [] }
def l_slices_Index_bool_2R : Ann := { slots := [(4, .one (.val (.int .i64)))], objs := [] }
def l_slices_Index_bool_2 : Nat → List Bool → Bool → Int → Int → Option (LR l_slices_Index_bool_2X l_slices_Index_bool_2R)
  | 0, _, _, _, _ => none
  | m + 1, s0, s1, s7, s8 =>
    if decide (s8 < s7) = true then
      if (0 : Int) ≤ s8 then
        if s8 < s0.length then
          if (s1 == s0.getD s8.toNat false) = true then
            some (.ret (s8, ()))
          else
            l_slices_Index_bool_2 m s0 s1 s7 (IntKind.i64.wrap (s8 + 1))
        else none
      else none
    else
      some (.exit ())
def l_slices_Index_bool_2L : LSpec := { h := l_slices_Index_bool_2H, x := l_slices_Index_bool_2X, r := l_slices_Index_bool_2R, xid := 0, rt := true, pins := [], f := fun k d => l_slices_Index_bool_2 k d.1 d.2.1 d.2.2.1 d.2.2.2.1 }
def LL_slices_Index_bool : Loops := [([49], [(2, l_slices_Index_bool_2L)])]
def f_slices_Index_bool (k : Nat) (a0 : List Bool) (a1 : Bool) : Option (Int) :=
  match l_slices_Index_bool_2 k a0 a1 (a0.length : Int) 0 with
  | none => none
  | some (.exit d1) =>
    some (-1)
  | some (.ret d1) =>
    some d1.1
theorem l_slices_Index_bool_2_step (m : Nat) (d : dens l_slices_Index_bool_2H.tys) : l_slices_Index_bool_2L.f (m + 1) d = round E_slices_Index_bool LL_slices_Index_bool m [49] 19 (loopN (bodyOf Tryd.f49) 0) l_slices_Index_bool_2L (l_slices_Index_bool_2L.f m) d := by kernel_rfl
theorem f_slices_Index_bool_run (k : Nat) (x : denL [.slice .bool, .bool]) : runFn E_slices_Index_bool LL_slices_Index_bool k 49 Tryd.f49 [.slice .bool, .bool] [.imm (.int .i64)] x = f_slices_Index_bool k x.1 x.2 := by kernel_rfl
noncomputable def S_slices_Index_bool : Vm.Spec := { ps := [.slice .bool, .bool], rs := [.imm (.int .i64)], f := fun x => f_slices_Index_bool fuel x.1 x.2 }
theorem f_slices_Index_bool_holds : Vm.Spec.holds Tryd.prog 49 S_slices_Index_bool := by
  have hB : BodiesOk Tryd.prog E_slices_Index_bool := bodies_none rfl
  have hBS : BodiesStepped E_slices_Index_bool LL_slices_Index_bool := bodies_stepped_none rfl
  have hS : SpecsOk Tryd.prog E_slices_Index_bool := specs_ok (by exact trivial)
  have hE : EOk Tryd.prog E_slices_Index_bool := eok_te ok
  exact fn_sound (L := LL_slices_Index_bool) hE hS hB (draws_ok hE hS (by kernel_rfl)) hBS (fn := Tryd.f49) (by kernel_rfl) (c := bodyOf Tryd.f49) (by kernel_rfl) (stepped_of (ls := [(2, l_slices_Index_bool_2L)]) rfl rfl ⟨by kernel_rfl, fun _ => rfl, l_slices_Index_bool_2_step, stepsI_end (by kernel_rfl)⟩) fun x r h => ⟨fuel, (f_slices_Index_bool_run fuel x).trans h⟩

/-! slices.Contains[[]bool,bool] -/
noncomputable def E_slices_Contains_bool : Env := { te := te, spec := [(49, S_slices_Index_bool)], body := [] }
def LL_slices_Contains_bool : Loops := []
def f_slices_Contains_bool (k : Nat) (a0 : List Bool) (a1 : Bool) : Option (Bool) :=
  (f_slices_Index_bool fuel a0 a1).bind fun r1 =>
  some (decide (r1 ≥ 0))
theorem f_slices_Contains_bool_run (k : Nat) (x : denL [.slice .bool, .bool]) : runFn E_slices_Contains_bool LL_slices_Contains_bool k 39 Tryd.f39 [.slice .bool, .bool] [.imm .bool] x = f_slices_Contains_bool k x.1 x.2 := by kernel_rfl
noncomputable def S_slices_Contains_bool : Vm.Spec := { ps := [.slice .bool, .bool], rs := [.imm .bool], f := fun x => f_slices_Contains_bool fuel x.1 x.2 }
theorem f_slices_Contains_bool_holds : Vm.Spec.holds Tryd.prog 39 S_slices_Contains_bool := by
  have hB : BodiesOk Tryd.prog E_slices_Contains_bool := bodies_none rfl
  have hBS : BodiesStepped E_slices_Contains_bool LL_slices_Contains_bool := bodies_stepped_none rfl
  have hS : SpecsOk Tryd.prog E_slices_Contains_bool := specs_ok (by exact ⟨⟨by kernel_rfl, f_slices_Index_bool_holds⟩, trivial⟩)
  have hE : EOk Tryd.prog E_slices_Contains_bool := eok_te ok
  exact fn_sound (L := LL_slices_Contains_bool) hE hS hB (draws_ok hE hS (by kernel_rfl)) hBS (fn := Tryd.f39) (by kernel_rfl) (c := bodyOf Tryd.f39) (by kernel_rfl) (stepped_none rfl) fun x r h => ⟨fuel, (f_slices_Contains_bool_run fuel x).trans h⟩

/-! slices.Clone[[]int,int] -/
noncomputable def E_slices_Clone_int : Env := { te := te, spec := [], body := [] }
def LL_slices_Clone_int : Loops := []
def f_slices_Clone_int (k : Nat) (a0 : Option (List Int)) : Option (List Int) :=
  if a0.isNone = true then
    some []
  else
    if (0 + (a0.getD []).length) * 8 ≤ 140737488355328 then
      some ([] ++ (a0.getD []))
    else none
theorem f_slices_Clone_int_run (k : Nat) (x : denL [.nsl (.int .i64)]) : runFn E_slices_Clone_int LL_slices_Clone_int k 35 Tryd.f35 [.nsl (.int .i64)] [.fresh (.int .i64)] x = f_slices_Clone_int k x := by kernel_rfl
noncomputable def S_slices_Clone_int : Vm.Spec := { ps := [.nsl (.int .i64)], rs := [.fresh (.int .i64)], f := fun x => f_slices_Clone_int fuel x }
theorem f_slices_Clone_int_holds : Vm.Spec.holds Tryd.prog 35 S_slices_Clone_int := by
  have hB : BodiesOk Tryd.prog E_slices_Clone_int := bodies_none rfl
  have hBS : BodiesStepped E_slices_Clone_int LL_slices_Clone_int := bodies_stepped_none rfl
  have hS : SpecsOk Tryd.prog E_slices_Clone_int := specs_ok (by exact trivial)
  have hE : EOk Tryd.prog E_slices_Clone_int := eok_te ok
  exact fn_sound (L := LL_slices_Clone_int) hE hS hB (draws_ok hE hS (by kernel_rfl)) hBS (fn := Tryd.f35) (by kernel_rfl) (c := bodyOf Tryd.f35) (by kernel_rfl) (stepped_none rfl) fun x r h => ⟨fuel, (f_slices_Clone_int_run fuel x).trans h⟩

def f_slices_Clone_ints (x : List Int) := f_slices_Clone_int fuel (some x)
noncomputable def S_slices_Clone_ints : Vm.Spec := { ps := [.slice (.int .i64)], rs := [.fresh (.int .i64)], f := f_slices_Clone_ints }
theorem f_slices_Clone_ints_holds : Vm.Spec.holds Tryd.prog 35 S_slices_Clone_ints := holds_nsl f_slices_Clone_int_holds fun xs r h => ⟨h, fun e => by subst e; exact h⟩

/-! slices.Equal[[]int,int] -/
noncomputable def E_slices_Equal_int : Env := { te := te, spec := [], body := [] }
def l_slices_Equal_int_4H : Ann := { slots := [(0, .one (.val (.slice (.int .i64)))), (1, .one (.val (.slice (.int .i64)))), (12, .one (.val (.int .i64))), (13, .one (.val (.int .i64)))], objs := [] }
def l_slices_Equal_int_4X : Ann := { slots := [], objs := [] }
def l_slices_Equal_int_4R : Ann := { slots := [(4, .one (.val .bool))], objs := [] }
def l_slices_Equal_int_4 : Nat → List Int → List Int → Int → Int → Option (LR l_slices_Equal_int_4X l_slices_Equal_int_4R)
  | 0, _, _, _, _ => none
  | m + 1, s0, s1, s12, s13 =>
    if decide (s13 < s12) = true then
      if (0 : Int) ≤ s13 then
        if s13 < s0.length then
          if (0 : Int) ≤ s13 then
            if s13 < s1.length then
              if (s0.getD s13.toNat 0 != s1.getD s13.toNat 0) = true then
                some (.ret (false, ()))
              else
                l_slices_Equal_int_4 m s0 s1 s12 (IntKind.i64.wrap (s13 + 1))
            else none
          else none
        else none
      else none
    else
      some (.exit ())
def l_slices_Equal_int_4L : LSpec := { h := l_slices_Equal_int_4H, x := l_slices_Equal_int_4X, r := l_slices_Equal_int_4R, xid := 0, rt := true, pins := [], f := fun k d => l_slices_Equal_int_4 k d.1 d.2.1 d.2.2.1 d.2.2.2.1 }
def LL_slices_Equal_int : Loops := [([18], [(4, l_slices_Equal_int_4L)])]
def f_slices_Equal_int (k : Nat) (a0 : List Int) (a1 : List Int) : Option (Bool) :=
  if ((a0.length : Int) != (a1.length : Int)) = true then
    some false
  else
    match l_slices_Equal_int_4 k a0 a1 (a0.length : Int) 0 with
    | none => none
    | some (.exit d1) =>
      some true
    | some (.ret d1) =>
      some d1.1
theorem l_slices_Equal_int_4_step (m : Nat) (d : dens l_slices_Equal_int_4H.tys) : l_slices_Equal_int_4L.f (m + 1) d = round E_slices_Equal_int LL_slices_Equal_int m [18] 26 (loopN (bodyOf Tryd.f18) 0) l_slices_Equal_int_4L (l_slices_Equal_int_4L.f m) d := by kernel_rfl
theorem f_slices_Equal_int_run (k : Nat) (x : denL [.slice (.int .i64), .slice (.int .i64)]) : runFn E_slices_Equal_int LL_slices_Equal_int k 18 Tryd.f18 [.slice (.int .i64), .slice (.int .i64)] [.imm .bool] x = f_slices_Equal_int k x.1 x.2 := by kernel_rfl
noncomputable def S_slices_Equal_int : Vm.Spec := { ps := [.slice (.int .i64), .slice (.int .i64)], rs := [.imm .bool], f := fun x => f_slices_Equal_int fuel x.1 x.2 }
theorem f_slices_Equal_int_holds : Vm.Spec.holds Tryd.prog 18 S_slices_Equal_int := by
  have hB : BodiesOk Tryd.prog E_slices_Equal_int := bodies_none rfl
  have hBS : BodiesStepped E_slices_Equal_int LL_slices_Equal_int := bodies_stepped_none rfl
  have hS : SpecsOk Tryd.prog E_slices_Equal_int := specs_ok (by exact trivial)
  have hE : EOk Tryd.prog E_slices_Equal_int := eok_te ok
  exact fn_sound (L := LL_slices_Equal_int) hE hS hB (draws_ok hE hS (by kernel_rfl)) hBS (fn := Tryd.f18) (by kernel_rfl) (c := bodyOf Tryd.f18) (by kernel_rfl) (stepped_of (ls := [(4, l_slices_Equal_int_4L)]) rfl rfl ⟨by kernel_rfl, fun _ => rfl, l_slices_Equal_int_4_step, stepsI_end (by kernel_rfl)⟩) fun x r h => ⟨fuel, (f_slices_Equal_int_run fuel x).trans h⟩

/-! gamehall/gamehallkeep2.fine -/
noncomputable def E_gamehallkeep2_fine : Env := { te := te, spec := [], body := [(36, Tryd.f36), (37, Tryd.f37), (48, Tryd.f48)] }
def l_slices_IndexFunc_Errno__slices_ContainsFunc_Errno__gamehallkeep2_fine_2H : Ann := { slots := [(0, .one (.val (.slice (.int .i64)))), (1, .one (.fix (.func 37))), (7, .one (.val (.int .i64))), (8, .one (.val (.int .i64)))], objs := [] }
def l_slices_IndexFunc_Errno__slices_ContainsFunc_Errno__gamehallkeep2_fine_2X : Ann := { slots := [], objs := [] }
def l_slices_IndexFunc_Errno__slices_ContainsFunc_Errno__gamehallkeep2_fine_2R : Ann := { slots := [(4, .one (.val (.int .i64)))], objs := [] }
def l_slices_IndexFunc_Errno__slices_ContainsFunc_Errno__gamehallkeep2_fine_2 : Nat → List Int → Int → Int → Option (LR l_slices_IndexFunc_Errno__slices_ContainsFunc_Errno__gamehallkeep2_fine_2X l_slices_IndexFunc_Errno__slices_ContainsFunc_Errno__gamehallkeep2_fine_2R)
  | 0, _, _, _ => none
  | m + 1, s0, s7, s8 =>
    if decide (s8 < s7) = true then
      if (0 : Int) ≤ s8 then
        if s8 < s0.length then
          if (s0.getD s8.toNat 0 != 0) = true then
            some (.ret (s8, ()))
          else
            l_slices_IndexFunc_Errno__slices_ContainsFunc_Errno__gamehallkeep2_fine_2 m s0 s7 (IntKind.i64.wrap (s8 + 1))
        else none
      else none
    else
      some (.exit ())
def l_slices_IndexFunc_Errno__slices_ContainsFunc_Errno__gamehallkeep2_fine_2L : LSpec := { h := l_slices_IndexFunc_Errno__slices_ContainsFunc_Errno__gamehallkeep2_fine_2H, x := l_slices_IndexFunc_Errno__slices_ContainsFunc_Errno__gamehallkeep2_fine_2X, r := l_slices_IndexFunc_Errno__slices_ContainsFunc_Errno__gamehallkeep2_fine_2R, xid := 0, rt := true, pins := [], f := fun k d => l_slices_IndexFunc_Errno__slices_ContainsFunc_Errno__gamehallkeep2_fine_2 k d.1 d.2.1 d.2.2.1 }
def LL_gamehallkeep2_fine : Loops := [([48, 36, 16], [(2, l_slices_IndexFunc_Errno__slices_ContainsFunc_Errno__gamehallkeep2_fine_2L)])]
def f_gamehallkeep2_fine (k : Nat) (a0 : List Int) : Option (Bool) :=
  match l_slices_IndexFunc_Errno__slices_ContainsFunc_Errno__gamehallkeep2_fine_2 k a0 (a0.length : Int) 0 with
  | none => none
  | some (.exit d1) =>
    some true
  | some (.ret d1) =>
    some (!(decide (d1.1 ≥ 0)))
theorem l_slices_IndexFunc_Errno__slices_ContainsFunc_Errno__gamehallkeep2_fine_2_step (m : Nat) (d : dens l_slices_IndexFunc_Errno__slices_ContainsFunc_Errno__gamehallkeep2_fine_2H.tys) : l_slices_IndexFunc_Errno__slices_ContainsFunc_Errno__gamehallkeep2_fine_2L.f (m + 1) d = round E_gamehallkeep2_fine LL_gamehallkeep2_fine m [48, 36, 16] 19 (loopN (bodyOf Tryd.f48) 0) l_slices_IndexFunc_Errno__slices_ContainsFunc_Errno__gamehallkeep2_fine_2L (l_slices_IndexFunc_Errno__slices_ContainsFunc_Errno__gamehallkeep2_fine_2L.f m) d := by kernel_rfl
theorem f_gamehallkeep2_fine_run (k : Nat) (x : denL [.slice (.int .i64)]) : runFn E_gamehallkeep2_fine LL_gamehallkeep2_fine k 16 Tryd.f16 [.slice (.int .i64)] [.imm .bool] x = f_gamehallkeep2_fine k x := by kernel_rfl
noncomputable def S_gamehallkeep2_fine : Vm.Spec := { ps := [.slice (.int .i64)], rs := [.imm .bool], f := fun x => f_gamehallkeep2_fine fuel x }
theorem f_gamehallkeep2_fine_holds : Vm.Spec.holds Tryd.prog 16 S_gamehallkeep2_fine := by
  have hB : BodiesOk Tryd.prog E_gamehallkeep2_fine := bodies_ok (by exact ⟨by kernel_rfl, by kernel_rfl, by kernel_rfl, by kernel_rfl, by kernel_rfl, by kernel_rfl, trivial⟩)
  have hBS : BodiesStepped E_gamehallkeep2_fine LL_gamehallkeep2_fine := by
    refine bodies_stepped ?_
    exact ⟨(fun _ => stepped_noloop (by kernel_rfl)), (fun _ => stepped_noloop (by kernel_rfl)), (stepped_paths [[36, 16]] (by exact ⟨stepped_of (ls := [(2, l_slices_IndexFunc_Errno__slices_ContainsFunc_Errno__gamehallkeep2_fine_2L)]) rfl rfl ⟨by kernel_rfl, fun _ => rfl, l_slices_IndexFunc_Errno__slices_ContainsFunc_Errno__gamehallkeep2_fine_2_step, stepsI_end (by kernel_rfl)⟩,  trivial⟩) rfl),  trivial⟩
  have hS : SpecsOk Tryd.prog E_gamehallkeep2_fine := specs_ok (by exact trivial)
  have hE : EOk Tryd.prog E_gamehallkeep2_fine := eok_te ok
  exact fn_sound (L := LL_gamehallkeep2_fine) hE hS hB (draws_ok hE hS (by kernel_rfl)) hBS (fn := Tryd.f16) (by kernel_rfl) (c := bodyOf Tryd.f16) (by kernel_rfl) (stepped_none rfl) fun x r h => ⟨fuel, (f_gamehallkeep2_fine_run fuel x).trans h⟩

/-! gamehall/gamehallkeep2.pick -/
noncomputable def E_gamehallkeep2_pick : Env := { te := te, spec := [], body := [] }
def LL_gamehallkeep2_pick : Loops := []
def f_gamehallkeep2_pick (k : Nat) (a0 : Int) (a1 : Int) : Option (Int) :=
  if IntKind.u64.wrap (a1) = 0 then
    none
  else
    some (IntKind.i64.wrap ((IntKind.u64.wrap (a0)).tmod (IntKind.u64.wrap (a1))))
theorem f_gamehallkeep2_pick_run (k : Nat) (x : denL [.int .i64, .int .i64]) : runFn E_gamehallkeep2_pick LL_gamehallkeep2_pick k 8 Tryd.f8 [.int .i64, .int .i64] [.imm (.int .i64)] x = f_gamehallkeep2_pick k x.1 x.2 := by kernel_rfl
noncomputable def S_gamehallkeep2_pick : Vm.Spec := { ps := [.int .i64, .int .i64], rs := [.imm (.int .i64)], f := fun x => f_gamehallkeep2_pick fuel x.1 x.2 }
theorem f_gamehallkeep2_pick_holds : Vm.Spec.holds Tryd.prog 8 S_gamehallkeep2_pick := by
  have hB : BodiesOk Tryd.prog E_gamehallkeep2_pick := bodies_none rfl
  have hBS : BodiesStepped E_gamehallkeep2_pick LL_gamehallkeep2_pick := bodies_stepped_none rfl
  have hS : SpecsOk Tryd.prog E_gamehallkeep2_pick := specs_ok (by exact trivial)
  have hE : EOk Tryd.prog E_gamehallkeep2_pick := eok_te ok
  exact fn_sound (L := LL_gamehallkeep2_pick) hE hS hB (draws_ok hE hS (by kernel_rfl)) hBS (fn := Tryd.f8) (by kernel_rfl) (c := bodyOf Tryd.f8) (by kernel_rfl) (stepped_none rfl) fun x r h => ⟨fuel, (f_gamehallkeep2_pick_run fuel x).trans h⟩

/-! gamehall/cards.Check -/
noncomputable def E_cards_Check : Env := { te := te, spec := [(47, S_slices_Contains_int)], body := [] }
def l_cards_Check_4H : Ann := { slots := [(0, .one (.val (.slice (.int .i64)))), (8, .one (.val (.slice (.int .i64)))), (9, .one (.val (.int .i64))), (10, .one (.val (.int .i64)))], objs := [] }
def l_cards_Check_4X : Ann := { slots := [], objs := [] }
def l_cards_Check_4R : Ann := { slots := [(2, .one (.val (.int .i64)))], objs := [] }
def l_cards_Check_4 : Nat → List Int → List Int → Int → Int → Option (LR l_cards_Check_4X l_cards_Check_4R)
  | 0, _, _, _, _ => none
  | m + 1, s0, s8, s9, s10 =>
    if decide (s10 < s9) = true then
      if (0 : Int) ≤ s10 then
        if s10 < s8.length then
          if decide (s8.getD s10.toNat 0 < 0) = false then
            if decide (s8.getD s10.toNat 0 ≥ 52) = true then
              some (.ret (4, ()))
            else
              if (0 : Int) ≤ s10 then
                if s10 ≤ s0.length then
                  (f_slices_Contains_int fuel ((s0.take s10.toNat).drop 0) (s8.getD s10.toNat 0)).bind fun r1 =>
                  if r1 = true then
                    some (.ret (7, ()))
                  else
                    l_cards_Check_4 m s0 s8 s9 (IntKind.i64.wrap (s10 + 1))
                else none
              else none
          else
            some (.ret (4, ()))
        else none
      else none
    else
      some (.exit ())
def l_cards_Check_4L : LSpec := { h := l_cards_Check_4H, x := l_cards_Check_4X, r := l_cards_Check_4R, xid := 0, rt := true, pins := [], f := fun k d => l_cards_Check_4 k d.1 d.2.1 d.2.2.1 d.2.2.2.1 }
def LL_cards_Check : Loops := [([33], [(4, l_cards_Check_4L)])]
def f_cards_Check (k : Nat) (a0 : List Int) : Option (Int) :=
  if decide ((a0.length : Int) > 52) = true then
    some 2
  else
    match l_cards_Check_4 k a0 a0 (a0.length : Int) 0 with
    | none => none
    | some (.exit d1) =>
      some 0
    | some (.ret d1) =>
      some d1.1
theorem l_cards_Check_4_step (m : Nat) (d : dens l_cards_Check_4H.tys) : l_cards_Check_4L.f (m + 1) d = round E_cards_Check LL_cards_Check m [33] 27 (loopN (bodyOf Tryd.f33) 0) l_cards_Check_4L (l_cards_Check_4L.f m) d := by kernel_rfl
theorem f_cards_Check_run (k : Nat) (x : denL [.slice (.int .i64)]) : runFn E_cards_Check LL_cards_Check k 33 Tryd.f33 [.slice (.int .i64)] [.imm (.int .i64)] x = f_cards_Check k x := by kernel_rfl
noncomputable def S_cards_Check : Vm.Spec := { ps := [.slice (.int .i64)], rs := [.imm (.int .i64)], f := fun x => f_cards_Check fuel x }
theorem f_cards_Check_holds : Vm.Spec.holds Tryd.prog 33 S_cards_Check := by
  have hB : BodiesOk Tryd.prog E_cards_Check := bodies_none rfl
  have hBS : BodiesStepped E_cards_Check LL_cards_Check := bodies_stepped_none rfl
  have hS : SpecsOk Tryd.prog E_cards_Check := specs_ok (by exact ⟨⟨by kernel_rfl, f_slices_Contains_int_holds⟩, trivial⟩)
  have hE : EOk Tryd.prog E_cards_Check := eok_te ok
  exact fn_sound (L := LL_cards_Check) hE hS hB (draws_ok hE hS (by kernel_rfl)) hBS (fn := Tryd.f33) (by kernel_rfl) (c := bodyOf Tryd.f33) (by kernel_rfl) (stepped_of (ls := [(4, l_cards_Check_4L)]) rfl rfl ⟨by kernel_rfl, fun _ => rfl, l_cards_Check_4_step, stepsI_end (by kernel_rfl)⟩) fun x r h => ⟨fuel, (f_cards_Check_run fuel x).trans h⟩

/-! gamehall/cards.Fits -/
noncomputable def E_cards_Fits : Env := { te := te, spec := [], body := [] }
def l_cards_Fits_4H : Ann := { slots := [(0, .one (.val (.int .i64))), (13, .one (.val (.slice (.int .i64)))), (14, .one (.val (.int .i64))), (15, .one (.val (.int .i64)))], objs := [] }
def l_cards_Fits_4X : Ann := { slots := [], objs := [] }
def l_cards_Fits_4R : Ann := { slots := [(4, .one (.val (.int .i64)))], objs := [] }
def l_cards_Fits_4 : Nat → Int → List Int → Int → Int → Option (LR l_cards_Fits_4X l_cards_Fits_4R)
  | 0, _, _, _, _ => none
  | m + 1, s0, s13, s14, s15 =>
    if decide (s15 < s14) = true then
      if (0 : Int) ≤ s15 then
        if s15 < s13.length then
          if decide (s13.getD s15.toNat 0 < 0) = false then
            if decide (s13.getD s15.toNat 0 > IntKind.i64.wrap ((IntKind.i64.wrap (s0 - 1)) - s15)) = true then
              some (.ret (4, ()))
            else
              l_cards_Fits_4 m s0 s13 s14 (IntKind.i64.wrap (s15 + 1))
          else
            some (.ret (4, ()))
        else none
      else none
    else
      some (.exit ())
def l_cards_Fits_4L : LSpec := { h := l_cards_Fits_4H, x := l_cards_Fits_4X, r := l_cards_Fits_4R, xid := 0, rt := true, pins := [], f := fun k d => l_cards_Fits_4 k d.1 d.2.1 d.2.2.1 d.2.2.2.1 }
def LL_cards_Fits : Loops := [([11], [(4, l_cards_Fits_4L)])]
def f_cards_Fits (k : Nat) (a0 : Int) (a1 : List Int) : Option (Int) :=
  if ((a1.length : Int) != (if IntKind.i64.wrap (a0 - 1) > 0 then IntKind.i64.wrap (a0 - 1) else 0)) = true then
    some 3
  else
    match l_cards_Fits_4 k a0 a1 (a1.length : Int) 0 with
    | none => none
    | some (.exit d1) =>
      some 0
    | some (.ret d1) =>
      some d1.1
theorem l_cards_Fits_4_step (m : Nat) (d : dens l_cards_Fits_4H.tys) : l_cards_Fits_4L.f (m + 1) d = round E_cards_Fits LL_cards_Fits m [11] 31 (loopN (bodyOf Tryd.f11) 0) l_cards_Fits_4L (l_cards_Fits_4L.f m) d := by kernel_rfl
theorem f_cards_Fits_run (k : Nat) (x : denL [.int .i64, .slice (.int .i64)]) : runFn E_cards_Fits LL_cards_Fits k 11 Tryd.f11 [.int .i64, .slice (.int .i64)] [.imm (.int .i64)] x = f_cards_Fits k x.1 x.2 := by kernel_rfl
noncomputable def S_cards_Fits : Vm.Spec := { ps := [.int .i64, .slice (.int .i64)], rs := [.imm (.int .i64)], f := fun x => f_cards_Fits fuel x.1 x.2 }
theorem f_cards_Fits_holds : Vm.Spec.holds Tryd.prog 11 S_cards_Fits := by
  have hB : BodiesOk Tryd.prog E_cards_Fits := bodies_none rfl
  have hBS : BodiesStepped E_cards_Fits LL_cards_Fits := bodies_stepped_none rfl
  have hS : SpecsOk Tryd.prog E_cards_Fits := specs_ok (by exact trivial)
  have hE : EOk Tryd.prog E_cards_Fits := eok_te ok
  exact fn_sound (L := LL_cards_Fits) hE hS hB (draws_ok hE hS (by kernel_rfl)) hBS (fn := Tryd.f11) (by kernel_rfl) (c := bodyOf Tryd.f11) (by kernel_rfl) (stepped_of (ls := [(4, l_cards_Fits_4L)]) rfl rfl ⟨by kernel_rfl, fun _ => rfl, l_cards_Fits_4_step, stepsI_end (by kernel_rfl)⟩) fun x r h => ⟨fuel, (f_cards_Fits_run fuel x).trans h⟩

/-! gamehall/cards.Fresh -/
noncomputable def E_cards_Fresh : Env := { te := te, spec := [], body := [] }
def l_cards_Fresh_5H : Ann := { slots := [(4, .one (.own 76 (.int .i64))), (12, .one (.val (.int .i64))), (13, .one (.val (.int .i64)))], objs := [(76, .buf (.int .i64))] }
def l_cards_Fresh_5X : Ann := { slots := [(4, .one (.own 76 (.int .i64)))], objs := [(76, .buf (.int .i64))] }
def l_cards_Fresh_5R : Ann := { slots := [], objs := [] }
def l_cards_Fresh_5 : Nat → Int → Int → List Int → Option (LR l_cards_Fresh_5X l_cards_Fresh_5R)
  | 0, _, _, _ => none
  | m + 1, s12, s13, b76 =>
    if decide (s13 < s12) = true then
      if (b76.length + 1) * 8 ≤ 140737488355328 then
        l_cards_Fresh_5 m s12 (IntKind.i64.wrap (s13 + 1)) (b76 ++ [s13])
      else none
    else
      some (.exit (b76, ()))
def l_cards_Fresh_5L : LSpec := { h := l_cards_Fresh_5H, x := l_cards_Fresh_5X, r := l_cards_Fresh_5R, xid := 0, rt := false, pins := [], f := fun k d => l_cards_Fresh_5 k d.1 d.2.1 d.2.2.1 }
def LL_cards_Fresh : Loops := [([14], [(5, l_cards_Fresh_5L)])]
def f_cards_Fresh (k : Nat) (a0 : Int) : Option (List Int × Int) :=
  if decide (a0 < 0) = false then
    if decide (a0 > 52) = true then
      some ([], 4)
    else
      match l_cards_Fresh_5 k a0 0 [] with
      | none => none
      | some (.exit d1) =>
        some (d1.1, 0)
      | some (.ret d1) =>
        none
  else
    some ([], 4)
theorem l_cards_Fresh_5_step (m : Nat) (d : dens l_cards_Fresh_5H.tys) : l_cards_Fresh_5L.f (m + 1) d = round E_cards_Fresh LL_cards_Fresh m [14] 22 (loopN (bodyOf Tryd.f14) 0) l_cards_Fresh_5L (l_cards_Fresh_5L.f m) d := by kernel_rfl
theorem f_cards_Fresh_run (k : Nat) (x : denL [.int .i64]) : runFn E_cards_Fresh LL_cards_Fresh k 14 Tryd.f14 [.int .i64] [.fresh (.int .i64), .imm (.int .i64)] x = f_cards_Fresh k x := by kernel_rfl
noncomputable def S_cards_Fresh : Vm.Spec := { ps := [.int .i64], rs := [.fresh (.int .i64), .imm (.int .i64)], f := fun x => f_cards_Fresh fuel x }
theorem f_cards_Fresh_holds : Vm.Spec.holds Tryd.prog 14 S_cards_Fresh := by
  have hB : BodiesOk Tryd.prog E_cards_Fresh := bodies_none rfl
  have hBS : BodiesStepped E_cards_Fresh LL_cards_Fresh := bodies_stepped_none rfl
  have hS : SpecsOk Tryd.prog E_cards_Fresh := specs_ok (by exact trivial)
  have hE : EOk Tryd.prog E_cards_Fresh := eok_te ok
  exact fn_sound (L := LL_cards_Fresh) hE hS hB (draws_ok hE hS (by kernel_rfl)) hBS (fn := Tryd.f14) (by kernel_rfl) (c := bodyOf Tryd.f14) (by kernel_rfl) (stepped_of (ls := [(5, l_cards_Fresh_5L)]) rfl rfl ⟨by kernel_rfl, fun _ => rfl, l_cards_Fresh_5_step, stepsI_end (by kernel_rfl)⟩) fun x r h => ⟨fuel, (f_cards_Fresh_run fuel x).trans h⟩

/-! gamehall/cards.Shuffle -/
noncomputable def E_cards_Shuffle : Env := { te := te, spec := [(11, S_cards_Fits), (33, S_cards_Check), (35, S_slices_Clone_ints)], body := [] }
def l_cards_Shuffle_9H : Ann := { slots := [(8, .one (.own 100 (.int .i64))), (26, .one (.val (.slice (.int .i64)))), (27, .one (.val (.int .i64))), (28, .one (.val (.int .i64)))], objs := [(100, .buf (.int .i64))] }
def l_cards_Shuffle_9X : Ann := { slots := [(8, .one (.own 100 (.int .i64)))], objs := [(100, .buf (.int .i64))] }
def l_cards_Shuffle_9R : Ann := { slots := [], objs := [] }
def l_cards_Shuffle_9 : Nat → List Int → Int → Int → List Int → Option (LR l_cards_Shuffle_9X l_cards_Shuffle_9R)
  | 0, _, _, _, _ => none
  | m + 1, s26, s27, s28, b100 =>
    if decide (s28 < s27) = true then
      if (0 : Int) ≤ s28 then
        if s28 < s26.length then
          if (0 : Int) ≤ s26.getD s28.toNat 0 then
            if s26.getD s28.toNat 0 < b100.length then
              if (0 : Int) ≤ IntKind.i64.wrap ((IntKind.i64.wrap ((b100.length : Int) - 1)) - s28) then
                if IntKind.i64.wrap ((IntKind.i64.wrap ((b100.length : Int) - 1)) - s28) < b100.length then
                  if (0 : Int) ≤ IntKind.i64.wrap ((IntKind.i64.wrap ((b100.length : Int) - 1)) - s28) then
                    if IntKind.i64.wrap ((IntKind.i64.wrap ((b100.length : Int) - 1)) - s28) < b100.length then
                      if (0 : Int) ≤ s26.getD s28.toNat 0 then
                        if s26.getD s28.toNat 0 < (b100.set ((IntKind.i64.wrap ((IntKind.i64.wrap ((b100.length : Int) - 1)) - s28)).toNat) (b100.getD ((s26.getD s28.toNat 0).toNat) 0)).length then
                          l_cards_Shuffle_9 m s26 s27 (IntKind.i64.wrap (s28 + 1)) ((b100.set ((IntKind.i64.wrap ((IntKind.i64.wrap ((b100.length : Int) - 1)) - s28)).toNat) (b100.getD ((s26.getD s28.toNat 0).toNat) 0)).set ((s26.getD s28.toNat 0).toNat) (b100.getD ((IntKind.i64.wrap ((IntKind.i64.wrap ((b100.length : Int) - 1)) - s28)).toNat) 0))
                        else none
                      else none
                    else none
                  else none
                else none
              else none
            else none
          else none
        else none
      else none
    else
      some (.exit (b100, ()))
def l_cards_Shuffle_9L : LSpec := { h := l_cards_Shuffle_9H, x := l_cards_Shuffle_9X, r := l_cards_Shuffle_9R, xid := 0, rt := false, pins := [100], f := fun k d => l_cards_Shuffle_9 k d.1 d.2.1 d.2.2.1 d.2.2.2.1 }
def LL_cards_Shuffle : Loops := [([15], [(9, l_cards_Shuffle_9L)])]
def f_cards_Shuffle (k : Nat) (a0 : List Int) (a1 : List Int) : Option (List Int × Int) :=
  (f_cards_Check fuel a0).bind fun r1 =>
  if (r1 != 0) = true then
    some ([], r1)
  else
    (f_cards_Fits fuel (a0.length : Int) a1).bind fun r2 =>
    if (r2 != 0) = true then
      some ([], r2)
    else
      (f_slices_Clone_ints a0).bind fun r3 =>
      match l_cards_Shuffle_9 k a1 (a1.length : Int) 0 r3 with
      | none => none
      | some (.exit d4) =>
        some (d4.1, 0)
      | some (.ret d4) =>
        none
theorem l_cards_Shuffle_9_step (m : Nat) (d : dens l_cards_Shuffle_9H.tys) : l_cards_Shuffle_9L.f (m + 1) d = round E_cards_Shuffle LL_cards_Shuffle m [15] 54 (loopN (bodyOf Tryd.f15) 0) l_cards_Shuffle_9L (l_cards_Shuffle_9L.f m) d := by kernel_rfl
theorem f_cards_Shuffle_run (k : Nat) (x : denL [.slice (.int .i64), .slice (.int .i64)]) : runFn E_cards_Shuffle LL_cards_Shuffle k 15 Tryd.f15 [.slice (.int .i64), .slice (.int .i64)] [.fresh (.int .i64), .imm (.int .i64)] x = f_cards_Shuffle k x.1 x.2 := by kernel_rfl
noncomputable def S_cards_Shuffle : Vm.Spec := { ps := [.slice (.int .i64), .slice (.int .i64)], rs := [.fresh (.int .i64), .imm (.int .i64)], f := fun x => f_cards_Shuffle fuel x.1 x.2 }
theorem f_cards_Shuffle_holds : Vm.Spec.holds Tryd.prog 15 S_cards_Shuffle := by
  have hB : BodiesOk Tryd.prog E_cards_Shuffle := bodies_none rfl
  have hBS : BodiesStepped E_cards_Shuffle LL_cards_Shuffle := bodies_stepped_none rfl
  have hS : SpecsOk Tryd.prog E_cards_Shuffle := specs_ok (by exact ⟨⟨by kernel_rfl, f_cards_Fits_holds⟩, ⟨by kernel_rfl, f_cards_Check_holds⟩, ⟨by kernel_rfl, f_slices_Clone_ints_holds⟩, trivial⟩)
  have hE : EOk Tryd.prog E_cards_Shuffle := eok_te ok
  exact fn_sound (L := LL_cards_Shuffle) hE hS hB (draws_ok hE hS (by kernel_rfl)) hBS (fn := Tryd.f15) (by kernel_rfl) (c := bodyOf Tryd.f15) (by kernel_rfl) (stepped_of (ls := [(9, l_cards_Shuffle_9L)]) rfl rfl ⟨by kernel_rfl, fun _ => rfl, l_cards_Shuffle_9_step, stepsI_end (by kernel_rfl)⟩) fun x r h => ⟨fuel, (f_cards_Shuffle_run fuel x).trans h⟩

/-! gamehall/cards.Draws -/
noncomputable def E_cards_Draws : Env := { te := te, spec := [(33, S_cards_Check), (35, S_slices_Clone_ints), (40, S_slices_Index_int)], body := [] }
def l_cards_Draws_12H : Ann := { slots := [(1, .one (.val (.slice (.int .i64)))), (8, .one (.own 112 (.int .i64))), (9, .one (.own 252 (.int .i64))), (10, .one (.val (.int .i64)))], objs := [(112, .buf (.int .i64)), (252, .buf (.int .i64))] }
def l_cards_Draws_12X : Ann := { slots := [(9, .one (.own 252 (.int .i64)))], objs := [(252, .buf (.int .i64)), (112, .buf (.int .i64))] }
def l_cards_Draws_12R : Ann := { slots := [(4, .one (.fix .nil)), (5, .one (.val (.int .i64)))], objs := [(112, .buf (.int .i64))] }
def l_cards_Draws_12 : Nat → List Int → Int → List Int → List Int → Option (LR l_cards_Draws_12X l_cards_Draws_12R)
  | 0, _, _, _, _ => none
  | m + 1, s1, s10, b112, b252 =>
    if decide (s10 ≥ 0) = true then
      if (0 : Int) ≤ s10 then
        if s10 < s1.length then
          (f_slices_Index_int fuel b112 (s1.getD s10.toNat 0)).bind fun r1 =>
          if decide (r1 < 0) = true then
            some (.ret (3, b112, ()))
          else
            if (0 : Int) ≤ r1 then
              if r1 < b112.length then
                if (0 : Int) ≤ s10 then
                  if s10 < b112.length then
                    if (0 : Int) ≤ s10 then
                      if s10 < b112.length then
                        if (0 : Int) ≤ r1 then
                          if r1 < (b112.set s10.toNat (b112.getD r1.toNat 0)).length then
                            if decide (s10 > 0) = true then
                              if (b252.length + 1) * 8 ≤ 140737488355328 then
                                l_cards_Draws_12 m s1 (IntKind.i64.wrap (s10 - 1)) ((b112.set s10.toNat (b112.getD r1.toNat 0)).set r1.toNat (b112.getD s10.toNat 0)) (b252 ++ [r1])
                              else none
                            else
                              l_cards_Draws_12 m s1 (IntKind.i64.wrap (s10 - 1)) ((b112.set s10.toNat (b112.getD r1.toNat 0)).set r1.toNat (b112.getD s10.toNat 0)) b252
                          else none
                        else none
                      else none
                    else none
                  else none
                else none
              else none
            else none
        else none
      else none
    else
      some (.exit (b252, b112, ()))
def l_cards_Draws_12L : LSpec := { h := l_cards_Draws_12H, x := l_cards_Draws_12X, r := l_cards_Draws_12R, xid := 0, rt := true, pins := [112], f := fun k d => l_cards_Draws_12 k d.1 d.2.1 d.2.2.1 d.2.2.2.1 }
def LL_cards_Draws : Loops := [([28], [(12, l_cards_Draws_12L)])]
def f_cards_Draws (k : Nat) (a0 : List Int) (a1 : List Int) : Option (List Int × Int) :=
  (f_cards_Check fuel a0).bind fun r1 =>
  if (r1 != 0) = true then
    some ([], r1)
  else
    (f_cards_Check fuel a1).bind fun r2 =>
    if (r2 != 0) = true then
      some ([], r2)
    else
      if ((a0.length : Int) != (a1.length : Int)) = true then
        some ([], 3)
      else
        (f_slices_Clone_ints a0).bind fun r3 =>
        match l_cards_Draws_12 k a1 (IntKind.i64.wrap ((r3.length : Int) - 1)) r3 [] with
        | none => none
        | some (.exit d4) =>
          some (d4.1, 0)
        | some (.ret d4) =>
          some ([], d4.1)
theorem l_cards_Draws_12_step (m : Nat) (d : dens l_cards_Draws_12H.tys) : l_cards_Draws_12L.f (m + 1) d = round E_cards_Draws LL_cards_Draws m [28] 65 (loopN (bodyOf Tryd.f28) 0) l_cards_Draws_12L (l_cards_Draws_12L.f m) d := by kernel_rfl
theorem f_cards_Draws_run (k : Nat) (x : denL [.slice (.int .i64), .slice (.int .i64)]) : runFn E_cards_Draws LL_cards_Draws k 28 Tryd.f28 [.slice (.int .i64), .slice (.int .i64)] [.fresh (.int .i64), .imm (.int .i64)] x = f_cards_Draws k x.1 x.2 := by kernel_rfl
noncomputable def S_cards_Draws : Vm.Spec := { ps := [.slice (.int .i64), .slice (.int .i64)], rs := [.fresh (.int .i64), .imm (.int .i64)], f := fun x => f_cards_Draws fuel x.1 x.2 }
theorem f_cards_Draws_holds : Vm.Spec.holds Tryd.prog 28 S_cards_Draws := by
  have hB : BodiesOk Tryd.prog E_cards_Draws := bodies_none rfl
  have hBS : BodiesStepped E_cards_Draws LL_cards_Draws := bodies_stepped_none rfl
  have hS : SpecsOk Tryd.prog E_cards_Draws := specs_ok (by exact ⟨⟨by kernel_rfl, f_cards_Check_holds⟩, ⟨by kernel_rfl, f_slices_Clone_ints_holds⟩, ⟨by kernel_rfl, f_slices_Index_int_holds⟩, trivial⟩)
  have hE : EOk Tryd.prog E_cards_Draws := eok_te ok
  exact fn_sound (L := LL_cards_Draws) hE hS hB (draws_ok hE hS (by kernel_rfl)) hBS (fn := Tryd.f28) (by kernel_rfl) (c := bodyOf Tryd.f28) (by kernel_rfl) (stepped_of (ls := [(12, l_cards_Draws_12L)]) rfl rfl ⟨by kernel_rfl, fun _ => rfl, l_cards_Draws_12_step, stepsI_end (by kernel_rfl)⟩) fun x r h => ⟨fuel, (f_cards_Draws_run fuel x).trans h⟩

/-! gamehall/cards.Cut -/
noncomputable def E_cards_Cut : Env := { te := te, spec := [(33, S_cards_Check)], body := [(41, Tryd.f41), (50, Tryd.f50)] }
def l_slices_Concat_int__cards_Cut_3H : Ann := { slots := [(3, .one (.val (.int .i64))), (9, .one (.own 104 (.slice (.int .i64)))), (10, .one (.val (.int .i64))), (11, .one (.val (.int .i64)))], objs := [(104, .buf (.slice (.int .i64)))] }
def l_slices_Concat_int__cards_Cut_3X : Ann := { slots := [(3, .one (.val (.int .i64)))], objs := [(104, .buf (.slice (.int .i64)))] }
def l_slices_Concat_int__cards_Cut_3R : Ann := { slots := [], objs := [] }
def l_slices_Concat_int__cards_Cut_11H : Ann := { slots := [(6, .one (.pre 8088 (.int .i64))), (25, .one (.own 104 (.slice (.int .i64)))), (26, .one (.val (.int .i64))), (27, .one (.val (.int .i64)))], objs := [(8088, .buf (.int .i64)), (104, .buf (.slice (.int .i64)))] }
def l_slices_Concat_int__cards_Cut_11X : Ann := { slots := [(6, .one (.pre 8088 (.int .i64)))], objs := [(8088, .buf (.int .i64)), (104, .buf (.slice (.int .i64)))] }
def l_slices_Concat_int__cards_Cut_11R : Ann := { slots := [], objs := [] }
def l_slices_Concat_int__cards_Cut_3 : Nat → Int → Int → Int → List (List Int) → Option (LR l_slices_Concat_int__cards_Cut_3X l_slices_Concat_int__cards_Cut_3R)
  | 0, _, _, _, _ => none
  | m + 1, s3, s10, s11, b104 =>
    if decide (s11 < s10) = true then
      if (0 : Int) ≤ s11 then
        if s11 < b104.length then
          if decide (IntKind.i64.wrap (s3 + ((b104.getD s11.toNat []).length : Int)) < 0) = true then
            none
          else
            l_slices_Concat_int__cards_Cut_3 m (IntKind.i64.wrap (s3 + ((b104.getD s11.toNat []).length : Int))) s10 (IntKind.i64.wrap (s11 + 1)) b104
        else none
      else none
    else
      some (.exit (s3, b104, ()))
def l_slices_Concat_int__cards_Cut_3L : LSpec := { h := l_slices_Concat_int__cards_Cut_3H, x := l_slices_Concat_int__cards_Cut_3X, r := l_slices_Concat_int__cards_Cut_3R, xid := 0, rt := false, pins := [104], f := fun k d => l_slices_Concat_int__cards_Cut_3 k d.1 d.2.1 d.2.2.1 d.2.2.2.1 }
def l_slices_Concat_int__cards_Cut_11 : Nat → Nat → Int → Int → List Int → List (List Int) → Option (LR l_slices_Concat_int__cards_Cut_11X l_slices_Concat_int__cards_Cut_11R)
  | 0, _, _, _, _, _ => none
  | m + 1, s6, s26, s27, b8088, b104 =>
    if decide (s27 < s26) = true then
      if (0 : Int) ≤ s27 then
        if s27 < b104.length then
          if ((b8088.take s6).length + (b104.getD s27.toNat []).length) * 8 ≤ 140737488355328 then
            l_slices_Concat_int__cards_Cut_11 m (((b8088.take s6) ++ (b104.getD s27.toNat [])).length) s26 (IntKind.i64.wrap (s27 + 1)) ((b8088.take s6) ++ (b104.getD s27.toNat [])) b104
          else none
        else none
      else none
    else
      some (.exit (s6, b8088, b104, ()))
def l_slices_Concat_int__cards_Cut_11L : LSpec := { h := l_slices_Concat_int__cards_Cut_11H, x := l_slices_Concat_int__cards_Cut_11X, r := l_slices_Concat_int__cards_Cut_11R, xid := 2, rt := false, pins := [104], f := fun k d => l_slices_Concat_int__cards_Cut_11 k d.1 d.2.1 d.2.2.1 d.2.2.2.1 d.2.2.2.2.1 }
def LL_cards_Cut : Loops := [([41, 29], [(3, l_slices_Concat_int__cards_Cut_3L), (11, l_slices_Concat_int__cards_Cut_11L)])]
def f_cards_Cut (k : Nat) (a0 : List Int) (a1 : Int) : Option (List Int × Int) :=
  (f_cards_Check fuel a0).bind fun r1 =>
  if (r1 != 0) = true then
    some ([], r1)
  else
    if decide (a1 < 0) = false then
      if decide (a1 > (a0.length : Int)) = true then
        some ([], 4)
      else
        if (0 : Int) ≤ a1 then
          if a1 ≤ a0.length then
            if (0 : Int) ≤ a1 then
              if a1 ≤ a0.length then
                match l_slices_Concat_int__cards_Cut_3 k 0 2 0 [(a0.take a0.length).drop a1.toNat, (a0.take a1.toNat).drop 0] with
                | none => none
                | some (.exit d2) =>
                  if decide (d2.1 < 0) = true then
                    none
                  else
                    if decide (IntKind.i64.wrap (d2.1 - 0) > 0) = true then
                      if (0 : Int) < IntKind.i64.wrap (d2.1 - 0) then
                        if (IntKind.i64.wrap (d2.1 - 0)) * 8 ≤ 140737488355328 then
                          if (0 : Int) ≤ (List.replicate (IntKind.i64.wrap (d2.1 - 0)).toNat 0).length then
                            match l_slices_Concat_int__cards_Cut_11 k 0 (d2.2.1.length : Int) 0 (List.replicate (IntKind.i64.wrap (d2.1 - 0)).toNat 0) d2.2.1 with
                            | none => none
                            | some (.exit d3) =>
                              some (d3.2.1.take d3.1, 0)
                            | some (.ret d3) =>
                              none
                          else none
                        else none
                      else none
                    else
                      match l_slices_Concat_int__cards_Cut_11 k 0 (d2.2.1.length : Int) 0 [] d2.2.1 with
                      | none => none
                      | some (.exit d4) =>
                        some (d4.2.1.take d4.1, 0)
                      | some (.ret d4) =>
                        none
                | some (.ret d2) =>
                  none
              else none
            else none
          else none
        else none
    else
      some ([], 4)
theorem l_slices_Concat_int__cards_Cut_3_step (m : Nat) (d : dens l_slices_Concat_int__cards_Cut_3H.tys) : l_slices_Concat_int__cards_Cut_3L.f (m + 1) d = round E_cards_Cut LL_cards_Cut m [41, 29] 36 (loopN (bodyOf Tryd.f41) 0) l_slices_Concat_int__cards_Cut_3L (l_slices_Concat_int__cards_Cut_3L.f m) d := by kernel_rfl
theorem l_slices_Concat_int__cards_Cut_11_step (m : Nat) (d : dens l_slices_Concat_int__cards_Cut_11H.tys) : l_slices_Concat_int__cards_Cut_11L.f (m + 1) d = round E_cards_Cut LL_cards_Cut m [41, 29] 36 (loopN (bodyOf Tryd.f41) 1) l_slices_Concat_int__cards_Cut_11L (l_slices_Concat_int__cards_Cut_11L.f m) d := by kernel_rfl
theorem f_cards_Cut_run (k : Nat) (x : denL [.slice (.int .i64), .int .i64]) : runFn E_cards_Cut LL_cards_Cut k 29 Tryd.f29 [.slice (.int .i64), .int .i64] [.fresh (.int .i64), .imm (.int .i64)] x = f_cards_Cut k x.1 x.2 := by kernel_rfl
noncomputable def S_cards_Cut : Vm.Spec := { ps := [.slice (.int .i64), .int .i64], rs := [.fresh (.int .i64), .imm (.int .i64)], f := fun x => f_cards_Cut fuel x.1 x.2 }
theorem f_cards_Cut_holds : Vm.Spec.holds Tryd.prog 29 S_cards_Cut := by
  have hB : BodiesOk Tryd.prog E_cards_Cut := bodies_ok (by exact ⟨by kernel_rfl, by kernel_rfl, by kernel_rfl, by kernel_rfl, trivial⟩)
  have hBS : BodiesStepped E_cards_Cut LL_cards_Cut := by
    refine bodies_stepped ?_
    exact ⟨(stepped_paths [[29]] (by exact ⟨stepped_of (ls := [(3, l_slices_Concat_int__cards_Cut_3L), (11, l_slices_Concat_int__cards_Cut_11L)]) rfl rfl ⟨by kernel_rfl, fun _ => rfl, l_slices_Concat_int__cards_Cut_3_step, by kernel_rfl, fun _ => rfl, l_slices_Concat_int__cards_Cut_11_step, stepsI_end (by kernel_rfl)⟩,  trivial⟩) rfl), (fun _ => stepped_noloop (by kernel_rfl)),  trivial⟩
  have hS : SpecsOk Tryd.prog E_cards_Cut := specs_ok (by exact ⟨⟨by kernel_rfl, f_cards_Check_holds⟩, trivial⟩)
  have hE : EOk Tryd.prog E_cards_Cut := eok_te ok
  exact fn_sound (L := LL_cards_Cut) hE hS hB (draws_ok hE hS (by kernel_rfl)) hBS (fn := Tryd.f29) (by kernel_rfl) (c := bodyOf Tryd.f29) (by kernel_rfl) (stepped_none rfl) fun x r h => ⟨fuel, (f_cards_Cut_run fuel x).trans h⟩

/-! gamehall/cards.Deal -/
noncomputable def E_cards_Deal : Env := { te := te, spec := [(33, S_cards_Check), (35, S_slices_Clone_ints)], body := [] }
def l_cards_Deal_10H : Ann := { slots := [(1, .one (.val (.int .i64))), (10, .one (.own 156 (.slice (.int .i64)))), (44, .one (.val (.slice (.int .i64)))), (45, .one (.val (.int .i64))), (46, .one (.val (.int .i64)))], objs := [(156, .grid (.int .i64))] }
def l_cards_Deal_10X : Ann := { slots := [(10, .one (.own 156 (.slice (.int .i64))))], objs := [(156, .grid (.int .i64))] }
def l_cards_Deal_10R : Ann := { slots := [], objs := [] }
def l_cards_Deal_10 : Nat → Int → List Int → Int → Int → List (List Int) → Option (LR l_cards_Deal_10X l_cards_Deal_10R)
  | 0, _, _, _, _, _ => none
  | m + 1, s1, s44, s45, s46, b156 =>
    if decide (s46 < s45) = true then
      if (0 : Int) ≤ s46 then
        if s46 < s44.length then
          if s1 = 0 then
            none
          else
            if s1 = 0 then
              none
            else
              if (0 : Int) ≤ s46.tmod s1 then
                if s46.tmod s1 < b156.length then
                  if ((b156.getD (s46.tmod s1).toNat []).length + 1) * 8 ≤ 140737488355328 then
                    if (0 : Int) ≤ s46.tmod s1 then
                      if s46.tmod s1 < b156.length then
                        if (s46.tmod s1).toNat = (s46.tmod s1).toNat then
                          l_cards_Deal_10 m s1 s44 s45 (IntKind.i64.wrap (s46 + 1)) (b156.set (s46.tmod s1).toNat ((b156.getD (s46.tmod s1).toNat []) ++ [s44.getD s46.toNat 0]))
                        else none
                      else none
                    else none
                  else none
                else none
              else none
        else none
      else none
    else
      some (.exit (b156, ()))
def l_cards_Deal_10L : LSpec := { h := l_cards_Deal_10H, x := l_cards_Deal_10X, r := l_cards_Deal_10R, xid := 0, rt := false, pins := [156], f := fun k d => l_cards_Deal_10 k d.1 d.2.1 d.2.2.1 d.2.2.2.1 d.2.2.2.2.1 }
def LL_cards_Deal : Loops := [([30], [(10, l_cards_Deal_10L)])]
def f_cards_Deal (k : Nat) (a0 : List Int) (a1 : Int) (a2 : Int) : Option ((List (List Int)) × List Int × Int) :=
  (f_cards_Check fuel a0).bind fun r1 =>
  if (r1 != 0) = true then
    some ([], [], r1)
  else
    if decide (a1 < 1) = false then
      if decide (a1 > 52) = false then
        if decide (a2 < 0) = false then
          if decide (a2 > 52) = true then
            some ([], [], 4)
          else
            if decide (IntKind.i64.wrap (a1 * a2) > (a0.length : Int)) = true then
              some ([], [], 8)
            else
              if (0 : Int) ≤ a1 then
                if a1 ≤ a1 then
                  if a1 * 24 ≤ 281474976710656 then
                    if (0 : Int) ≤ IntKind.i64.wrap (a1 * a2) then
                      if IntKind.i64.wrap (a1 * a2) ≤ a0.length then
                        match l_cards_Deal_10 k a1 ((a0.take (IntKind.i64.wrap (a1 * a2)).toNat).drop 0) (((a0.take (IntKind.i64.wrap (a1 * a2)).toNat).drop 0).length : Int) 0 (List.replicate a1.toNat []) with
                        | none => none
                        | some (.exit d2) =>
                          if (0 : Int) ≤ IntKind.i64.wrap (a1 * a2) then
                            if IntKind.i64.wrap (a1 * a2) ≤ a0.length then
                              (f_slices_Clone_ints ((a0.take a0.length).drop (IntKind.i64.wrap (a1 * a2)).toNat)).bind fun r3 =>
                              some (d2.1, r3, 0)
                            else none
                          else none
                        | some (.ret d2) =>
                          none
                      else none
                    else none
                  else none
                else none
              else none
        else
          some ([], [], 4)
      else
        some ([], [], 4)
    else
      some ([], [], 4)
theorem l_cards_Deal_10_step (m : Nat) (d : dens l_cards_Deal_10H.tys) : l_cards_Deal_10L.f (m + 1) d = round E_cards_Deal LL_cards_Deal m [30] 73 (loopN (bodyOf Tryd.f30) 0) l_cards_Deal_10L (l_cards_Deal_10L.f m) d := by kernel_rfl
theorem f_cards_Deal_run (k : Nat) (x : denL [.slice (.int .i64), .int .i64, .int .i64]) : runFn E_cards_Deal LL_cards_Deal k 30 Tryd.f30 [.slice (.int .i64), .int .i64, .int .i64] [.imm (.slice (.slice (.int .i64))), .fresh (.int .i64), .imm (.int .i64)] x = f_cards_Deal k x.1 x.2.1 x.2.2 := by kernel_rfl
noncomputable def S_cards_Deal : Vm.Spec := { ps := [.slice (.int .i64), .int .i64, .int .i64], rs := [.imm (.slice (.slice (.int .i64))), .fresh (.int .i64), .imm (.int .i64)], f := fun x => f_cards_Deal fuel x.1 x.2.1 x.2.2 }
theorem f_cards_Deal_holds : Vm.Spec.holds Tryd.prog 30 S_cards_Deal := by
  have hB : BodiesOk Tryd.prog E_cards_Deal := bodies_none rfl
  have hBS : BodiesStepped E_cards_Deal LL_cards_Deal := bodies_stepped_none rfl
  have hS : SpecsOk Tryd.prog E_cards_Deal := specs_ok (by exact ⟨⟨by kernel_rfl, f_cards_Check_holds⟩, ⟨by kernel_rfl, f_slices_Clone_ints_holds⟩, trivial⟩)
  have hE : EOk Tryd.prog E_cards_Deal := eok_te ok
  exact fn_sound (L := LL_cards_Deal) hE hS hB (draws_ok hE hS (by kernel_rfl)) hBS (fn := Tryd.f30) (by kernel_rfl) (c := bodyOf Tryd.f30) (by kernel_rfl) (stepped_of (ls := [(10, l_cards_Deal_10L)]) rfl rfl ⟨by kernel_rfl, fun _ => rfl, l_cards_Deal_10_step, stepsI_end (by kernel_rfl)⟩) fun x r h => ⟨fuel, (f_cards_Deal_run fuel x).trans h⟩

/-! gamehall/cards.Rank -/
noncomputable def E_cards_Rank : Env := { te := te, spec := [], body := [] }
def LL_cards_Rank : Loops := []
def f_cards_Rank (k : Nat) (a0 : Int) : Option (Int) :=
  some (a0.tmod 13)
theorem f_cards_Rank_run (k : Nat) (x : denL [.int .i64]) : runFn E_cards_Rank LL_cards_Rank k 42 Tryd.f42 [.int .i64] [.imm (.int .i64)] x = f_cards_Rank k x := by kernel_rfl
noncomputable def S_cards_Rank : Vm.Spec := { ps := [.int .i64], rs := [.imm (.int .i64)], f := fun x => f_cards_Rank fuel x }
theorem f_cards_Rank_holds : Vm.Spec.holds Tryd.prog 42 S_cards_Rank := by
  have hB : BodiesOk Tryd.prog E_cards_Rank := bodies_none rfl
  have hBS : BodiesStepped E_cards_Rank LL_cards_Rank := bodies_stepped_none rfl
  have hS : SpecsOk Tryd.prog E_cards_Rank := specs_ok (by exact trivial)
  have hE : EOk Tryd.prog E_cards_Rank := eok_te ok
  exact fn_sound (L := LL_cards_Rank) hE hS hB (draws_ok hE hS (by kernel_rfl)) hBS (fn := Tryd.f42) (by kernel_rfl) (c := bodyOf Tryd.f42) (by kernel_rfl) (stepped_none rfl) fun x r h => ⟨fuel, (f_cards_Rank_run fuel x).trans h⟩

/-! gamehall/cards.Suit -/
noncomputable def E_cards_Suit : Env := { te := te, spec := [], body := [] }
def LL_cards_Suit : Loops := []
def f_cards_Suit (k : Nat) (a0 : Int) : Option (Int) :=
  some (IntKind.i64.wrap (a0.tdiv 13))
theorem f_cards_Suit_run (k : Nat) (x : denL [.int .i64]) : runFn E_cards_Suit LL_cards_Suit k 43 Tryd.f43 [.int .i64] [.imm (.int .i64)] x = f_cards_Suit k x := by kernel_rfl
noncomputable def S_cards_Suit : Vm.Spec := { ps := [.int .i64], rs := [.imm (.int .i64)], f := fun x => f_cards_Suit fuel x }
theorem f_cards_Suit_holds : Vm.Spec.holds Tryd.prog 43 S_cards_Suit := by
  have hB : BodiesOk Tryd.prog E_cards_Suit := bodies_none rfl
  have hBS : BodiesStepped E_cards_Suit LL_cards_Suit := bodies_stepped_none rfl
  have hS : SpecsOk Tryd.prog E_cards_Suit := specs_ok (by exact trivial)
  have hE : EOk Tryd.prog E_cards_Suit := eok_te ok
  exact fn_sound (L := LL_cards_Suit) hE hS hB (draws_ok hE hS (by kernel_rfl)) hBS (fn := Tryd.f43) (by kernel_rfl) (c := bodyOf Tryd.f43) (by kernel_rfl) (stepped_none rfl) fun x r h => ⟨fuel, (f_cards_Suit_run fuel x).trans h⟩

/-! gamehall/cards.Text -/
noncomputable def E_cards_Text : Env := { te := te, spec := [(33, S_cards_Check), (42, S_cards_Rank), (43, S_cards_Suit), (44, Vm.sJoin)], body := [] }
def l_cards_Text_6H : Ann := { slots := [(5, .one (.own 136 .str)), (13, .one (.val (.slice (.int .i64)))), (14, .one (.val (.int .i64))), (15, .one (.val (.int .i64)))], objs := [(136, .buf .str)] }
def l_cards_Text_6X : Ann := { slots := [(5, .one (.own 136 .str))], objs := [(136, .buf .str)] }
def l_cards_Text_6R : Ann := { slots := [], objs := [] }
def l_cards_Text_6 : Nat → List Int → Int → Int → List ByteArray → Option (LR l_cards_Text_6X l_cards_Text_6R)
  | 0, _, _, _, _ => none
  | m + 1, s13, s14, s15, b136 =>
    if decide (s15 < s14) = true then
      if (0 : Int) ≤ s15 then
        if s15 < s13.length then
          (f_cards_Rank fuel (s13.getD s15.toNat 0)).bind fun r1 =>
          (f_cards_Rank fuel (s13.getD s15.toNat 0)).bind fun r2 =>
          if (0 : Int) ≤ IntKind.i64.wrap (r2 + 1) then
            if IntKind.i64.wrap (r2 + 1) ≤ (⟨#[50, 51, 52, 53, 54, 55, 56, 57, 84, 74, 81, 75, 65]⟩ : ByteArray).size then
              if (0 : Int) ≤ r1 then
                if r1 ≤ IntKind.i64.wrap (r2 + 1) then
                  (f_cards_Suit fuel (s13.getD s15.toNat 0)).bind fun r3 =>
                  (f_cards_Suit fuel (s13.getD s15.toNat 0)).bind fun r4 =>
                  if (0 : Int) ≤ IntKind.i64.wrap (r4 + 1) then
                    if IntKind.i64.wrap (r4 + 1) ≤ (⟨#[67, 68, 72, 83]⟩ : ByteArray).size then
                      if (0 : Int) ≤ r3 then
                        if r3 ≤ IntKind.i64.wrap (r4 + 1) then
                          if ((⟨#[50, 51, 52, 53, 54, 55, 56, 57, 84, 74, 81, 75, 65]⟩ : ByteArray).extract r1.toNat (IntKind.i64.wrap (r2 + 1)).toNat).size + ((⟨#[67, 68, 72, 83]⟩ : ByteArray).extract r3.toNat (IntKind.i64.wrap (r4 + 1)).toNat).size ≤ 4611686018427387904 then
                            if (b136.length + 1) * 16 ≤ 140737488355328 then
                              l_cards_Text_6 m s13 s14 (IntKind.i64.wrap (s15 + 1)) (b136 ++ [((⟨#[50, 51, 52, 53, 54, 55, 56, 57, 84, 74, 81, 75, 65]⟩ : ByteArray).extract r1.toNat (IntKind.i64.wrap (r2 + 1)).toNat) ++ ((⟨#[67, 68, 72, 83]⟩ : ByteArray).extract r3.toNat (IntKind.i64.wrap (r4 + 1)).toNat)])
                            else none
                          else none
                        else none
                      else none
                    else none
                  else none
                else none
              else none
            else none
          else none
        else none
      else none
    else
      some (.exit (b136, ()))
def l_cards_Text_6L : LSpec := { h := l_cards_Text_6H, x := l_cards_Text_6X, r := l_cards_Text_6R, xid := 0, rt := false, pins := [], f := fun k d => l_cards_Text_6 k d.1 d.2.1 d.2.2.1 d.2.2.2.1 }
def LL_cards_Text : Loops := [([31], [(6, l_cards_Text_6L)])]
def f_cards_Text (k : Nat) (a0 : List Int) : Option (ByteArray × Int) :=
  (f_cards_Check fuel a0).bind fun r1 =>
  if (r1 != 0) = true then
    some ((⟨#[]⟩ : ByteArray), r1)
  else
    match l_cards_Text_6 k a0 (a0.length : Int) 0 [] with
    | none => none
    | some (.exit d2) =>
      (Vm.stdJoin d2.1 (⟨#[32]⟩ : ByteArray)).bind fun r3 =>
      some (r3, 0)
    | some (.ret d2) =>
      none
theorem l_cards_Text_6_step (m : Nat) (d : dens l_cards_Text_6H.tys) : l_cards_Text_6L.f (m + 1) d = round E_cards_Text LL_cards_Text m [31] 38 (loopN (bodyOf Tryd.f31) 0) l_cards_Text_6L (l_cards_Text_6L.f m) d := by kernel_rfl
theorem f_cards_Text_run (k : Nat) (x : denL [.slice (.int .i64)]) : runFn E_cards_Text LL_cards_Text k 31 Tryd.f31 [.slice (.int .i64)] [.imm .str, .imm (.int .i64)] x = f_cards_Text k x := by kernel_rfl
noncomputable def S_cards_Text : Vm.Spec := { ps := [.slice (.int .i64)], rs := [.imm .str, .imm (.int .i64)], f := fun x => f_cards_Text fuel x }
theorem f_cards_Text_holds : Vm.Spec.holds Tryd.prog 31 S_cards_Text := by
  have hB : BodiesOk Tryd.prog E_cards_Text := bodies_none rfl
  have hBS : BodiesStepped E_cards_Text LL_cards_Text := bodies_stepped_none rfl
  have hS : SpecsOk Tryd.prog E_cards_Text := specs_ok (by exact ⟨⟨by kernel_rfl, f_cards_Check_holds⟩, ⟨by kernel_rfl, f_cards_Rank_holds⟩, ⟨by kernel_rfl, f_cards_Suit_holds⟩, ⟨by kernel_rfl, g44_holds⟩, trivial⟩)
  have hE : EOk Tryd.prog E_cards_Text := eok_te ok
  exact fn_sound (L := LL_cards_Text) hE hS hB (draws_ok hE hS (by kernel_rfl)) hBS (fn := Tryd.f31) (by kernel_rfl) (c := bodyOf Tryd.f31) (by kernel_rfl) (stepped_of (ls := [(6, l_cards_Text_6L)]) rfl rfl ⟨by kernel_rfl, fun _ => rfl, l_cards_Text_6_step, stepsI_end (by kernel_rfl)⟩) fun x r h => ⟨fuel, (f_cards_Text_run fuel x).trans h⟩

/-! strings.genSplit -/
noncomputable def E_strings_genSplit : Env := { te := te, spec := [(59, Vm.sCount), (60, Vm.sIndex)], body := [] }
def l_strings_genSplit_11H : Ann := { slots := [(0, .one (.val .str)), (1, .one (.val .str)), (2, .one (.val (.int .i64))), (3, .one (.val (.int .i64))), (9, .one (.own 124 .str)), (10, .one (.val (.int .i64)))], objs := [(124, .buf .str)] }
def l_strings_genSplit_11X : Ann := { slots := [(0, .one (.val .str)), (9, .one (.own 124 .str)), (10, .one (.val (.int .i64)))], objs := [(124, .buf .str)] }
def l_strings_genSplit_11R : Ann := { slots := [], objs := [] }
def l_strings_genSplit_11 : Nat → ByteArray → ByteArray → Int → Int → Int → List ByteArray → Option (LR l_strings_genSplit_11X l_strings_genSplit_11R)
  | 0, _, _, _, _, _, _ => none
  | m + 1, s0, s1, s2, s3, s10, b124 =>
    if decide (s10 < s3) = true then
      (Vm.stdIndex s0 s1).bind fun r1 =>
      if decide (r1 < 0) = true then
        some (.exit (s0, s10, b124, ()))
      else
        if (0 : Int) ≤ IntKind.i64.wrap (r1 + s2) then
          if IntKind.i64.wrap (r1 + s2) ≤ s0.size then
            if (0 : Int) ≤ s10 then
              if s10 < b124.length then
                if (0 : Int) ≤ IntKind.i64.wrap (r1 + (s1.size : Int)) then
                  if IntKind.i64.wrap (r1 + (s1.size : Int)) ≤ s0.size then
                    l_strings_genSplit_11 m (s0.extract (IntKind.i64.wrap (r1 + (s1.size : Int))).toNat s0.size) s1 s2 s3 (IntKind.i64.wrap (s10 + 1)) (b124.set s10.toNat (s0.extract 0 (IntKind.i64.wrap (r1 + s2)).toNat))
                  else none
                else none
              else none
            else none
          else none
        else none
    else
      some (.exit (s0, s10, b124, ()))
def l_strings_genSplit_11L : LSpec := { h := l_strings_genSplit_11H, x := l_strings_genSplit_11X, r := l_strings_genSplit_11R, xid := 0, rt := false, pins := [124], f := fun k d => l_strings_genSplit_11 k d.1 d.2.1 d.2.2.1 d.2.2.2.1 d.2.2.2.2.1 d.2.2.2.2.2.1 }
def LL_strings_genSplit : Loops := [([54], [(11, l_strings_genSplit_11L)])]
def f_strings_genSplit (k : Nat) (a0 : ByteArray) (a1 : ByteArray) (a2 : Int) (a3 : Int) : Option (List ByteArray) :=
  if (a3 == 0) = true then
    some []
  else
    if ((a1.toList == (⟨#[]⟩ : ByteArray).toList)) = true then
      none
    else
      if decide (a3 < 0) = true then
        (Vm.stdCount a0 a1).bind fun r1 =>
        if (0 : Int) ≤ (if IntKind.i64.wrap ((a0.size : Int) + 1) < IntKind.i64.wrap (r1 + 1) then IntKind.i64.wrap ((a0.size : Int) + 1) else IntKind.i64.wrap (r1 + 1)) then
          if (if IntKind.i64.wrap ((a0.size : Int) + 1) < IntKind.i64.wrap (r1 + 1) then IntKind.i64.wrap ((a0.size : Int) + 1) else IntKind.i64.wrap (r1 + 1)) ≤ (if IntKind.i64.wrap ((a0.size : Int) + 1) < IntKind.i64.wrap (r1 + 1) then IntKind.i64.wrap ((a0.size : Int) + 1) else IntKind.i64.wrap (r1 + 1)) then
            if (if IntKind.i64.wrap ((a0.size : Int) + 1) < IntKind.i64.wrap (r1 + 1) then IntKind.i64.wrap ((a0.size : Int) + 1) else IntKind.i64.wrap (r1 + 1)) * 16 ≤ 281474976710656 then
              match l_strings_genSplit_11 k a0 a1 a2 (IntKind.i64.wrap ((if IntKind.i64.wrap ((a0.size : Int) + 1) < IntKind.i64.wrap (r1 + 1) then IntKind.i64.wrap ((a0.size : Int) + 1) else IntKind.i64.wrap (r1 + 1)) - 1)) 0 (List.replicate ((if IntKind.i64.wrap ((a0.size : Int) + 1) < IntKind.i64.wrap (r1 + 1) then IntKind.i64.wrap ((a0.size : Int) + 1) else IntKind.i64.wrap (r1 + 1)).toNat) ByteArray.empty) with
              | none => none
              | some (.exit d2) =>
                if (0 : Int) ≤ d2.2.1 then
                  if d2.2.1 < d2.2.2.1.length then
                    if (0 : Int) ≤ IntKind.i64.wrap (d2.2.1 + 1) then
                      if IntKind.i64.wrap (d2.2.1 + 1) ≤ (d2.2.2.1.set d2.2.1.toNat d2.1).length then
                        some ((d2.2.2.1.set d2.2.1.toNat d2.1).take ((IntKind.i64.wrap (d2.2.1 + 1)).toNat))
                      else none
                    else none
                  else none
                else none
              | some (.ret d2) =>
                none
            else none
          else none
        else none
      else
        if (0 : Int) ≤ (if IntKind.i64.wrap ((a0.size : Int) + 1) < a3 then IntKind.i64.wrap ((a0.size : Int) + 1) else a3) then
          if (if IntKind.i64.wrap ((a0.size : Int) + 1) < a3 then IntKind.i64.wrap ((a0.size : Int) + 1) else a3) ≤ (if IntKind.i64.wrap ((a0.size : Int) + 1) < a3 then IntKind.i64.wrap ((a0.size : Int) + 1) else a3) then
            if (if IntKind.i64.wrap ((a0.size : Int) + 1) < a3 then IntKind.i64.wrap ((a0.size : Int) + 1) else a3) * 16 ≤ 281474976710656 then
              match l_strings_genSplit_11 k a0 a1 a2 (IntKind.i64.wrap ((if IntKind.i64.wrap ((a0.size : Int) + 1) < a3 then IntKind.i64.wrap ((a0.size : Int) + 1) else a3) - 1)) 0 (List.replicate ((if IntKind.i64.wrap ((a0.size : Int) + 1) < a3 then IntKind.i64.wrap ((a0.size : Int) + 1) else a3).toNat) ByteArray.empty) with
              | none => none
              | some (.exit d3) =>
                if (0 : Int) ≤ d3.2.1 then
                  if d3.2.1 < d3.2.2.1.length then
                    if (0 : Int) ≤ IntKind.i64.wrap (d3.2.1 + 1) then
                      if IntKind.i64.wrap (d3.2.1 + 1) ≤ (d3.2.2.1.set d3.2.1.toNat d3.1).length then
                        some ((d3.2.2.1.set d3.2.1.toNat d3.1).take ((IntKind.i64.wrap (d3.2.1 + 1)).toNat))
                      else none
                    else none
                  else none
                else none
              | some (.ret d3) =>
                none
            else none
          else none
        else none
theorem l_strings_genSplit_11_step (m : Nat) (d : dens l_strings_genSplit_11H.tys) : l_strings_genSplit_11L.f (m + 1) d = round E_strings_genSplit LL_strings_genSplit m [54] 66 (loopN (bodyOf Tryd.f54) 0) l_strings_genSplit_11L (l_strings_genSplit_11L.f m) d := by kernel_rfl
theorem f_strings_genSplit_run (k : Nat) (x : denL [.str, .str, .int .i64, .int .i64]) : runFn E_strings_genSplit LL_strings_genSplit k 54 Tryd.f54 [.str, .str, .int .i64, .int .i64] [.fresh .str] x = f_strings_genSplit k x.1 x.2.1 x.2.2.1 x.2.2.2 := by kernel_rfl
noncomputable def S_strings_genSplit : Vm.Spec := { ps := [.str, .str, .int .i64, .int .i64], rs := [.fresh .str], f := fun x => f_strings_genSplit fuel x.1 x.2.1 x.2.2.1 x.2.2.2 }
theorem f_strings_genSplit_holds : Vm.Spec.holds Tryd.prog 54 S_strings_genSplit := by
  have hB : BodiesOk Tryd.prog E_strings_genSplit := bodies_none rfl
  have hBS : BodiesStepped E_strings_genSplit LL_strings_genSplit := bodies_stepped_none rfl
  have hS : SpecsOk Tryd.prog E_strings_genSplit := specs_ok (by exact ⟨⟨by kernel_rfl, g59_holds⟩, ⟨by kernel_rfl, g60_holds⟩, trivial⟩)
  have hE : EOk Tryd.prog E_strings_genSplit := eok_te ok
  exact fn_sound (L := LL_strings_genSplit) hE hS hB (draws_ok hE hS (by kernel_rfl)) hBS (fn := Tryd.f54) (by kernel_rfl) (c := bodyOf Tryd.f54) (by kernel_rfl) (stepped_of (ls := [(11, l_strings_genSplit_11L)]) rfl rfl ⟨by kernel_rfl, fun _ => rfl, l_strings_genSplit_11_step, stepsI_end (by kernel_rfl)⟩) fun x r h => ⟨fuel, (f_strings_genSplit_run fuel x).trans h⟩

/-! strings.Split -/
noncomputable def E_strings_Split : Env := { te := te, spec := [(54, S_strings_genSplit)], body := [] }
def LL_strings_Split : Loops := []
def f_strings_Split (k : Nat) (a0 : ByteArray) (a1 : ByteArray) : Option (List ByteArray) :=
  (f_strings_genSplit fuel a0 a1 0 (-1)).bind fun r1 =>
  some r1
theorem f_strings_Split_run (k : Nat) (x : denL [.str, .str]) : runFn E_strings_Split LL_strings_Split k 45 Tryd.f45 [.str, .str] [.fresh .str] x = f_strings_Split k x.1 x.2 := by kernel_rfl
noncomputable def S_strings_Split : Vm.Spec := { ps := [.str, .str], rs := [.fresh .str], f := fun x => f_strings_Split fuel x.1 x.2 }
theorem f_strings_Split_holds : Vm.Spec.holds Tryd.prog 45 S_strings_Split := by
  have hB : BodiesOk Tryd.prog E_strings_Split := bodies_none rfl
  have hBS : BodiesStepped E_strings_Split LL_strings_Split := bodies_stepped_none rfl
  have hS : SpecsOk Tryd.prog E_strings_Split := specs_ok (by exact ⟨⟨by kernel_rfl, f_strings_genSplit_holds⟩, trivial⟩)
  have hE : EOk Tryd.prog E_strings_Split := eok_te ok
  exact fn_sound (L := LL_strings_Split) hE hS hB (draws_ok hE hS (by kernel_rfl)) hBS (fn := Tryd.f45) (by kernel_rfl) (c := bodyOf Tryd.f45) (by kernel_rfl) (stepped_none rfl) fun x r h => ⟨fuel, (f_strings_Split_run fuel x).trans h⟩

/-! gamehall/cards.Read -/
noncomputable def E_cards_Read : Env := { te := te, spec := [(33, S_cards_Check), (45, S_strings_Split), (46, Vm.sIndexByte)], body := [] }
def l_cards_Read_7H : Ann := { slots := [(4, .one (.own 180 (.int .i64))), (14, .one (.own 56 .str)), (15, .one (.val (.int .i64))), (16, .one (.val (.int .i64)))], objs := [(180, .buf (.int .i64)), (56, .buf .str)] }
def l_cards_Read_7X : Ann := { slots := [(4, .one (.own 180 (.int .i64)))], objs := [(180, .buf (.int .i64)), (56, .buf .str)] }
def l_cards_Read_7R : Ann := { slots := [(2, .one (.fix .nil)), (3, .one (.val (.int .i64)))], objs := [(56, .buf .str)] }
def l_cards_Read_7 : Nat → Int → Int → List Int → List ByteArray → Option (LR l_cards_Read_7X l_cards_Read_7R)
  | 0, _, _, _, _ => none
  | m + 1, s15, s16, b180, b56 =>
    if decide (s16 < s15) = true then
      if (0 : Int) ≤ s16 then
        if s16 < b56.length then
          if (((b56.getD s16.toNat ByteArray.empty).size : Int) != 2) = false then
            if (0 : Int) < ((b56.getD s16.toNat ByteArray.empty).size : Int) then
              (Vm.stdIndexByte (⟨#[50, 51, 52, 53, 54, 55, 56, 57, 84, 74, 81, 75, 65]⟩ : ByteArray) (((b56.getD s16.toNat ByteArray.empty).data.getD 0 0).toNat : Int)).bind fun r1 =>
              if decide (r1 < 0) = false then
                if (1 : Int) < ((b56.getD s16.toNat ByteArray.empty).size : Int) then
                  (Vm.stdIndexByte (⟨#[67, 68, 72, 83]⟩ : ByteArray) (((b56.getD s16.toNat ByteArray.empty).data.getD 1 0).toNat : Int)).bind fun r2 =>
                  if decide (r2 < 0) = true then
                    some (.ret (5, b56, ()))
                  else
                    if (1 : Int) < ((b56.getD s16.toNat ByteArray.empty).size : Int) then
                      if (0 : Int) < ((b56.getD s16.toNat ByteArray.empty).size : Int) then
                        (Vm.stdIndexByte (⟨#[67, 68, 72, 83]⟩ : ByteArray) (((b56.getD s16.toNat ByteArray.empty).data.getD 1 0).toNat : Int)).bind fun r3 =>
                        (Vm.stdIndexByte (⟨#[50, 51, 52, 53, 54, 55, 56, 57, 84, 74, 81, 75, 65]⟩ : ByteArray) (((b56.getD s16.toNat ByteArray.empty).data.getD 0 0).toNat : Int)).bind fun r4 =>
                        if (b180.length + 1) * 8 ≤ 140737488355328 then
                          l_cards_Read_7 m s15 (IntKind.i64.wrap (s16 + 1)) (b180 ++ [IntKind.i64.wrap ((IntKind.i64.wrap (r3 * 13)) + r4)]) b56
                        else none
                      else none
                    else none
                else none
              else
                some (.ret (5, b56, ()))
            else none
          else
            some (.ret (5, b56, ()))
        else none
      else none
    else
      some (.exit (b180, b56, ()))
def l_cards_Read_7L : LSpec := { h := l_cards_Read_7H, x := l_cards_Read_7X, r := l_cards_Read_7R, xid := 0, rt := true, pins := [56], f := fun k d => l_cards_Read_7 k d.1 d.2.1 d.2.2.1 d.2.2.2.1 }
def LL_cards_Read : Loops := [([32], [(7, l_cards_Read_7L)])]
def f_cards_Read (k : Nat) (a0 : ByteArray) : Option (List Int × Int) :=
  if decide ((a0.size : Int) > 8192) = true then
    some ([], 2)
  else
    if ((a0.toList == (⟨#[]⟩ : ByteArray).toList)) = true then
      some ([], 0)
    else
      (f_strings_Split fuel a0 (⟨#[32]⟩ : ByteArray)).bind fun r1 =>
      match l_cards_Read_7 k (r1.length : Int) 0 [] r1 with
      | none => none
      | some (.exit d2) =>
        (f_cards_Check fuel d2.1).bind fun r3 =>
        if (r3 != 0) = true then
          some ([], r3)
        else
          some (d2.1, 0)
      | some (.ret d2) =>
        some ([], d2.1)
theorem l_cards_Read_7_step (m : Nat) (d : dens l_cards_Read_7H.tys) : l_cards_Read_7L.f (m + 1) d = round E_cards_Read LL_cards_Read m [32] 53 (loopN (bodyOf Tryd.f32) 0) l_cards_Read_7L (l_cards_Read_7L.f m) d := by kernel_rfl
theorem f_cards_Read_run (k : Nat) (x : denL [.str]) : runFn E_cards_Read LL_cards_Read k 32 Tryd.f32 [.str] [.fresh (.int .i64), .imm (.int .i64)] x = f_cards_Read k x := by kernel_rfl
noncomputable def S_cards_Read : Vm.Spec := { ps := [.str], rs := [.fresh (.int .i64), .imm (.int .i64)], f := fun x => f_cards_Read fuel x }
theorem f_cards_Read_holds : Vm.Spec.holds Tryd.prog 32 S_cards_Read := by
  have hB : BodiesOk Tryd.prog E_cards_Read := bodies_none rfl
  have hBS : BodiesStepped E_cards_Read LL_cards_Read := bodies_stepped_none rfl
  have hS : SpecsOk Tryd.prog E_cards_Read := specs_ok (by exact ⟨⟨by kernel_rfl, f_cards_Check_holds⟩, ⟨by kernel_rfl, f_strings_Split_holds⟩, ⟨by kernel_rfl, g46_holds⟩, trivial⟩)
  have hE : EOk Tryd.prog E_cards_Read := eok_te ok
  exact fn_sound (L := LL_cards_Read) hE hS hB (draws_ok hE hS (by kernel_rfl)) hBS (fn := Tryd.f32) (by kernel_rfl) (c := bodyOf Tryd.f32) (by kernel_rfl) (stepped_of (ls := [(7, l_cards_Read_7L)]) rfl rfl ⟨by kernel_rfl, fun _ => rfl, l_cards_Read_7_step, stepsI_end (by kernel_rfl)⟩) fun x r h => ⟨fuel, (f_cards_Read_run fuel x).trans h⟩

/-! gamehall/gamehallkeep2.cardsFact -/
noncomputable def E_gamehallkeep2_cardsFact : Env := { te := te, spec := [(11, S_cards_Fits), (14, S_cards_Fresh), (15, S_cards_Shuffle), (16, S_gamehallkeep2_fine), (18, S_slices_Equal_int), (28, S_cards_Draws), (29, S_cards_Cut), (30, S_cards_Deal), (31, S_cards_Text), (32, S_cards_Read), (33, S_cards_Check)], body := [] }
def LL_gamehallkeep2_cardsFact : Loops := []
def f_gamehallkeep2_cardsFact (k : Nat) : Option (Bool) :=
  (f_cards_Fresh fuel 3).bind fun r1 =>
  (f_cards_Shuffle fuel [0, 1, 2] [0, 0]).bind fun r2 =>
  (f_cards_Draws fuel [0, 1, 2] [1, 2, 0]).bind fun r3 =>
  (f_cards_Cut fuel [4, 5, 6] 1).bind fun r4 =>
  (f_cards_Deal fuel [5, 6, 7] 2 1).bind fun r5 =>
  (f_cards_Text fuel [0, 51]).bind fun r6 =>
  (f_cards_Read fuel (⟨#[50, 67, 32, 65, 83]⟩ : ByteArray)).bind fun r7 =>
  (f_gamehallkeep2_fine fuel [r1.2, r2.2, r3.2, r4.2, r5.2.2, r6.2, r7.2]).bind fun r8 =>
  if r8 = true then
    (f_slices_Equal_int fuel r1.1 [0, 1, 2]).bind fun r9 =>
    if r9 = true then
      (f_slices_Equal_int fuel r2.1 [1, 2, 0]).bind fun r10 =>
      if r10 = true then
        (f_slices_Equal_int fuel r3.1 [0, 0]).bind fun r11 =>
        if r11 = true then
          (f_slices_Equal_int fuel r4.1 [5, 6, 4]).bind fun r12 =>
          if r12 = true then
            if ((r5.1.length : Int) == 2) = true then
              if (1 : Int) < r5.1.length then
                (f_slices_Equal_int fuel (r5.1.getD 1 []) [6]).bind fun r13 =>
                if r13 = true then
                  (f_slices_Equal_int fuel r5.2.1 [7]).bind fun r14 =>
                  if r14 = true then
                    if ((r6.1.toList == (⟨#[50, 67, 32, 65, 83]⟩ : ByteArray).toList)) = true then
                      (f_slices_Equal_int fuel r7.1 [0, 51]).bind fun r15 =>
                      if r15 = true then
                        (f_cards_Check fuel [1, 1]).bind fun r16 =>
                        if (r16 == 7) = true then
                          (f_cards_Fits fuel 2 []).bind fun r17 =>
                          some (r17 == 3)
                        else
                          some false
                      else
                        some false
                    else
                      some false
                  else
                    some false
                else
                  some false
              else none
            else
              some false
          else
            some false
        else
          some false
      else
        some false
    else
      some false
  else
    some false
theorem f_gamehallkeep2_cardsFact_run (k : Nat) (x : denL []) : runFn E_gamehallkeep2_cardsFact LL_gamehallkeep2_cardsFact k 7 Tryd.f7 [] [.imm .bool] x = f_gamehallkeep2_cardsFact k := by kernel_rfl
noncomputable def S_gamehallkeep2_cardsFact : Vm.Spec := { ps := [], rs := [.imm .bool], f := fun x => f_gamehallkeep2_cardsFact fuel }
theorem f_gamehallkeep2_cardsFact_holds : Vm.Spec.holds Tryd.prog 7 S_gamehallkeep2_cardsFact := by
  have hB : BodiesOk Tryd.prog E_gamehallkeep2_cardsFact := bodies_none rfl
  have hBS : BodiesStepped E_gamehallkeep2_cardsFact LL_gamehallkeep2_cardsFact := bodies_stepped_none rfl
  have hS : SpecsOk Tryd.prog E_gamehallkeep2_cardsFact := specs_ok (by exact ⟨⟨by kernel_rfl, f_cards_Fits_holds⟩, ⟨by kernel_rfl, f_cards_Fresh_holds⟩, ⟨by kernel_rfl, f_cards_Shuffle_holds⟩, ⟨by kernel_rfl, f_gamehallkeep2_fine_holds⟩, ⟨by kernel_rfl, f_slices_Equal_int_holds⟩, ⟨by kernel_rfl, f_cards_Draws_holds⟩, ⟨by kernel_rfl, f_cards_Cut_holds⟩, ⟨by kernel_rfl, f_cards_Deal_holds⟩, ⟨by kernel_rfl, f_cards_Text_holds⟩, ⟨by kernel_rfl, f_cards_Read_holds⟩, ⟨by kernel_rfl, f_cards_Check_holds⟩, trivial⟩)
  have hE : EOk Tryd.prog E_gamehallkeep2_cardsFact := eok_te ok
  exact fn_sound (L := LL_gamehallkeep2_cardsFact) hE hS hB (draws_ok hE hS (by kernel_rfl)) hBS (fn := Tryd.f7) (by kernel_rfl) (c := bodyOf Tryd.f7) (by kernel_rfl) (stepped_none rfl) fun x r h => ⟨fuel, (f_gamehallkeep2_cardsFact_run fuel x).trans h⟩

/-! gamehall/deal.Seal -/
noncomputable def E_deal_Seal : Env := { te := te, spec := [], body := [(38, Tryd.f38)] }
def l_deal_Seal_1__deal_Seal_1H : Ann := { slots := [(0, .one (.val (.int .u64))), (1, .one (.fix (.pbox 20 0))), (3, .one (.val (.int .i64)))], objs := [(20, .box [.val (.int .u64)])] }
def l_deal_Seal_1__deal_Seal_1X : Ann := { slots := [], objs := [(20, .box [.val (.int .u64)])] }
def l_deal_Seal_1__deal_Seal_1R : Ann := { slots := [], objs := [] }
def l_deal_Seal_6H : Ann := { slots := [(6, .one (.fix (.clos 36))), (19, .one (.val (.slice (.int .i64)))), (20, .one (.val (.int .i64))), (21, .one (.val (.int .i64)))], objs := [(36, .clos 38 [.fix (.pbox 20 0)]), (20, .box [.val (.int .u64)])] }
def l_deal_Seal_6X : Ann := { slots := [], objs := [(36, .clos 38 [.fix (.pbox 20 0)]), (20, .box [.val (.int .u64)])] }
def l_deal_Seal_6R : Ann := { slots := [], objs := [] }
def l_deal_Seal_1__deal_Seal_1 : Nat → Int → Int → Int → Option (LR l_deal_Seal_1__deal_Seal_1X l_deal_Seal_1__deal_Seal_1R)
  | 0, _, _, _ => none
  | m + 1, s0, s3, b20_0 =>
    if decide (s3 < 8) = true then
      l_deal_Seal_1__deal_Seal_1 m (s0.fdiv (2 ^ 8)) (IntKind.i64.wrap (s3 + 1)) (IntKind.u64.wrap ((bitop .xor .u64 b20_0 (bitop .and .u64 s0 255)) * 1099511628211))
    else
      some (.exit (b20_0, ()))
def l_deal_Seal_1__deal_Seal_1L : LSpec := { h := l_deal_Seal_1__deal_Seal_1H, x := l_deal_Seal_1__deal_Seal_1X, r := l_deal_Seal_1__deal_Seal_1R, xid := 0, rt := false, pins := [20], f := fun k d => l_deal_Seal_1__deal_Seal_1 k d.1 d.2.1 d.2.2.1 }
def l_deal_Seal_6 : Nat → List Int → Int → Int → Int → Option (LR l_deal_Seal_6X l_deal_Seal_6R)
  | 0, _, _, _, _ => none
  | m + 1, s19, s20, s21, b20_0 =>
    if decide (s21 < s20) = true then
      if (0 : Int) ≤ s21 then
        if s21 < s19.length then
          match l_deal_Seal_1__deal_Seal_1 m (IntKind.u64.wrap (s19.getD s21.toNat 0)) 0 b20_0 with
          | none => none
          | some (.exit d1) =>
            l_deal_Seal_6 m s19 s20 (IntKind.i64.wrap (s21 + 1)) d1.1
          | some (.ret d1) =>
            none
        else none
      else none
    else
      some (.exit (b20_0, ()))
def l_deal_Seal_6L : LSpec := { h := l_deal_Seal_6H, x := l_deal_Seal_6X, r := l_deal_Seal_6R, xid := 0, rt := false, pins := [36, 20], f := fun k d => l_deal_Seal_6 k d.1 d.2.1 d.2.2.1 d.2.2.2.1 }
def LL_deal_Seal : Loops := [([38, 24], [(1, l_deal_Seal_1__deal_Seal_1L)]), ([24], [(6, l_deal_Seal_6L)])]
def f_deal_Seal (k : Nat) (a0 : List Int) (a1 : Int) : Option (Int) :=
  match l_deal_Seal_1__deal_Seal_1 k (IntKind.u64.wrap (a1)) 0 14695981039346656037 with
  | none => none
  | some (.exit d1) =>
    match l_deal_Seal_1__deal_Seal_1 k (IntKind.u64.wrap ((a0.length : Int))) 0 d1.1 with
    | none => none
    | some (.exit d2) =>
      match l_deal_Seal_6 k a0 (a0.length : Int) 0 d2.1 with
      | none => none
      | some (.exit d3) =>
        some d3.1
      | some (.ret d3) =>
        none
    | some (.ret d2) =>
      none
  | some (.ret d1) =>
    none
theorem l_deal_Seal_1__deal_Seal_1_step (m : Nat) (d : dens l_deal_Seal_1__deal_Seal_1H.tys) : l_deal_Seal_1__deal_Seal_1L.f (m + 1) d = round E_deal_Seal LL_deal_Seal m [38, 24] 14 (loopN (bodyOf Tryd.f38) 0) l_deal_Seal_1__deal_Seal_1L (l_deal_Seal_1__deal_Seal_1L.f m) d := by kernel_rfl
theorem l_deal_Seal_6_step (m : Nat) (d : dens l_deal_Seal_6H.tys) : l_deal_Seal_6L.f (m + 1) d = round E_deal_Seal LL_deal_Seal m [24] 31 (loopN (bodyOf Tryd.f24) 0) l_deal_Seal_6L (l_deal_Seal_6L.f m) d := by kernel_rfl
theorem f_deal_Seal_run (k : Nat) (x : denL [.slice (.int .i64), .int .i64]) : runFn E_deal_Seal LL_deal_Seal k 24 Tryd.f24 [.slice (.int .i64), .int .i64] [.imm (.int .u64)] x = f_deal_Seal k x.1 x.2 := by kernel_rfl
noncomputable def S_deal_Seal : Vm.Spec := { ps := [.slice (.int .i64), .int .i64], rs := [.imm (.int .u64)], f := fun x => f_deal_Seal fuel x.1 x.2 }
theorem f_deal_Seal_holds : Vm.Spec.holds Tryd.prog 24 S_deal_Seal := by
  have hB : BodiesOk Tryd.prog E_deal_Seal := bodies_ok (by exact ⟨by kernel_rfl, by kernel_rfl, trivial⟩)
  have hBS : BodiesStepped E_deal_Seal LL_deal_Seal := by
    refine bodies_stepped ?_
    exact ⟨(stepped_paths [[24]] (by exact ⟨stepped_of (ls := [(1, l_deal_Seal_1__deal_Seal_1L)]) rfl rfl ⟨by kernel_rfl, fun _ => rfl, l_deal_Seal_1__deal_Seal_1_step, stepsI_end (by kernel_rfl)⟩,  trivial⟩) rfl),  trivial⟩
  have hS : SpecsOk Tryd.prog E_deal_Seal := specs_ok (by exact trivial)
  have hE : EOk Tryd.prog E_deal_Seal := eok_te ok
  exact fn_sound (L := LL_deal_Seal) hE hS hB (draws_ok hE hS (by kernel_rfl)) hBS (fn := Tryd.f24) (by kernel_rfl) (c := bodyOf Tryd.f24) (by kernel_rfl) (stepped_of (ls := [(6, l_deal_Seal_6L)]) rfl rfl ⟨by kernel_rfl, fun _ => rfl, l_deal_Seal_6_step, stepsI_end (by kernel_rfl)⟩) fun x r h => ⟨fuel, (f_deal_Seal_run fuel x).trans h⟩

/-! gamehall/deal.Combine -/
noncomputable def E_deal_Combine : Env := { te := te, spec := [(11, S_cards_Fits)], body := [] }
def l_deal_Combine_6H : Ann := { slots := [(0, .one (.val (.int .i64))), (23, .one (.val (.slice (.slice (.int .i64))))), (24, .one (.val (.int .i64))), (25, .one (.val (.int .i64)))], objs := [] }
def l_deal_Combine_6X : Ann := { slots := [], objs := [] }
def l_deal_Combine_6R : Ann := { slots := [(4, .one (.fix .nil)), (5, .one (.val (.int .i64)))], objs := [] }
def l_deal_Combine_18H : Ann := { slots := [(10, .one (.val (.int .i64))), (11, .one (.val (.int .i64))), (42, .one (.val (.slice (.slice (.int .i64))))), (43, .one (.val (.int .i64))), (44, .one (.val (.int .i64)))], objs := [] }
def l_deal_Combine_18X : Ann := { slots := [(11, .one (.val (.int .i64)))], objs := [] }
def l_deal_Combine_18R : Ann := { slots := [], objs := [] }
def l_deal_Combine_14H : Ann := { slots := [(0, .one (.val (.int .i64))), (1, .one (.val (.slice (.slice (.int .i64))))), (9, .one (.own 248 (.int .i64))), (38, .one (.val (.int .i64))), (39, .one (.val (.int .i64)))], objs := [(248, .buf (.int .i64))] }
def l_deal_Combine_14X : Ann := { slots := [(9, .one (.own 248 (.int .i64)))], objs := [(248, .buf (.int .i64))] }
def l_deal_Combine_14R : Ann := { slots := [], objs := [] }
def l_deal_Combine_6 : Nat → Int → List (List Int) → Int → Int → Option (LR l_deal_Combine_6X l_deal_Combine_6R)
  | 0, _, _, _, _ => none
  | m + 1, s0, s23, s24, s25 =>
    if decide (s25 < s24) = true then
      if (0 : Int) ≤ s25 then
        if s25 < s23.length then
          (f_cards_Fits fuel s0 (s23.getD s25.toNat [])).bind fun r1 =>
          if (r1 != 0) = true then
            some (.ret (r1, ()))
          else
            l_deal_Combine_6 m s0 s23 s24 (IntKind.i64.wrap (s25 + 1))
        else none
      else none
    else
      some (.exit ())
def l_deal_Combine_6L : LSpec := { h := l_deal_Combine_6H, x := l_deal_Combine_6X, r := l_deal_Combine_6R, xid := 0, rt := true, pins := [], f := fun k d => l_deal_Combine_6 k d.1 d.2.1 d.2.2.1 d.2.2.2.1 }
def l_deal_Combine_18 : Nat → Int → Int → List (List Int) → Int → Int → Option (LR l_deal_Combine_18X l_deal_Combine_18R)
  | 0, _, _, _, _, _ => none
  | m + 1, s10, s11, s42, s43, s44 =>
    if decide (s44 < s43) = true then
      if (0 : Int) ≤ s44 then
        if s44 < s42.length then
          if (0 : Int) ≤ s10 then
            if s10 < (s42.getD s44.toNat []).length then
              l_deal_Combine_18 m s10 (IntKind.i64.wrap (s11 + ((s42.getD s44.toNat []).getD s10.toNat 0))) s42 s43 (IntKind.i64.wrap (s44 + 1))
            else none
          else none
        else none
      else none
    else
      some (.exit (s11, ()))
def l_deal_Combine_18L : LSpec := { h := l_deal_Combine_18H, x := l_deal_Combine_18X, r := l_deal_Combine_18R, xid := 4, rt := false, pins := [], f := fun k d => l_deal_Combine_18 k d.1 d.2.1 d.2.2.1 d.2.2.2.1 d.2.2.2.2.1 }
def l_deal_Combine_14 : Nat → Int → List (List Int) → Int → Int → List Int → Option (LR l_deal_Combine_14X l_deal_Combine_14R)
  | 0, _, _, _, _, _ => none
  | m + 1, s0, s1, s38, s39, b248 =>
    if decide (s39 < s38) = true then
      match l_deal_Combine_18 m s39 0 s1 (s1.length : Int) 0 with
      | none => none
      | some (.exit d1) =>
        if IntKind.i64.wrap (s0 - s39) = 0 then
          none
        else
          if (b248.length + 1) * 8 ≤ 140737488355328 then
            l_deal_Combine_14 m s0 s1 s38 (IntKind.i64.wrap (s39 + 1)) (b248 ++ [d1.1.tmod (IntKind.i64.wrap (s0 - s39))])
          else none
      | some (.ret d1) =>
        none
    else
      some (.exit (b248, ()))
def l_deal_Combine_14L : LSpec := { h := l_deal_Combine_14H, x := l_deal_Combine_14X, r := l_deal_Combine_14R, xid := 2, rt := false, pins := [], f := fun k d => l_deal_Combine_14 k d.1 d.2.1 d.2.2.1 d.2.2.2.1 d.2.2.2.2.1 }
def LL_deal_Combine : Loops := [([13], [(6, l_deal_Combine_6L), (14, l_deal_Combine_14L), (18, l_deal_Combine_18L)])]
def f_deal_Combine (k : Nat) (a0 : Int) (a1 : List (List Int)) : Option (List Int × Int) :=
  if decide (a0 < 0) = false then
    if decide (a0 > 52) = true then
      some ([], 4)
    else
      if decide ((a1.length : Int) > 6) = true then
        some ([], 2)
      else
        match l_deal_Combine_6 k a0 a1 (a1.length : Int) 0 with
        | none => none
        | some (.exit d1) =>
          match l_deal_Combine_14 k a0 a1 (if IntKind.i64.wrap (a0 - 1) > 0 then IntKind.i64.wrap (a0 - 1) else 0) 0 [] with
          | none => none
          | some (.exit d2) =>
            some (d2.1, 0)
          | some (.ret d2) =>
            none
        | some (.ret d1) =>
          some ([], d1.1)
  else
    some ([], 4)
theorem l_deal_Combine_6_step (m : Nat) (d : dens l_deal_Combine_6H.tys) : l_deal_Combine_6L.f (m + 1) d = round E_deal_Combine LL_deal_Combine m [13] 65 (loopN (bodyOf Tryd.f13) 0) l_deal_Combine_6L (l_deal_Combine_6L.f m) d := by kernel_rfl
theorem l_deal_Combine_18_step (m : Nat) (d : dens l_deal_Combine_18H.tys) : l_deal_Combine_18L.f (m + 1) d = round E_deal_Combine LL_deal_Combine m [13] 65 (loopN (bodyOf Tryd.f13) 2) l_deal_Combine_18L (l_deal_Combine_18L.f m) d := by kernel_rfl
theorem l_deal_Combine_14_step (m : Nat) (d : dens l_deal_Combine_14H.tys) : l_deal_Combine_14L.f (m + 1) d = round E_deal_Combine LL_deal_Combine m [13] 65 (loopN (bodyOf Tryd.f13) 1) l_deal_Combine_14L (l_deal_Combine_14L.f m) d := by kernel_rfl
theorem f_deal_Combine_run (k : Nat) (x : denL [.int .i64, .slice (.slice (.int .i64))]) : runFn E_deal_Combine LL_deal_Combine k 13 Tryd.f13 [.int .i64, .slice (.slice (.int .i64))] [.fresh (.int .i64), .imm (.int .i64)] x = f_deal_Combine k x.1 x.2 := by kernel_rfl
noncomputable def S_deal_Combine : Vm.Spec := { ps := [.int .i64, .slice (.slice (.int .i64))], rs := [.fresh (.int .i64), .imm (.int .i64)], f := fun x => f_deal_Combine fuel x.1 x.2 }
theorem f_deal_Combine_holds : Vm.Spec.holds Tryd.prog 13 S_deal_Combine := by
  have hB : BodiesOk Tryd.prog E_deal_Combine := bodies_none rfl
  have hBS : BodiesStepped E_deal_Combine LL_deal_Combine := bodies_stepped_none rfl
  have hS : SpecsOk Tryd.prog E_deal_Combine := specs_ok (by exact ⟨⟨by kernel_rfl, f_cards_Fits_holds⟩, trivial⟩)
  have hE : EOk Tryd.prog E_deal_Combine := eok_te ok
  exact fn_sound (L := LL_deal_Combine) hE hS hB (draws_ok hE hS (by kernel_rfl)) hBS (fn := Tryd.f13) (by kernel_rfl) (c := bodyOf Tryd.f13) (by kernel_rfl) (stepped_of (ls := [(6, l_deal_Combine_6L), (14, l_deal_Combine_14L), (18, l_deal_Combine_18L)]) rfl rfl ⟨by kernel_rfl, fun _ => rfl, l_deal_Combine_6_step, by kernel_rfl, fun _ => rfl, l_deal_Combine_14_step, by kernel_rfl, fun _ => rfl, l_deal_Combine_18_step, stepsI_end (by kernel_rfl)⟩) fun x r h => ⟨fuel, (f_deal_Combine_run fuel x).trans h⟩

end Go.Proofs.YtnlclnheakhncaaDoor
