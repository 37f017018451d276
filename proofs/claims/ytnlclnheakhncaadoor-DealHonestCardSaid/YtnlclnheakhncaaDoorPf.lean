/- Pure functions, printed by a program of this session out of the program. -/
import Derived.Test.YtnlclnheakhncaaDoorVmD
import Derived.Test.YtnlclnheakhncaaDoorSh
set_option linter.unusedVariables false
namespace Go.Proofs.YtnlclnheakhncaaDoor
open Go Vm Go.Proofs
def te : TE := [(3, ⟨.int .i64, .sc, 8⟩),
  (4, ⟨.bool, .sc, 1⟩),
  (9, ⟨.str, .sc, 16⟩),
  (22, ⟨.slice (.slice (.int .i64)), .slice 26, 24⟩),
  (26, ⟨.slice (.int .i64), .slice 3, 24⟩),
  (27, ⟨.int .i64, .sc, 8⟩),
  (30, ⟨.opq, .ptr 70, 8⟩),
  (46, ⟨.int .u64, .sc, 8⟩),
  (61, ⟨.int .u64, .sc, 8⟩),
  (64, ⟨.slice (.int .i64), .slice 27, 24⟩),
  (67, ⟨.slice .bool, .slice 4, 24⟩),
  (68, ⟨.slice (.int .u64), .slice 46, 24⟩),
  (70, ⟨.pair (.int .i64) (.pair (.int .i64) (.pair (.slice .bool) (.pair (.slice .bool) (.pair (.slice (.int .u64)) (.pair (.slice (.slice (.int .i64))) (.int .i64)))))), .st [3, 3, 67, 67, 68, 22, 3], 120⟩),
  (75, ⟨.slice .str, .slice 9, 24⟩)]
theorem ok : EOk Tryd.prog ⟨te, [], []⟩ := eok_of (by kernel_rfl)
/-! slices.Index[[]int,int] -/
noncomputable def E_slices_Index_int : Env := { te := te, spec := [], body := [] }
def l_slices_Index_int_2H : Ann := { slots := [(0, .one (.val (.slice (.int .i64)))), (1, .one (.val (.int .i64))), (7, .one (.val (.int .i64))), (8, .one (.val (.int .i64)))], objs := [] }
def l_slices_Index_int_2X : Ann := { slots := [], objs := [] }
def l_slices_Index_int_2R : Ann := { slots := [(4, .one (.val (.int .i64)))], objs := [] }
def l_slices_Index_int_2 : Nat → List Int → Int → Int → Int → Option (LR l_slices_Index_int_2X l_slices_Index_int_2R)
  | 0, _, _, _, _ => none
  | m + 1, s0, s1, s7, s8 =>
    if decide (s8 < s7) = true then
      if (0 : Int) ≤ s8 then
        if s8 < s0.length then
          if (s1 == s0.getD s8.toNat 0) = true then
            some (.ret (s8, ()))
          else
            l_slices_Index_int_2 m s0 s1 s7 (IntKind.i64.wrap (s8 + 1))
        else none
      else none
    else
      some (.exit ())
def l_slices_Index_int_2L : LSpec := { h := l_slices_Index_int_2H, x := l_slices_Index_int_2X, r := l_slices_Index_int_2R, xid := 0, rt := true, pins := [], f := fun k d => l_slices_Index_int_2 k d.1 d.2.1 d.2.2.1 d.2.2.2.1 }
def LL_slices_Index_int : Loops := [([40], [(2, l_slices_Index_int_2L)])]
def f_slices_Index_int (k : Nat) (a0 : List Int) (a1 : Int) : Option (Int) :=
  match l_slices_Index_int_2 k a0 a1 (a0.length : Int) 0 with
  | none => none
  | some (.exit d1) =>
    some (-1)
  | some (.ret d1) =>
    some d1.1
theorem l_slices_Index_int_2_step (m : Nat) (d : dens l_slices_Index_int_2H.tys) : l_slices_Index_int_2L.f (m + 1) d = round E_slices_Index_int LL_slices_Index_int m [40] 19 (loopN (bodyOf Tryd.f40) 0) l_slices_Index_int_2L (l_slices_Index_int_2L.f m) d := by kernel_rfl
theorem f_slices_Index_int_run (k : Nat) (x : denL [.slice (.int .i64), .int .i64]) : runFn E_slices_Index_int LL_slices_Index_int k 40 Tryd.f40 [.slice (.int .i64), .int .i64] [.imm (.int .i64)] x = f_slices_Index_int k x.1 x.2 := by kernel_rfl
noncomputable def S_slices_Index_int : Vm.Spec := { ps := [.slice (.int .i64), .int .i64], rs := [.imm (.int .i64)], f := fun x => f_slices_Index_int fuel x.1 x.2 }
theorem f_slices_Index_int_holds : Vm.Spec.holds Tryd.prog 40 S_slices_Index_int := by
  have hB : BodiesOk Tryd.prog E_slices_Index_int := bodies_none rfl
  have hBS : BodiesStepped E_slices_Index_int LL_slices_Index_int := bodies_stepped_none rfl
  have hS : SpecsOk Tryd.prog E_slices_Index_int := specs_ok (by exact trivial)
  have hE : EOk Tryd.prog E_slices_Index_int := eok_te ok
  exact fn_sound (L := LL_slices_Index_int) hE hS hB (draws_ok hE hS (by kernel_rfl)) hBS (fn := Tryd.f40) (by kernel_rfl) (c := bodyOf Tryd.f40) (by kernel_rfl) (stepped_of (ls := [(2, l_slices_Index_int_2L)]) rfl rfl ⟨by kernel_rfl, fun _ => rfl, l_slices_Index_int_2_step, stepsI_end (by kernel_rfl)⟩) fun x r h => ⟨fuel, (f_slices_Index_int_run fuel x).trans h⟩

/-! slices.Contains[[]int,int] -/
noncomputable def E_slices_Contains_int : Env := { te := te, spec := [(40, S_slices_Index_int)], body := [] }
def LL_slices_Contains_int : Loops := []
def f_slices_Contains_int (k : Nat) (a0 : List Int) (a1 : Int) : Option (Bool) :=
  (f_slices_Index_int fuel a0 a1).bind fun r1 =>
  some (decide (r1 ≥ 0))
theorem f_slices_Contains_int_run (k : Nat) (x : denL [.slice (.int .i64), .int .i64]) : runFn E_slices_Contains_int LL_slices_Contains_int k 47 Tryd.f47 [.slice (.int .i64), .int .i64] [.imm .bool] x = f_slices_Contains_int k x.1 x.2 := by kernel_rfl
noncomputable def S_slices_Contains_int : Vm.Spec := { ps := [.slice (.int .i64), .int .i64], rs := [.imm .bool], f := fun x => f_slices_Contains_int fuel x.1 x.2 }
theorem f_slices_Contains_int_holds : Vm.Spec.holds Tryd.prog 47 S_slices_Contains_int := by
  have hB : BodiesOk Tryd.prog E_slices_Contains_int := bodies_none rfl
  have hBS : BodiesStepped E_slices_Contains_int LL_slices_Contains_int := bodies_stepped_none rfl
  have hS : SpecsOk Tryd.prog E_slices_Contains_int := specs_ok (by exact ⟨⟨by kernel_rfl, f_slices_Index_int_holds⟩, trivial⟩)
  have hE : EOk Tryd.prog E_slices_Contains_int := eok_te ok
  exact fn_sound (L := LL_slices_Contains_int) hE hS hB (draws_ok hE hS (by kernel_rfl)) hBS (fn := Tryd.f47) (by kernel_rfl) (c := bodyOf Tryd.f47) (by kernel_rfl) (stepped_none rfl) fun x r h => ⟨fuel, (f_slices_Contains_int_run fuel x).trans h⟩

/-! slices.Index[[]bool,bool] -/
noncomputable def E_slices_Index_bool : Env := { te := te, spec := [], body := [] }
def l_slices_Index_bool_2H : Ann := { slots := [(0, .one (.val (.slice .bool))), (1, .one (.val .bool)), (7, .one (.val (.int .i64))), (8, .one (.val (.int .i64)))], objs := [] }
def l_slices_Index_bool_2X : Ann := { slots := [], objs := [] }
def l_slices_Index_bool_2R : Ann := { slots := [(4, .one (.val (.int .i64)))], objs := [] }
def l_slices_Index_bool_2 : Nat → List Bool → Bool → Int → Int → Option (LR l_slices_Index_bool_2X l_slices_Index_bool_2R)
  | 0, _, _, _, _ => none
  | m + 1, s0, s1, s7, s8 =>
    if decide (s8 < s7) = true then
      if (0 : Int) ≤ s8 then
        if s8 < s0.length then
          if (s1 == s0.getD s8.toNat false) = true then
            some (.ret (s8, ()))
          else
            l_slices_Index_bool_2 m s0 s1 s7 (IntKind.i64.wrap (s8 + 1))
        else none
      else none
    else
      some (.exit ())
def l_slices_Index_bool_2L : LSpec := { h := l_slices_Index_bool_2H, x := l_slices_Index_bool_2X, r := l_slices_Index_bool_2R, xid := 0, rt := true, pins := [], f := fun k d => l_slices_Index_bool_2 k d.1 d.2.1 d.2.2.1 d.2.2.2.1 }
def LL_slices_Index_bool : Loops := [([49], [(2, l_slices_Index_bool_2L)])]
def f_slices_Index_bool (k : Nat) (a0 : List Bool) (a1 : Bool) : Option (Int) :=
  match l_slices_Index_bool_2 k a0 a1 (a0.length : Int) 0 with
  | none => none
  | some (.exit d1) =>
    some (-1)
  | some (.ret d1) =>
    some d1.1
theorem l_slices_Index_bool_2_step (m : Nat) (d : dens l_slices_Index_bool_2H.tys) : l_slices_Index_bool_2L.f (m + 1) d = round E_slices_Index_bool LL_slices_Index_bool m [49] 19 (loopN (bodyOf Tryd.f49) 0) l_slices_Index_bool_2L (l_slices_Index_bool_2L.f m) d := by kernel_rfl
theorem f_slices_Index_bool_run (k : Nat) (x : denL [.slice .bool, .bool]) : runFn E_slices_Index_bool LL_slices_Index_bool k 49 Tryd.f49 [.slice .bool, .bool] [.imm (.int .i64)] x = f_slices_Index_bool k x.1 x.2 := by kernel_rfl
noncomputable def S_slices_Index_bool : Vm.Spec := { ps := [.slice .bool, .bool], rs := [.imm (.int .i64)], f := fun x => f_slices_Index_bool fuel x.1 x.2 }
theorem f_slices_Index_bool_holds : Vm.Spec.holds Tryd.prog 49 S_slices_Index_bool := by
  have hB : BodiesOk Tryd.prog E_slices_Index_bool := bodies_none rfl
  have hBS : BodiesStepped E_slices_Index_bool LL_slices_Index_bool := bodies_stepped_none rfl
  have hS : SpecsOk Tryd.prog E_slices_Index_bool := specs_ok (by exact trivial)
  have hE : EOk Tryd.prog E_slices_Index_bool := eok_te ok
  exact fn_sound (L := LL_slices_Index_bool) hE hS hB (draws_ok hE hS (by kernel_rfl)) hBS (fn := Tryd.f49) (by kernel_rfl) (c := bodyOf Tryd.f49) (by kernel_rfl) (stepped_of (ls := [(2, l_slices_Index_bool_2L)]) rfl rfl ⟨by kernel_rfl, fun _ => rfl, l_slices_Index_bool_2_step, stepsI_end (by kernel_rfl)⟩) fun x r h => ⟨fuel, (f_slices_Index_bool_run fuel x).trans h⟩

/-! slices.Contains[[]bool,bool] -/
noncomputable def E_slices_Contains_bool : Env := { te := te, spec := [(49, S_slices_Index_bool)], body := [] }
def LL_slices_Contains_bool : Loops := []
def f_slices_Contains_bool (k : Nat) (a0 : List Bool) (a1 : Bool) : Option (Bool) :=
  (f_slices_Index_bool fuel a0 a1).bind fun r1 =>
  some (decide (r1 ≥ 0))
theorem f_slices_Contains_bool_run (k : Nat) (x : denL [.slice .bool, .bool]) : runFn E_slices_Contains_bool LL_slices_Contains_bool k 39 Tryd.f39 [.slice .bool, .bool] [.imm .bool] x = f_slices_Contains_bool k x.1 x.2 := by kernel_rfl
noncomputable def S_slices_Contains_bool : Vm.Spec := { ps := [.slice .bool, .bool], rs := [.imm .bool], f := fun x => f_slices_Contains_bool fuel x.1 x.2 }
theorem f_slices_Contains_bool_holds : Vm.Spec.holds Tryd.prog 39 S_slices_Contains_bool := by
  have hB : BodiesOk Tryd.prog E_slices_Contains_bool := bodies_none rfl
  have hBS : BodiesStepped E_slices_Contains_bool LL_slices_Contains_bool := bodies_stepped_none rfl
  have hS : SpecsOk Tryd.prog E_slices_Contains_bool := specs_ok (by exact ⟨⟨by kernel_rfl, f_slices_Index_bool_holds⟩, trivial⟩)
  have hE : EOk Tryd.prog E_slices_Contains_bool := eok_te ok
  exact fn_sound (L := LL_slices_Contains_bool) hE hS hB (draws_ok hE hS (by kernel_rfl)) hBS (fn := Tryd.f39) (by kernel_rfl) (c := bodyOf Tryd.f39) (by kernel_rfl) (stepped_none rfl) fun x r h => ⟨fuel, (f_slices_Contains_bool_run fuel x).trans h⟩

/-! slices.Clone[[]int,int] -/
noncomputable def E_slices_Clone_int : Env := { te := te, spec := [], body := [] }
def LL_slices_Clone_int : Loops := []
def f_slices_Clone_int (k : Nat) (a0 : Option (List Int)) : Option (List Int) :=
  if a0.isNone = true then
    some []
  else
    if (0 + (a0.getD []).length) * 8 ≤ 140737488355328 then
      some ([] ++ (a0.getD []))
    else none
theorem f_slices_Clone_int_run (k : Nat) (x : denL [.nsl (.int .i64)]) : runFn E_slices_Clone_int LL_slices_Clone_int k 35 Tryd.f35 [.nsl (.int .i64)] [.fresh (.int .i64)] x = f_slices_Clone_int k x := by kernel_rfl
noncomputable def S_slices_Clone_int : Vm.Spec := { ps := [.nsl (.int .i64)], rs := [.fresh (.int .i64)], f := fun x => f_slices_Clone_int fuel x }
theorem f_slices_Clone_int_holds : Vm.Spec.holds Tryd.prog 35 S_slices_Clone_int := by
  have hB : BodiesOk Tryd.prog E_slices_Clone_int := bodies_none rfl
  have hBS : BodiesStepped E_slices_Clone_int LL_slices_Clone_int := bodies_stepped_none rfl
  have hS : SpecsOk Tryd.prog E_slices_Clone_int := specs_ok (by exact trivial)
  have hE : EOk Tryd.prog E_slices_Clone_int := eok_te ok
  exact fn_sound (L := LL_slices_Clone_int) hE hS hB (draws_ok hE hS (by kernel_rfl)) hBS (fn := Tryd.f35) (by kernel_rfl) (c := bodyOf Tryd.f35) (by kernel_rfl) (stepped_none rfl) fun x r h => ⟨fuel, (f_slices_Clone_int_run fuel x).trans h⟩

def f_slices_Clone_ints (x : List Int) := f_slices_Clone_int fuel (some x)
noncomputable def S_slices_Clone_ints : Vm.Spec := { ps := [.slice (.int .i64)], rs := [.fresh (.int .i64)], f := f_slices_Clone_ints }
theorem f_slices_Clone_ints_holds : Vm.Spec.holds Tryd.prog 35 S_slices_Clone_ints := holds_nsl f_slices_Clone_int_holds fun xs r h => ⟨h, fun e => by subst e; exact h⟩

/-! slices.Equal[[]int,int] -/
noncomputable def E_slices_Equal_int : Env := { te := te, spec := [], body := [] }
def l_slices_Equal_int_4H : Ann := { slots := [(0, .one (.val (.slice (.int .i64)))), (1, .one (.val (.slice (.int .i64)))), (12, .one (.val (.int .i64))), (13, .one (.val (.int .i64)))], objs := [] }
def l_slices_Equal_int_4X : Ann := { slots := [], objs := [] }
def l_slices_Equal_int_4R : Ann := { slots := [(4, .one (.val .bool))], objs := [] }
def l_slices_Equal_int_4 : Nat → List Int → List Int → Int → Int → Option (LR l_slices_Equal_int_4X l_slices_Equal_int_4R)
  | 0, _, _, _, _ => none
  | m + 1, s0, s1, s12, s13 =>
    if decide (s13 < s12) = true then
      if (0 : Int) ≤ s13 then
        if s13 < s0.length then
          if (0 : Int) ≤ s13 then
            if s13 < s1.length then
              if (s0.getD s13.toNat 0 != s1.getD s13.toNat 0) = true then
                some (.ret (false, ()))
              else
                l_slices_Equal_int_4 m s0 s1 s12 (IntKind.i64.wrap (s13 + 1))
            else none
          else none
        else none
      else none
    else
      some (.exit ())
def l_slices_Equal_int_4L : LSpec := { h := l_slices_Equal_int_4H, x := l_slices_Equal_int_4X, r := l_slices_Equal_int_4R, xid := 0, rt := true, pins := [], f := fun k d => l_slices_Equal_int_4 k d.1 d.2.1 d.2.2.1 d.2.2.2.1 }
def LL_slices_Equal_int : Loops := [([18], [(4, l_slices_Equal_int_4L)])]
def f_slices_Equal_int (k : Nat) (a0 : List Int) (a1 : List Int) : Option (Bool) :=
  if ((a0.length : Int) != (a1.length : Int)) = true then
    some false
  else
    match l_slices_Equal_int_4 k a0 a1 (a0.length : Int) 0 with
    | none => none
    | some (.exit d1) =>
      some true
    | some (.ret d1) =>
      some d1.1
theorem l_slices_Equal_int_4_step (m : Nat) (d : dens l_slices_Equal_int_4H.tys) : l_slices_Equal_int_4L.f (m + 1) d = round E_slices_Equal_int LL_slices_Equal_int m [18] 26 (loopN (bodyOf Tryd.f18) 0) l_slices_Equal_int_4L (l_slices_Equal_int_4L.f m) d := by kernel_rfl
theorem f_slices_Equal_int_run (k : Nat) (x : denL [.slice (.int .i64), .slice (.int .i64)]) : runFn E_slices_Equal_int LL_slices_Equal_int k 18 Tryd.f18 [.slice (.int .i64), .slice (.int .i64)] [.imm .bool] x = f_slices_Equal_int k x.1 x.2 := by kernel_rfl
noncomputable def S_slices_Equal_int : Vm.Spec := { ps := [.slice (.int .i64), .slice (.int .i64)], rs := [.imm .bool], f := fun x => f_slices_Equal_int fuel x.1 x.2 }
theorem f_slices_Equal_int_holds : Vm.Spec.holds Tryd.prog 18 S_slices_Equal_int := by
  have hB : BodiesOk Tryd.prog E_slices_Equal_int := bodies_none rfl
  have hBS : BodiesStepped E_slices_Equal_int LL_slices_Equal_int := bodies_stepped_none rfl
  have hS : SpecsOk Tryd.prog E_slices_Equal_int := specs_ok (by exact trivial)
  have hE : EOk Tryd.prog E_slices_Equal_int := eok_te ok
  exact fn_sound (L := LL_slices_Equal_int) hE hS hB (draws_ok hE hS (by kernel_rfl)) hBS (fn := Tryd.f18) (by kernel_rfl) (c := bodyOf Tryd.f18) (by kernel_rfl) (stepped_of (ls := [(4, l_slices_Equal_int_4L)]) rfl rfl ⟨by kernel_rfl, fun _ => rfl, l_slices_Equal_int_4_step, stepsI_end (by kernel_rfl)⟩) fun x r h => ⟨fuel, (f_slices_Equal_int_run fuel x).trans h⟩

/-! gamehall/gamehallkeep2.fine -/
noncomputable def E_gamehallkeep2_fine : Env := { te := te, spec := [], body := [(36, Tryd.f36), (37, Tryd.f37), (48, Tryd.f48)] }
def l_slices_IndexFunc_Errno__slices_ContainsFunc_Errno__gamehallkeep2_fine_2H : Ann := { slots := [(0, .one (.val (.slice (.int .i64)))), (1, .one (.fix (.func 37))), (7, .one (.val (.int .i64))), (8, .one (.val (.int .i64)))], objs := [] }
def l_slices_IndexFunc_Errno__slices_ContainsFunc_Errno__gamehallkeep2_fine_2X : Ann := { slots := [], objs := [] }
def l_slices_IndexFunc_Errno__slices_ContainsFunc_Errno__gamehallkeep2_fine_2R : Ann := { slots := [(4, .one (.val (.int .i64)))], objs := [] }
def l_slices_IndexFunc_Errno__slices_ContainsFunc_Errno__gamehallkeep2_fine_2 : Nat → List Int → Int → Int → Option (LR l_slices_IndexFunc_Errno__slices_ContainsFunc_Errno__gamehallkeep2_fine_2X l_slices_IndexFunc_Errno__slices_ContainsFunc_Errno__gamehallkeep2_fine_2R)
  | 0, _, _, _ => none
  | m + 1, s0, s7, s8 =>
    if decide (s8 < s7) = true then
      if (0 : Int) ≤ s8 then
        if s8 < s0.length then
          if (s0.getD s8.toNat 0 != 0) = true then
            some (.ret (s8, ()))
          else
            l_slices_IndexFunc_Errno__slices_ContainsFunc_Errno__gamehallkeep2_fine_2 m s0 s7 (IntKind.i64.wrap (s8 + 1))
        else none
      else none
    else
      some (.exit ())
def l_slices_IndexFunc_Errno__slices_ContainsFunc_Errno__gamehallkeep2_fine_2L : LSpec := { h := l_slices_IndexFunc_Errno__slices_ContainsFunc_Errno__gamehallkeep2_fine_2H, x := l_slices_IndexFunc_Errno__slices_ContainsFunc_Errno__gamehallkeep2_fine_2X, r := l_slices_IndexFunc_Errno__slices_ContainsFunc_Errno__gamehallkeep2_fine_2R, xid := 0, rt := true, pins := [], f := fun k d => l_slices_IndexFunc_Errno__slices_ContainsFunc_Errno__gamehallkeep2_fine_2 k d.1 d.2.1 d.2.2.1 }
def LL_gamehallkeep2_fine : Loops := [([48, 36, 16], [(2, l_slices_IndexFunc_Errno__slices_ContainsFunc_Errno__gamehallkeep2_fine_2L)])]
def f_gamehallkeep2_fine (k : Nat) (a0 : List Int) : Option (Bool) :=
  match l_slices_IndexFunc_Errno__slices_ContainsFunc_Errno__gamehallkeep2_fine_2 k a0 (a0.length : Int) 0 with
  | none => none
  | some (.exit d1) =>
    some true
  | some (.ret d1) =>
    some (!(decide (d1.1 ≥ 0)))
theorem l_slices_IndexFunc_Errno__slices_ContainsFunc_Errno__gamehallkeep2_fine_2_step (m : Nat) (d : dens l_slices_IndexFunc_Errno__slices_ContainsFunc_Errno__gamehallkeep2_fine_2H.tys) : l_slices_IndexFunc_Errno__slices_ContainsFunc_Errno__gamehallkeep2_fine_2L.f (m + 1) d = round E_gamehallkeep2_fine LL_gamehallkeep2_fine m [48, 36, 16] 19 (loopN (bodyOf Tryd.f48) 0) l_slices_IndexFunc_Errno__slices_ContainsFunc_Errno__gamehallkeep2_fine_2L (l_slices_IndexFunc_Errno__slices_ContainsFunc_Errno__gamehallkeep2_fine_2L.f m) d := by kernel_rfl
theorem f_gamehallkeep2_fine_run (k : Nat) (x : denL [.slice (.int .i64)]) : runFn E_gamehallkeep2_fine LL_gamehallkeep2_fine k 16 Tryd.f16 [.slice (.int .i64)] [.imm .bool] x = f_gamehallkeep2_fine k x := by kernel_rfl
noncomputable def S_gamehallkeep2_fine : Vm.Spec := { ps := [.slice (.int .i64)], rs := [.imm .bool], f := fun x => f_gamehallkeep2_fine fuel x }
theorem f_gamehallkeep2_fine_holds : Vm.Spec.holds Tryd.prog 16 S_gamehallkeep2_fine := by
  have hB : BodiesOk Tryd.prog E_gamehallkeep2_fine := bodies_ok (by exact ⟨by kernel_rfl, by kernel_rfl, by kernel_rfl, by kernel_rfl, by kernel_rfl, by kernel_rfl, trivial⟩)
  have hBS : BodiesStepped E_gamehallkeep2_fine LL_gamehallkeep2_fine := by
    refine bodies_stepped ?_
    exact ⟨(fun _ => stepped_noloop (by kernel_rfl)), (fun _ => stepped_noloop (by kernel_rfl)), (stepped_paths [[36, 16]] (by exact ⟨stepped_of (ls := [(2, l_slices_IndexFunc_Errno__slices_ContainsFunc_Errno__gamehallkeep2_fine_2L)]) rfl rfl ⟨by kernel_rfl, fun _ => rfl, l_slices_IndexFunc_Errno__slices_ContainsFunc_Errno__gamehallkeep2_fine_2_step, stepsI_end (by kernel_rfl)⟩,  trivial⟩) rfl),  trivial⟩
  have hS : SpecsOk Tryd.prog E_gamehallkeep2_fine := specs_ok (by exact trivial)
  have hE : EOk Tryd.prog E_gamehallkeep2_fine := eok_te ok
  exact fn_sound (L := LL_gamehallkeep2_fine) hE hS hB (draws_ok hE hS (by kernel_rfl)) hBS (fn := Tryd.f16) (by kernel_rfl) (c := bodyOf Tryd.f16) (by kernel_rfl) (stepped_none rfl) fun x r h => ⟨fuel, (f_gamehallkeep2_fine_run fuel x).trans h⟩

/-! gamehall/gamehallkeep2.pick -/
noncomputable def E_gamehallkeep2_pick : Env := { te := te, spec := [], body := [] }
def LL_gamehallkeep2_pick : Loops := []
def f_gamehallkeep2_pick (k : Nat) (a0 : Int) (a1 : Int) : Option (Int) :=
  if IntKind.u64.wrap (a1) = 0 then
    none
  else
    some (IntKind.i64.wrap ((IntKind.u64.wrap (a0)).tmod (IntKind.u64.wrap (a1))))
theorem f_gamehallkeep2_pick_run (k : Nat) (x : denL [.int .i64, .int .i64]) : runFn E_gamehallkeep2_pick LL_gamehallkeep2_pick k 8 Tryd.f8 [.int .i64, .int .i64] [.imm (.int .i64)] x = f_gamehallkeep2_pick k x.1 x.2 := by kernel_rfl
noncomputable def S_gamehallkeep2_pick : Vm.Spec := { ps := [.int .i64, .int .i64], rs := [.imm (.int .i64)], f := fun x => f_gamehallkeep2_pick fuel x.1 x.2 }
theorem f_gamehallkeep2_pick_holds : Vm.Spec.holds Tryd.prog 8 S_gamehallkeep2_pick := by
  have hB : BodiesOk Tryd.prog E_gamehallkeep2_pick := bodies_none rfl
  have hBS : BodiesStepped E_gamehallkeep2_pick LL_gamehallkeep2_pick := bodies_stepped_none rfl
  have hS : SpecsOk Tryd.prog E_gamehallkeep2_pick := specs_ok (by exact trivial)
  have hE : EOk Tryd.prog E_gamehallkeep2_pick := eok_te ok
  exact fn_sound (L := LL_gamehallkeep2_pick) hE hS hB (draws_ok hE hS (by kernel_rfl)) hBS (fn := Tryd.f8) (by kernel_rfl) (c := bodyOf Tryd.f8) (by kernel_rfl) (stepped_none rfl) fun x r h => ⟨fuel, (f_gamehallkeep2_pick_run fuel x).trans h⟩

/-! gamehall/cards.Check -/
noncomputable def E_cards_Check : Env := { te := te, spec := [(47, S_slices_Contains_int)], body := [] }
def l_cards_Check_4H : Ann := { slots := [(0, .one (.val (.slice (.int .i64)))), (8, .one (.val (.slice (.int .i64)))), (9, .one (.val (.int .i64))), (10, .one (.val (.int .i64)))], objs := [] }
def l_cards_Check_4X : Ann := { slots := [], objs := [] }
def l_cards_Check_4R : Ann := { slots := [(2, .one (.val (.int .i64)))], objs := [] }
def l_cards_Check_4 : Nat → List Int → List Int → Int → Int → Option (LR l_cards_Check_4X l_cards_Check_4R)
  | 0, _, _, _, _ => none
  | m + 1, s0, s8, s9, s10 =>
    if decide (s10 < s9) = true then
      if (0 : Int) ≤ s10 then
        if s10 < s8.length then
          if decide (s8.getD s10.toNat 0 < 0) = false then
            if decide (s8.getD s10.toNat 0 ≥ 52) = true then
              some (.ret (4, ()))
            else
              if (0 : Int) ≤ s10 then
                if s10 ≤ s0.length then
                  (f_slices_Contains_int fuel ((s0.take s10.toNat).drop 0) (s8.getD s10.toNat 0)).bind fun r1 =>
                  if r1 = true then
                    some (.ret (7, ()))
                  else
                    l_cards_Check_4 m s0 s8 s9 (IntKind.i64.wrap (s10 + 1))
                else none
              else none
          else
            some (.ret (4, ()))
        else none
      else none
    else
      some (.exit ())
def l_cards_Check_4L : LSpec := { h := l_cards_Check_4H, x := l_cards_Check_4X, r := l_cards_Check_4R, xid := 0, rt := true, pins := [], f := fun k d => l_cards_Check_4 k d.1 d.2.1 d.2.2.1 d.2.2.2.1 }
def LL_cards_Check : Loops := [([33], [(4, l_cards_Check_4L)])]
def f_cards_Check (k : Nat) (a0 : List Int) : Option (Int) :=
  if decide ((a0.length : Int) > 52) = true then
    some 2
  else
    match l_cards_Check_4 k a0 a0 (a0.length : Int) 0 with
    | none => none
    | some (.exit d1) =>
      some 0
    | some (.ret d1) =>
      some d1.1
theorem l_cards_Check_4_step (m : Nat) (d : dens l_cards_Check_4H.tys) : l_cards_Check_4L.f (m + 1) d = round E_cards_Check LL_cards_Check m [33] 27 (loopN (bodyOf Tryd.f33) 0) l_cards_Check_4L (l_cards_Check_4L.f m) d := by kernel_rfl
theorem f_cards_Check_run (k : Nat) (x : denL [.slice (.int .i64)]) : runFn E_cards_Check LL_cards_Check k 33 Tryd.f33 [.slice (.int .i64)] [.imm (.int .i64)] x = f_cards_Check k x := by kernel_rfl
noncomputable def S_cards_Check : Vm.Spec := { ps := [.slice (.int .i64)], rs := [.imm (.int .i64)], f := fun x => f_cards_Check fuel x }
theorem f_cards_Check_holds : Vm.Spec.holds Tryd.prog 33 S_cards_Check := by
  have hB : BodiesOk Tryd.prog E_cards_Check := bodies_none rfl
  have hBS : BodiesStepped E_cards_Check LL_cards_Check := bodies_stepped_none rfl
  have hS : SpecsOk Tryd.prog E_cards_Check := specs_ok (by exact ⟨⟨by kernel_rfl, f_slices_Contains_int_holds⟩, trivial⟩)
  have hE : EOk Tryd.prog E_cards_Check := eok_te ok
  exact fn_sound (L := LL_cards_Check) hE hS hB (draws_ok hE hS (by kernel_rfl)) hBS (fn := Tryd.f33) (by kernel_rfl) (c := bodyOf Tryd.f33) (by kernel_rfl) (stepped_of (ls := [(4, l_cards_Check_4L)]) rfl rfl ⟨by kernel_rfl, fun _ => rfl, l_cards_Check_4_step, stepsI_end (by kernel_rfl)⟩) fun x r h => ⟨fuel, (f_cards_Check_run fuel x).trans h⟩

/-! gamehall/cards.Fits -/
noncomputable def E_cards_Fits : Env := { te := te, spec := [], body := [] }
def l_cards_Fits_4H : Ann := { slots := [(0, .one (.val (.int .i64))), (13, .one (.val (.slice (.int .i64)))), (14, .one (.val (.int .i64))), (15, .one (.val (.int .i64)))], objs := [] }
def l_cards_Fits_4X : Ann := { slots := [], objs := [] }
def l_cards_Fits_4R : Ann := { slots := [(4, .one (.val (.int .i64)))], objs := [] }
def l_cards_Fits_4 : Nat → Int → List Int → Int → Int → Option (LR l_cards_Fits_4X l_cards_Fits_4R)
  | 0, _, _, _, _ => none
  | m + 1, s0, s13, s14, s15 =>
    if decide (s15 < s14) = true then
      if (0 : Int) ≤ s15 then
        if s15 < s13.length then
          if decide (s13.getD s15.toNat 0 < 0) = false then
            if decide (s13.getD s15.toNat 0 > IntKind.i64.wrap ((IntKind.i64.wrap (s0 - 1)) - s15)) = true then
              some (.ret (4, ()))
            else
              l_cards_Fits_4 m s0 s13 s14 (IntKind.i64.wrap (s15 + 1))
          else
            some (.ret (4, ()))
        else none
      else none
    else
      some (.exit ())
def l_cards_Fits_4L : LSpec := { h := l_cards_Fits_4H, x := l_cards_Fits_4X, r := l_cards_Fits_4R, xid := 0, rt := true, pins := [], f := fun k d => l_cards_Fits_4 k d.1 d.2.1 d.2.2.1 d.2.2.2.1 }
def LL_cards_Fits : Loops := [([11], [(4, l_cards_Fits_4L)])]
def f_cards_Fits (k : Nat) (a0 : Int) (a1 : List Int) : Option (Int) :=
  if ((a1.length : Int) != (if IntKind.i64.wrap (a0 - 1) > 0 then IntKind.i64.wrap (a0 - 1) else 0)) = true then
    some 3
  else
    match l_cards_Fits_4 k a0 a1 (a1.length : Int) 0 with
    | none => none
    | some (.exit d1) =>
      some 0
    | some (.ret d1) =>
      some d1.1
theorem l_cards_Fits_4_step (m : Nat) (d : dens l_cards_Fits_4H.tys) : l_cards_Fits_4L.f (m + 1) d = round E_cards_Fits LL_cards_Fits m [11] 31 (loopN (bodyOf Tryd.f11) 0) l_cards_Fits_4L (l_cards_Fits_4L.f m) d := by kernel_rfl
theorem f_cards_Fits_run (k : Nat) (x : denL [.int .i64, .slice (.int .i64)]) : runFn E_cards_Fits LL_cards_Fits k 11 Tryd.f11 [.int .i64, .slice (.int .i64)] [.imm (.int .i64)] x = f_cards_Fits k x.1 x.2 := by kernel_rfl
noncomputable def S_cards_Fits : Vm.Spec := { ps := [.int .i64, .slice (.int .i64)], rs := [.imm (.int .i64)], f := fun x => f_cards_Fits fuel x.1 x.2 }
theorem f_cards_Fits_holds : Vm.Spec.holds Tryd.prog 11 S_cards_Fits := by
  have hB : BodiesOk Tryd.prog E_cards_Fits := bodies_none rfl
  have hBS : BodiesStepped E_cards_Fits LL_cards_Fits := bodies_stepped_none rfl
  have hS : SpecsOk Tryd.prog E_cards_Fits := specs_ok (by exact trivial)
  have hE : EOk Tryd.prog E_cards_Fits := eok_te ok
  exact fn_sound (L := LL_cards_Fits) hE hS hB (draws_ok hE hS (by kernel_rfl)) hBS (fn := Tryd.f11) (by kernel_rfl) (c := bodyOf Tryd.f11) (by kernel_rfl) (stepped_of (ls := [(4, l_cards_Fits_4L)]) rfl rfl ⟨by kernel_rfl, fun _ => rfl, l_cards_Fits_4_step, stepsI_end (by kernel_rfl)⟩) fun x r h => ⟨fuel, (f_cards_Fits_run fuel x).trans h⟩

/-! gamehall/cards.Fresh -/
noncomputable def E_cards_Fresh : Env := { te := te, spec := [], body := [] }
def l_cards_Fresh_5H : Ann := { slots := [(4, .one (.own 76 (.int .i64))), (12, .one (.val (.int .i64))), (13, .one (.val (.int .i64)))], objs := [(76, .buf (.int .i64))] }
def l_cards_Fresh_5X : Ann := { slots := [(4, .one (.own 76 (.int .i64)))], objs := [(76, .buf (.int .i64))] }
def l_cards_Fresh_5R : Ann := { slots := [], objs := [] }
def l_cards_Fresh_5 : Nat → Int → Int → List Int → Option (LR l_cards_Fresh_5X l_cards_Fresh_5R)
  | 0, _, _, _ => none
  | m + 1, s12, s13, b76 =>
    if decide (s13 < s12) = true then
      if (b76.length + 1) * 8 ≤ 140737488355328 then
        l_cards_Fresh_5 m s12 (IntKind.i64.wrap (s13 + 1)) (b76 ++ [s13])
      else none
    else
      some (.exit (b76, ()))
def l_cards_Fresh_5L : LSpec := { h := l_cards_Fresh_5H, x := l_cards_Fresh_5X, r := l_cards_Fresh_5R, xid := 0, rt := false, pins := [], f := fun k d => l_cards_Fresh_5 k d.1 d.2.1 d.2.2.1 }
def LL_cards_Fresh : Loops := [([14], [(5, l_cards_Fresh_5L)])]
def f_cards_Fresh (k : Nat) (a0 : Int) : Option (List Int × Int) :=
  if decide (a0 < 0) = false then
    if decide (a0 > 52) = true then
      some ([], 4)
    else
      match l_cards_Fresh_5 k a0 0 [] with
      | none => none
      | some (.exit d1) =>
        some (d1.1, 0)
      | some (.ret d1) =>
        none
  else
    some ([], 4)
theorem l_cards_Fresh_5_step (m : Nat) (d : dens l_cards_Fresh_5H.tys) : l_cards_Fresh_5L.f (m + 1) d = round E_cards_Fresh LL_cards_Fresh m [14] 22 (loopN (bodyOf Tryd.f14) 0) l_cards_Fresh_5L (l_cards_Fresh_5L.f m) d := by kernel_rfl
theorem f_cards_Fresh_run (k : Nat) (x : denL [.int .i64]) : runFn E_cards_Fresh LL_cards_Fresh k 14 Tryd.f14 [.int .i64] [.fresh (.int .i64), .imm (.int .i64)] x = f_cards_Fresh k x := by kernel_rfl
noncomputable def S_cards_Fresh : Vm.Spec := { ps := [.int .i64], rs := [.fresh (.int .i64), .imm (.int .i64)], f := fun x => f_cards_Fresh fuel x }
theorem f_cards_Fresh_holds : Vm.Spec.holds Tryd.prog 14 S_cards_Fresh := by
  have hB : BodiesOk Tryd.prog E_cards_Fresh := bodies_none rfl
  have hBS : BodiesStepped E_cards_Fresh LL_cards_Fresh := bodies_stepped_none rfl
  have hS : SpecsOk Tryd.prog E_cards_Fresh := specs_ok (by exact trivial)
  have hE : EOk Tryd.prog E_cards_Fresh := eok_te ok
  exact fn_sound (L := LL_cards_Fresh) hE hS hB (draws_ok hE hS (by kernel_rfl)) hBS (fn := Tryd.f14) (by kernel_rfl) (c := bodyOf Tryd.f14) (by kernel_rfl) (stepped_of (ls := [(5, l_cards_Fresh_5L)]) rfl rfl ⟨by kernel_rfl, fun _ => rfl, l_cards_Fresh_5_step, stepsI_end (by kernel_rfl)⟩) fun x r h => ⟨fuel, (f_cards_Fresh_run fuel x).trans h⟩

/-! gamehall/cards.Shuffle -/
noncomputable def E_cards_Shuffle : Env := { te := te, spec := [(11, S_cards_Fits), (33, S_cards_Check), (35, S_slices_Clone_ints)], body := [] }
def l_cards_Shuffle_9H : Ann := { slots := [(8, .one (.own 100 (.int .i64))), (26, .one (.val (.slice (.int .i64)))), (27, .one (.val (.int .i64))), (28, .one (.val (.int .i64)))], objs := [(100, .buf (.int .i64))] }
def l_cards_Shuffle_9X : Ann := { slots := [(8, .one (.own 100 (.int .i64)))], objs := [(100, .buf (.int .i64))] }
def l_cards_Shuffle_9R : Ann := { slots := [], objs := [] }
def l_cards_Shuffle_9 : Nat → List Int → Int → Int → List Int → Option (LR l_cards_Shuffle_9X l_cards_Shuffle_9R)
  | 0, _, _, _, _ => none
  | m + 1, s26, s27, s28, b100 =>
    if decide (s28 < s27) = true then
      if (0 : Int) ≤ s28 then
        if s28 < s26.length then
          if (0 : Int) ≤ s26.getD s28.toNat 0 then
            if s26.getD s28.toNat 0 < b100.length then
              if (0 : Int) ≤ IntKind.i64.wrap ((IntKind.i64.wrap ((b100.length : Int) - 1)) - s28) then
                if IntKind.i64.wrap ((IntKind.i64.wrap ((b100.length : Int) - 1)) - s28) < b100.length then
                  if (0 : Int) ≤ IntKind.i64.wrap ((IntKind.i64.wrap ((b100.length : Int) - 1)) - s28) then
                    if IntKind.i64.wrap ((IntKind.i64.wrap ((b100.length : Int) - 1)) - s28) < b100.length then
                      if (0 : Int) ≤ s26.getD s28.toNat 0 then
                        if s26.getD s28.toNat 0 < (b100.set ((IntKind.i64.wrap ((IntKind.i64.wrap ((b100.length : Int) - 1)) - s28)).toNat) (b100.getD ((s26.getD s28.toNat 0).toNat) 0)).length then
                          l_cards_Shuffle_9 m s26 s27 (IntKind.i64.wrap (s28 + 1)) ((b100.set ((IntKind.i64.wrap ((IntKind.i64.wrap ((b100.length : Int) - 1)) - s28)).toNat) (b100.getD ((s26.getD s28.toNat 0).toNat) 0)).set ((s26.getD s28.toNat 0).toNat) (b100.getD ((IntKind.i64.wrap ((IntKind.i64.wrap ((b100.length : Int) - 1)) - s28)).toNat) 0))
                        else none
                      else none
                    else none
                  else none
                else none
              else none
            else none
          else none
        else none
      else none
    else
      some (.exit (b100, ()))
def l_cards_Shuffle_9L : LSpec := { h := l_cards_Shuffle_9H, x := l_cards_Shuffle_9X, r := l_cards_Shuffle_9R, xid := 0, rt := false, pins := [100], f := fun k d => l_cards_Shuffle_9 k d.1 d.2.1 d.2.2.1 d.2.2.2.1 }
def LL_cards_Shuffle : Loops := [([15], [(9, l_cards_Shuffle_9L)])]
def f_cards_Shuffle (k : Nat) (a0 : List Int) (a1 : List Int) : Option (List Int × Int) :=
  (f_cards_Check fuel a0).bind fun r1 =>
  if (r1 != 0) = true then
    some ([], r1)
  else
    (f_cards_Fits fuel (a0.length : Int) a1).bind fun r2 =>
    if (r2 != 0) = true then
      some ([], r2)
    else
      (f_slices_Clone_ints a0).bind fun r3 =>
      match l_cards_Shuffle_9 k a1 (a1.length : Int) 0 r3 with
      | none => none
      | some (.exit d4) =>
        some (d4.1, 0)
      | some (.ret d4) =>
        none
theorem l_cards_Shuffle_9_step (m : Nat) (d : dens l_cards_Shuffle_9H.tys) : l_cards_Shuffle_9L.f (m + 1) d = round E_cards_Shuffle LL_cards_Shuffle m [15] 54 (loopN (bodyOf Tryd.f15) 0) l_cards_Shuffle_9L (l_cards_Shuffle_9L.f m) d := by kernel_rfl
theorem f_cards_Shuffle_run (k : Nat) (x : denL [.slice (.int .i64), .slice (.int .i64)]) : runFn E_cards_Shuffle LL_cards_Shuffle k 15 Tryd.f15 [.slice (.int .i64), .slice (.int .i64)] [.fresh (.int .i64), .imm (.int .i64)] x = f_cards_Shuffle k x.1 x.2 := by kernel_rfl
noncomputable def S_cards_Shuffle : Vm.Spec := { ps := [.slice (.int .i64), .slice (.int .i64)], rs := [.fresh (.int .i64), .imm (.int .i64)], f := fun x => f_cards_Shuffle fuel x.1 x.2 }
theorem f_cards_Shuffle_holds : Vm.Spec.holds Tryd.prog 15 S_cards_Shuffle := by
  have hB : BodiesOk Tryd.prog E_cards_Shuffle := bodies_none rfl
  have hBS : BodiesStepped E_cards_Shuffle LL_cards_Shuffle := bodies_stepped_none rfl
  have hS : SpecsOk Tryd.prog E_cards_Shuffle := specs_ok (by exact ⟨⟨by kernel_rfl, f_cards_Fits_holds⟩, ⟨by kernel_rfl, f_cards_Check_holds⟩, ⟨by kernel_rfl, f_slices_Clone_ints_holds⟩, trivial⟩)
  have hE : EOk Tryd.prog E_cards_Shuffle := eok_te ok
  exact fn_sound (L := LL_cards_Shuffle) hE hS hB (draws_ok hE hS (by kernel_rfl)) hBS (fn := Tryd.f15) (by kernel_rfl) (c := bodyOf Tryd.f15) (by kernel_rfl) (stepped_of (ls := [(9, l_cards_Shuffle_9L)]) rfl rfl ⟨by kernel_rfl, fun _ => rfl, l_cards_Shuffle_9_step, stepsI_end (by kernel_rfl)⟩) fun x r h => ⟨fuel, (f_cards_Shuffle_run fuel x).trans h⟩

/-! gamehall/cards.Draws -/
noncomputable def E_cards_Draws : Env := { te := te, spec := [(33, S_cards_Check), (35, S_slices_Clone_ints), (40, S_slices_Index_int)], body := [] }
def l_cards_Draws_12H : Ann := { slots := [(1, .one (.val (.slice (.int .i64)))), (8, .one (.own 112 (.int .i64))), (9, .one (.own 252 (.int .i64))), (10, .one (.val (.int .i64)))], objs := [(112, .buf (.int .i64)), (252, .buf (.int .i64))] }
def l_cards_Draws_12X : Ann := { slots := [(9, .one (.own 252 (.int .i64)))], objs := [(252, .buf (.int .i64)), (112, .buf (.int .i64))] }
def l_cards_Draws_12R : Ann := { slots := [(4, .one (.fix .nil)), (5, .one (.val (.int .i64)))], objs := [(112, .buf (.int .i64))] }
def l_cards_Draws_12 : Nat → List Int → Int → List Int → List Int → Option (LR l_cards_Draws_12X l_cards_Draws_12R)
  | 0, _, _, _, _ => none
  | m + 1, s1, s10, b112, b252 =>
    if decide (s10 ≥ 0) = true then
      if (0 : Int) ≤ s10 then
        if s10 < s1.length then
          (f_slices_Index_int fuel b112 (s1.getD s10.toNat 0)).bind fun r1 =>
          if decide (r1 < 0) = true then
            some (.ret (3, b112, ()))
          else
            if (0 : Int) ≤ r1 then
              if r1 < b112.length then
                if (0 : Int) ≤ s10 then
                  if s10 < b112.length then
                    if (0 : Int) ≤ s10 then
                      if s10 < b112.length then
                        if (0 : Int) ≤ r1 then
                          if r1 < (b112.set s10.toNat (b112.getD r1.toNat 0)).length then
                            if decide (s10 > 0) = true then
                              if (b252.length + 1) * 8 ≤ 140737488355328 then
                                l_cards_Draws_12 m s1 (IntKind.i64.wrap (s10 - 1)) ((b112.set s10.toNat (b112.getD r1.toNat 0)).set r1.toNat (b112.getD s10.toNat 0)) (b252 ++ [r1])
                              else none
                            else
                              l_cards_Draws_12 m s1 (IntKind.i64.wrap (s10 - 1)) ((b112.set s10.toNat (b112.getD r1.toNat 0)).set r1.toNat (b112.getD s10.toNat 0)) b252
                          else none
                        else none
                      else none
                    else none
                  else none
                else none
              else none
            else none
        else none
      else none
    else
      some (.exit (b252, b112, ()))
def l_cards_Draws_12L : LSpec := { h := l_cards_Draws_12H, x := l_cards_Draws_12X, r := l_cards_Draws_12R, xid := 0, rt := true, pins := [112], f := fun k d => l_cards_Draws_12 k d.1 d.2.1 d.2.2.1 d.2.2.2.1 }
def LL_cards_Draws : Loops := [([28], [(12, l_cards_Draws_12L)])]
def f_cards_Draws (k : Nat) (a0 : List Int) (a1 : List Int) : Option (List Int × Int) :=
  (f_cards_Check fuel a0).bind fun r1 =>
  if (r1 != 0) = true then
    some ([], r1)
  else
    (f_cards_Check fuel a1).bind fun r2 =>
    if (r2 != 0) = true then
      some ([], r2)
    else
      if ((a0.length : Int) != (a1.length : Int)) = true then
        some ([], 3)
      else
        (f_slices_Clone_ints a0).bind fun r3 =>
        match l_cards_Draws_12 k a1 (IntKind.i64.wrap ((r3.length : Int) - 1)) r3 [] with
        | none => none
        | some (.exit d4) =>
          some (d4.1, 0)
        | some (.ret d4) =>
          some ([], d4.1)
theorem l_cards_Draws_12_step (m : Nat) (d : dens l_cards_Draws_12H.tys) : l_cards_Draws_12L.f (m + 1) d = round E_cards_Draws LL_cards_Draws m [28] 65 (loopN (bodyOf Tryd.f28) 0) l_cards_Draws_12L (l_cards_Draws_12L.f m) d := by kernel_rfl
theorem f_cards_Draws_run (k : Nat) (x : denL [.slice (.int .i64), .slice (.int .i64)]) : runFn E_cards_Draws LL_cards_Draws k 28 Tryd.f28 [.slice (.int .i64), .slice (.int .i64)] [.fresh (.int .i64), .imm (.int .i64)] x = f_cards_Draws k x.1 x.2 := by kernel_rfl
noncomputable def S_cards_Draws : Vm.Spec := { ps := [.slice (.int .i64), .slice (.int .i64)], rs := [.fresh (.int .i64), .imm (.int .i64)], f := fun x => f_cards_Draws fuel x.1 x.2 }
theorem f_cards_Draws_holds : Vm.Spec.holds Tryd.prog 28 S_cards_Draws := by
  have hB : BodiesOk Tryd.prog E_cards_Draws := bodies_none rfl
  have hBS : BodiesStepped E_cards_Draws LL_cards_Draws := bodies_stepped_none rfl
  have hS : SpecsOk Tryd.prog E_cards_Draws := specs_ok (by exact ⟨⟨by kernel_rfl, f_cards_Check_holds⟩, ⟨by kernel_rfl, f_slices_Clone_ints_holds⟩, ⟨by kernel_rfl, f_slices_Index_int_holds⟩, trivial⟩)
  have hE : EOk Tryd.prog E_cards_Draws := eok_te ok
  exact fn_sound (L := LL_cards_Draws) hE hS hB (draws_ok hE hS (by kernel_rfl)) hBS (fn := Tryd.f28) (by kernel_rfl) (c := bodyOf Tryd.f28) (by kernel_rfl) (stepped_of (ls := [(12, l_cards_Draws_12L)]) rfl rfl ⟨by kernel_rfl, fun _ => rfl, l_cards_Draws_12_step, stepsI_end (by kernel_rfl)⟩) fun x r h => ⟨fuel, (f_cards_Draws_run fuel x).trans h⟩

/-! gamehall/cards.Cut -/
noncomputable def E_cards_Cut : Env := { te := te, spec := [(33, S_cards_Check)], body := [(41, Tryd.f41), (50, Tryd.f50)] }
def l_slices_Concat_int__cards_Cut_3H : Ann := { slots := [(3, .one (.val (.int .i64))), (9, .one (.own 104 (.slice (.int .i64)))), (10, .one (.val (.int .i64))), (11, .one (.val (.int .i64)))], objs := [(104, .buf (.slice (.int .i64)))] }
def l_slices_Concat_int__cards_Cut_3X : Ann := { slots := [(3, .one (.val (.int .i64)))], objs := [(104, .buf (.slice (.int .i64)))] }
def l_slices_Concat_int__cards_Cut_3R : Ann := { slots := [], objs := [] }
def l_slices_Concat_int__cards_Cut_11H : Ann := { slots := [(6, .one (.pre 8088 (.int .i64))), (25, .one (.own 104 (.slice (.int .i64)))), (26, .one (.val (.int .i64))), (27, .one (.val (.int .i64)))], objs := [(8088, .buf (.int .i64)), (104, .buf (.slice (.int .i64)))] }
def l_slices_Concat_int__cards_Cut_11X : Ann := { slots := [(6, .one (.pre 8088 (.int .i64)))], objs := [(8088, .buf (.int .i64)), (104, .buf (.slice (.int .i64)))] }
def l_slices_Concat_int__cards_Cut_11R : Ann := { slots := [], objs := [] }
def l_slices_Concat_int__cards_Cut_3 : Nat → Int → Int → Int → List (List Int) → Option (LR l_slices_Concat_int__cards_Cut_3X l_slices_Concat_int__cards_Cut_3R)
  | 0, _, _, _, _ => none
  | m + 1, s3, s10, s11, b104 =>
    if decide (s11 < s10) = true then
      if (0 : Int) ≤ s11 then
        if s11 < b104.length then
          if decide (IntKind.i64.wrap (s3 + ((b104.getD s11.toNat []).length : Int)) < 0) = true then
            none
          else
            l_slices_Concat_int__cards_Cut_3 m (IntKind.i64.wrap (s3 + ((b104.getD s11.toNat []).length : Int))) s10 (IntKind.i64.wrap (s11 + 1)) b104
        else none
      else none
    else
      some (.exit (s3, b104, ()))
def l_slices_Concat_int__cards_Cut_3L : LSpec := { h := l_slices_Concat_int__cards_Cut_3H, x := l_slices_Concat_int__cards_Cut_3X, r := l_slices_Concat_int__cards_Cut_3R, xid := 0, rt := false, pins := [104], f := fun k d => l_slices_Concat_int__cards_Cut_3 k d.1 d.2.1 d.2.2.1 d.2.2.2.1 }
def l_slices_Concat_int__cards_Cut_11 : Nat → Nat → Int → Int → List Int → List (List Int) → Option (LR l_slices_Concat_int__cards_Cut_11X l_slices_Concat_int__cards_Cut_11R)
  | 0, _, _, _, _, _ => none
  | m + 1, s6, s26, s27, b8088, b104 =>
    if decide (s27 < s26) = true then
      if (0 : Int) ≤ s27 then
        if s27 < b104.length then
          if ((b8088.take s6).length + (b104.getD s27.toNat []).length) * 8 ≤ 140737488355328 then
            l_slices_Concat_int__cards_Cut_11 m (((b8088.take s6) ++ (b104.getD s27.toNat [])).length) s26 (IntKind.i64.wrap (s27 + 1)) ((b8088.take s6) ++ (b104.getD s27.toNat [])) b104
          else none
        else none
      else none
    else
      some (.exit (s6, b8088, b104, ()))
def l_slices_Concat_int__cards_Cut_11L : LSpec := { h := l_slices_Concat_int__cards_Cut_11H, x := l_slices_Concat_int__cards_Cut_11X, r := l_slices_Concat_int__cards_Cut_11R, xid := 2, rt := false, pins := [104], f := fun k d => l_slices_Concat_int__cards_Cut_11 k d.1 d.2.1 d.2.2.1 d.2.2.2.1 d.2.2.2.2.1 }
def LL_cards_Cut : Loops := [([41, 29], [(3, l_slices_Concat_int__cards_Cut_3L), (11, l_slices_Concat_int__cards_Cut_11L)])]
def f_cards_Cut (k : Nat) (a0 : List Int) (a1 : Int) : Option (List Int × Int) :=
  (f_cards_Check fuel a0).bind fun r1 =>
  if (r1 != 0) = true then
    some ([], r1)
  else
    if decide (a1 < 0) = false then
      if decide (a1 > (a0.length : Int)) = true then
        some ([], 4)
      else
        if (0 : Int) ≤ a1 then
          if a1 ≤ a0.length then
            if (0 : Int) ≤ a1 then
              if a1 ≤ a0.length then
                match l_slices_Concat_int__cards_Cut_3 k 0 2 0 [(a0.take a0.length).drop a1.toNat, (a0.take a1.toNat).drop 0] with
                | none => none
                | some (.exit d2) =>
                  if decide (d2.1 < 0) = true then
                    none
                  else
                    if decide (IntKind.i64.wrap (d2.1 - 0) > 0) = true then
                      if (0 : Int) < IntKind.i64.wrap (d2.1 - 0) then
                        if (IntKind.i64.wrap (d2.1 - 0)) * 8 ≤ 140737488355328 then
                          if (0 : Int) ≤ (List.replicate (IntKind.i64.wrap (d2.1 - 0)).toNat 0).length then
                            match l_slices_Concat_int__cards_Cut_11 k 0 (d2.2.1.length : Int) 0 (List.replicate (IntKind.i64.wrap (d2.1 - 0)).toNat 0) d2.2.1 with
                            | none => none
                            | some (.exit d3) =>
                              some (d3.2.1.take d3.1, 0)
                            | some (.ret d3) =>
                              none
                          else none
                        else none
                      else none
                    else
                      match l_slices_Concat_int__cards_Cut_11 k 0 (d2.2.1.length : Int) 0 [] d2.2.1 with
                      | none => none
                      | some (.exit d4) =>
                        some (d4.2.1.take d4.1, 0)
                      | some (.ret d4) =>
                        none
                | some (.ret d2) =>
                  none
              else none
            else none
          else none
        else none
    else
      some ([], 4)
theorem l_slices_Concat_int__cards_Cut_3_step (m : Nat) (d : dens l_slices_Concat_int__cards_Cut_3H.tys) : l_slices_Concat_int__cards_Cut_3L.f (m + 1) d = round E_cards_Cut LL_cards_Cut m [41, 29] 36 (loopN (bodyOf Tryd.f41) 0) l_slices_Concat_int__cards_Cut_3L (l_slices_Concat_int__cards_Cut_3L.f m) d := by kernel_rfl
theorem l_slices_Concat_int__cards_Cut_11_step (m : Nat) (d : dens l_slices_Concat_int__cards_Cut_11H.tys) : l_slices_Concat_int__cards_Cut_11L.f (m + 1) d = round E_cards_Cut LL_cards_Cut m [41, 29] 36 (loopN (bodyOf Tryd.f41) 1) l_slices_Concat_int__cards_Cut_11L (l_slices_Concat_int__cards_Cut_11L.f m) d := by kernel_rfl
theorem f_cards_Cut_run (k : Nat) (x : denL [.slice (.int .i64), .int .i64]) : runFn E_cards_Cut LL_cards_Cut k 29 Tryd.f29 [.slice (.int .i64), .int .i64] [.fresh (.int .i64), .imm (.int .i64)] x = f_cards_Cut k x.1 x.2 := by kernel_rfl
noncomputable def S_cards_Cut : Vm.Spec := { ps := [.slice (.int .i64), .int .i64], rs := [.fresh (.int .i64), .imm (.int .i64)], f := fun x => f_cards_Cut fuel x.1 x.2 }
theorem f_cards_Cut_holds : Vm.Spec.holds Tryd.prog 29 S_cards_Cut := by
  have hB : BodiesOk Tryd.prog E_cards_Cut := bodies_ok (by exact ⟨by kernel_rfl, by kernel_rfl, by kernel_rfl, by kernel_rfl, trivial⟩)
  have hBS : BodiesStepped E_cards_Cut LL_cards_Cut := by
    refine bodies_stepped ?_
    exact ⟨(stepped_paths [[29]] (by exact ⟨stepped_of (ls := [(3, l_slices_Concat_int__cards_Cut_3L), (11, l_slices_Concat_int__cards_Cut_11L)]) rfl rfl ⟨by kernel_rfl, fun _ => rfl, l_slices_Concat_int__cards_Cut_3_step, by kernel_rfl, fun _ => rfl, l_slices_Concat_int__cards_Cut_11_step, stepsI_end (by kernel_rfl)⟩,  trivial⟩) rfl), (fun _ => stepped_noloop (by kernel_rfl)),  trivial⟩
  have hS : SpecsOk Tryd.prog E_cards_Cut := specs_ok (by exact ⟨⟨by kernel_rfl, f_cards_Check_holds⟩, trivial⟩)
  have hE : EOk Tryd.prog E_cards_Cut := eok_te ok
  exact fn_sound (L := LL_cards_Cut) hE hS hB (draws_ok hE hS (by kernel_rfl)) hBS (fn := Tryd.f29) (by kernel_rfl) (c := bodyOf Tryd.f29) (by kernel_rfl) (stepped_none rfl) fun x r h => ⟨fuel, (f_cards_Cut_run fuel x).trans h⟩

/-! gamehall/cards.Deal -/
noncomputable def E_cards_Deal : Env := { te := te, spec := [(33, S_cards_Check), (35, S_slices_Clone_ints)], body := [] }
def l_cards_Deal_10H : Ann := { slots := [(1, .one (.val (.int .i64))), (10, .one (.own 156 (.slice (.int .i64)))), (44, .one (.val (.slice (.int .i64)))), (45, .one (.val (.int .i64))), (46, .one (.val (.int .i64)))], objs := [(156, .grid (.int .i64))] }
def l_cards_Deal_10X : Ann := { slots := [(10, .one (.own 156 (.slice (.int .i64))))], objs := [(156, .grid (.int .i64))] }
def l_cards_Deal_10R : Ann := { slots := [], objs := [] }
def l_cards_Deal_10 : Nat → Int → List Int → Int → Int → List (List Int) → Option (LR l_cards_Deal_10X l_cards_Deal_10R)
  | 0, _, _, _, _, _ => none
  | m + 1, s1, s44, s45, s46, b156 =>
    if decide (s46 < s45) = true then
      if (0 : Int) ≤ s46 then
        if s46 < s44.length then
          if s1 = 0 then
            none
          else
            if s1 = 0 then
              none
            else
              if (0 : Int) ≤ s46.tmod s1 then
                if s46.tmod s1 < b156.length then
                  if ((b156.getD (s46.tmod s1).toNat []).length + 1) * 8 ≤ 140737488355328 then
                    if (0 : Int) ≤ s46.tmod s1 then
                      if s46.tmod s1 < b156.length then
                        if (s46.tmod s1).toNat = (s46.tmod s1).toNat then
                          l_cards_Deal_10 m s1 s44 s45 (IntKind.i64.wrap (s46 + 1)) (b156.set (s46.tmod s1).toNat ((b156.getD (s46.tmod s1).toNat []) ++ [s44.getD s46.toNat 0]))
                        else none
                      else none
                    else none
                  else none
                else none
              else none
        else none
      else none
    else
      some (.exit (b156, ()))
def l_cards_Deal_10L : LSpec := { h := l_cards_Deal_10H, x := l_cards_Deal_10X, r := l_cards_Deal_10R, xid := 0, rt := false, pins := [156], f := fun k d => l_cards_Deal_10 k d.1 d.2.1 d.2.2.1 d.2.2.2.1 d.2.2.2.2.1 }
def LL_cards_Deal : Loops := [([30], [(10, l_cards_Deal_10L)])]
def f_cards_Deal (k : Nat) (a0 : List Int) (a1 : Int) (a2 : Int) : Option ((List (List Int)) × List Int × Int) :=
  (f_cards_Check fuel a0).bind fun r1 =>
  if (r1 != 0) = true then
    some ([], [], r1)
  else
    if decide (a1 < 1) = false then
      if decide (a1 > 52) = false then
        if decide (a2 < 0) = false then
          if decide (a2 > 52) = true then
            some ([], [], 4)
          else
            if decide (IntKind.i64.wrap (a1 * a2) > (a0.length : Int)) = true then
              some ([], [], 8)
            else
              if (0 : Int) ≤ a1 then
                if a1 ≤ a1 then
                  if a1 * 24 ≤ 281474976710656 then
                    if (0 : Int) ≤ IntKind.i64.wrap (a1 * a2) then
                      if IntKind.i64.wrap (a1 * a2) ≤ a0.length then
                        match l_cards_Deal_10 k a1 ((a0.take (IntKind.i64.wrap (a1 * a2)).toNat).drop 0) (((a0.take (IntKind.i64.wrap (a1 * a2)).toNat).drop 0).length : Int) 0 (List.replicate a1.toNat []) with
                        | none => none
                        | some (.exit d2) =>
                          if (0 : Int) ≤ IntKind.i64.wrap (a1 * a2) then
                            if IntKind.i64.wrap (a1 * a2) ≤ a0.length then
                              (f_slices_Clone_ints ((a0.take a0.length).drop (IntKind.i64.wrap (a1 * a2)).toNat)).bind fun r3 =>
                              some (d2.1, r3, 0)
                            else none
                          else none
                        | some (.ret d2) =>
                          none
                      else none
                    else none
                  else none
                else none
              else none
        else
          some ([], [], 4)
      else
        some ([], [], 4)
    else
      some ([], [], 4)
theorem l_cards_Deal_10_step (m : Nat) (d : dens l_cards_Deal_10H.tys) : l_cards_Deal_10L.f (m + 1) d = round E_cards_Deal LL_cards_Deal m [30] 73 (loopN (bodyOf Tryd.f30) 0) l_cards_Deal_10L (l_cards_Deal_10L.f m) d := by kernel_rfl
theorem f_cards_Deal_run (k : Nat) (x : denL [.slice (.int .i64), .int .i64, .int .i64]) : runFn E_cards_Deal LL_cards_Deal k 30 Tryd.f30 [.slice (.int .i64), .int .i64, .int .i64] [.imm (.slice (.slice (.int .i64))), .fresh (.int .i64), .imm (.int .i64)] x = f_cards_Deal k x.1 x.2.1 x.2.2 := by kernel_rfl
noncomputable def S_cards_Deal : Vm.Spec := { ps := [.slice (.int .i64), .int .i64, .int .i64], rs := [.imm (.slice (.slice (.int .i64))), .fresh (.int .i64), .imm (.int .i64)], f := fun x => f_cards_Deal fuel x.1 x.2.1 x.2.2 }
theorem f_cards_Deal_holds : Vm.Spec.holds Tryd.prog 30 S_cards_Deal := by
  have hB : BodiesOk Tryd.prog E_cards_Deal := bodies_none rfl
  have hBS : BodiesStepped E_cards_Deal LL_cards_Deal := bodies_stepped_none rfl
  have hS : SpecsOk Tryd.prog E_cards_Deal := specs_ok (by exact ⟨⟨by kernel_rfl, f_cards_Check_holds⟩, ⟨by kernel_rfl, f_slices_Clone_ints_holds⟩, trivial⟩)
  have hE : EOk Tryd.prog E_cards_Deal := eok_te ok
  exact fn_sound (L := LL_cards_Deal) hE hS hB (draws_ok hE hS (by kernel_rfl)) hBS (fn := Tryd.f30) (by kernel_rfl) (c := bodyOf Tryd.f30) (by kernel_rfl) (stepped_of (ls := [(10, l_cards_Deal_10L)]) rfl rfl ⟨by kernel_rfl, fun _ => rfl, l_cards_Deal_10_step, stepsI_end (by kernel_rfl)⟩) fun x r h => ⟨fuel, (f_cards_Deal_run fuel x).trans h⟩

/-! gamehall/cards.Rank -/
noncomputable def E_cards_Rank : Env := { te := te, spec := [], body := [] }
def LL_cards_Rank : Loops := []
def f_cards_Rank (k : Nat) (a0 : Int) : Option (Int) :=
  some (a0.tmod 13)
theorem f_cards_Rank_run (k : Nat) (x : denL [.int .i64]) : runFn E_cards_Rank LL_cards_Rank k 42 Tryd.f42 [.int .i64] [.imm (.int .i64)] x = f_cards_Rank k x := by kernel_rfl
noncomputable def S_cards_Rank : Vm.Spec := { ps := [.int .i64], rs := [.imm (.int .i64)], f := fun x => f_cards_Rank fuel x }
theorem f_cards_Rank_holds : Vm.Spec.holds Tryd.prog 42 S_cards_Rank := by
  have hB : BodiesOk Tryd.prog E_cards_Rank := bodies_none rfl
  have hBS : BodiesStepped E_cards_Rank LL_cards_Rank := bodies_stepped_none rfl
  have hS : SpecsOk Tryd.prog E_cards_Rank := specs_ok (by exact trivial)
  have hE : EOk Tryd.prog E_cards_Rank := eok_te ok
  exact fn_sound (L := LL_cards_Rank) hE hS hB (draws_ok hE hS (by kernel_rfl)) hBS (fn := Tryd.f42) (by kernel_rfl) (c := bodyOf Tryd.f42) (by kernel_rfl) (stepped_none rfl) fun x r h => ⟨fuel, (f_cards_Rank_run fuel x).trans h⟩

/-! gamehall/cards.Suit -/
noncomputable def E_cards_Suit : Env := { te := te, spec := [], body := [] }
def LL_cards_Suit : Loops := []
def f_cards_Suit (k : Nat) (a0 : Int) : Option (Int) :=
  some (IntKind.i64.wrap (a0.tdiv 13))
theorem f_cards_Suit_run (k : Nat) (x : denL [.int .i64]) : runFn E_cards_Suit LL_cards_Suit k 43 Tryd.f43 [.int .i64] [.imm (.int .i64)] x = f_cards_Suit k x := by kernel_rfl
noncomputable def S_cards_Suit : Vm.Spec := { ps := [.int .i64], rs := [.imm (.int .i64)], f := fun x => f_cards_Suit fuel x }
theorem f_cards_Suit_holds : Vm.Spec.holds Tryd.prog 43 S_cards_Suit := by
  have hB : BodiesOk Tryd.prog E_cards_Suit := bodies_none rfl
  have hBS : BodiesStepped E_cards_Suit LL_cards_Suit := bodies_stepped_none rfl
  have hS : SpecsOk Tryd.prog E_cards_Suit := specs_ok (by exact trivial)
  have hE : EOk Tryd.prog E_cards_Suit := eok_te ok
  exact fn_sound (L := LL_cards_Suit) hE hS hB (draws_ok hE hS (by kernel_rfl)) hBS (fn := Tryd.f43) (by kernel_rfl) (c := bodyOf Tryd.f43) (by kernel_rfl) (stepped_none rfl) fun x r h => ⟨fuel, (f_cards_Suit_run fuel x).trans h⟩

/-! gamehall/cards.Text -/
noncomputable def E_cards_Text : Env := { te := te, spec := [(33, S_cards_Check), (42, S_cards_Rank), (43, S_cards_Suit), (44, Vm.sJoin)], body := [] }
def l_cards_Text_6H : Ann := { slots := [(5, .one (.own 136 .str)), (13, .one (.val (.slice (.int .i64)))), (14, .one (.val (.int .i64))), (15, .one (.val (.int .i64)))], objs := [(136, .buf .str)] }
def l_cards_Text_6X : Ann := { slots := [(5, .one (.own 136 .str))], objs := [(136, .buf .str)] }
def l_cards_Text_6R : Ann := { slots := [], objs := [] }
def l_cards_Text_6 : Nat → List Int → Int → Int → List ByteArray → Option (LR l_cards_Text_6X l_cards_Text_6R)
  | 0, _, _, _, _ => none
  | m + 1, s13, s14, s15, b136 =>
    if decide (s15 < s14) = true then
      if (0 : Int) ≤ s15 then
        if s15 < s13.length then
          (f_cards_Rank fuel (s13.getD s15.toNat 0)).bind fun r1 =>
          (f_cards_Rank fuel (s13.getD s15.toNat 0)).bind fun r2 =>
          if (0 : Int) ≤ IntKind.i64.wrap (r2 + 1) then
            if IntKind.i64.wrap (r2 + 1) ≤ (⟨#[50, 51, 52, 53, 54, 55, 56, 57, 84, 74, 81, 75, 65]⟩ : ByteArray).size then
              if (0 : Int) ≤ r1 then
                if r1 ≤ IntKind.i64.wrap (r2 + 1) then
                  (f_cards_Suit fuel (s13.getD s15.toNat 0)).bind fun r3 =>
                  (f_cards_Suit fuel (s13.getD s15.toNat 0)).bind fun r4 =>
                  if (0 : Int) ≤ IntKind.i64.wrap (r4 + 1) then
                    if IntKind.i64.wrap (r4 + 1) ≤ (⟨#[67, 68, 72, 83]⟩ : ByteArray).size then
                      if (0 : Int) ≤ r3 then
                        if r3 ≤ IntKind.i64.wrap (r4 + 1) then
                          if ((⟨#[50, 51, 52, 53, 54, 55, 56, 57, 84, 74, 81, 75, 65]⟩ : ByteArray).extract r1.toNat (IntKind.i64.wrap (r2 + 1)).toNat).size + ((⟨#[67, 68, 72, 83]⟩ : ByteArray).extract r3.toNat (IntKind.i64.wrap (r4 + 1)).toNat).size ≤ 4611686018427387904 then
                            if (b136.length + 1) * 16 ≤ 140737488355328 then
                              l_cards_Text_6 m s13 s14 (IntKind.i64.wrap (s15 + 1)) (b136 ++ [((⟨#[50, 51, 52, 53, 54, 55, 56, 57, 84, 74, 81, 75, 65]⟩ : ByteArray).extract r1.toNat (IntKind.i64.wrap (r2 + 1)).toNat) ++ ((⟨#[67, 68, 72, 83]⟩ : ByteArray).extract r3.toNat (IntKind.i64.wrap (r4 + 1)).toNat)])
                            else none
                          else none
                        else none
                      else none
                    else none
                  else none
                else none
              else none
            else none
          else none
        else none
      else none
    else
      some (.exit (b136, ()))
def l_cards_Text_6L : LSpec := { h := l_cards_Text_6H, x := l_cards_Text_6X, r := l_cards_Text_6R, xid := 0, rt := false, pins := [], f := fun k d => l_cards_Text_6 k d.1 d.2.1 d.2.2.1 d.2.2.2.1 }
def LL_cards_Text : Loops := [([31], [(6, l_cards_Text_6L)])]
def f_cards_Text (k : Nat) (a0 : List Int) : Option (ByteArray × Int) :=
  (f_cards_Check fuel a0).bind fun r1 =>
  if (r1 != 0) = true then
    some ((⟨#[]⟩ : ByteArray), r1)
  else
    match l_cards_Text_6 k a0 (a0.length : Int) 0 [] with
    | none => none
    | some (.exit d2) =>
      (Vm.stdJoin d2.1 (⟨#[32]⟩ : ByteArray)).bind fun r3 =>
      some (r3, 0)
    | some (.ret d2) =>
      none
theorem l_cards_Text_6_step (m : Nat) (d : dens l_cards_Text_6H.tys) : l_cards_Text_6L.f (m + 1) d = round E_cards_Text LL_cards_Text m [31] 38 (loopN (bodyOf Tryd.f31) 0) l_cards_Text_6L (l_cards_Text_6L.f m) d := by kernel_rfl
theorem f_cards_Text_run (k : Nat) (x : denL [.slice (.int .i64)]) : runFn E_cards_Text LL_cards_Text k 31 Tryd.f31 [.slice (.int .i64)] [.imm .str, .imm (.int .i64)] x = f_cards_Text k x := by kernel_rfl
noncomputable def S_cards_Text : Vm.Spec := { ps := [.slice (.int .i64)], rs := [.imm .str, .imm (.int .i64)], f := fun x => f_cards_Text fuel x }
theorem f_cards_Text_holds : Vm.Spec.holds Tryd.prog 31 S_cards_Text := by
  have hB : BodiesOk Tryd.prog E_cards_Text := bodies_none rfl
  have hBS : BodiesStepped E_cards_Text LL_cards_Text := bodies_stepped_none rfl
  have hS : SpecsOk Tryd.prog E_cards_Text := specs_ok (by exact ⟨⟨by kernel_rfl, f_cards_Check_holds⟩, ⟨by kernel_rfl, f_cards_Rank_holds⟩, ⟨by kernel_rfl, f_cards_Suit_holds⟩, ⟨by kernel_rfl, g44_holds⟩, trivial⟩)
  have hE : EOk Tryd.prog E_cards_Text := eok_te ok
  exact fn_sound (L := LL_cards_Text) hE hS hB (draws_ok hE hS (by kernel_rfl)) hBS (fn := Tryd.f31) (by kernel_rfl) (c := bodyOf Tryd.f31) (by kernel_rfl) (stepped_of (ls := [(6, l_cards_Text_6L)]) rfl rfl ⟨by kernel_rfl, fun _ => rfl, l_cards_Text_6_step, stepsI_end (by kernel_rfl)⟩) fun x r h => ⟨fuel, (f_cards_Text_run fuel x).trans h⟩

/-! strings.genSplit -/
noncomputable def E_strings_genSplit : Env := { te := te, spec := [(59, Vm.sCount), (60, Vm.sIndex)], body := [] }
def l_strings_genSplit_11H : Ann := { slots := [(0, .one (.val .str)), (1, .one (.val .str)), (2, .one (.val (.int .i64))), (3, .one (.val (.int .i64))), (9, .one (.own 124 .str)), (10, .one (.val (.int .i64)))], objs := [(124, .buf .str)] }
def l_strings_genSplit_11X : Ann := { slots := [(0, .one (.val .str)), (9, .one (.own 124 .str)), (10, .one (.val (.int .i64)))], objs := [(124, .buf .str)] }
def l_strings_genSplit_11R : Ann := { slots := [], objs := [] }
def l_strings_genSplit_11 : Nat → ByteArray → ByteArray → Int → Int → Int → List ByteArray → Option (LR l_strings_genSplit_11X l_strings_genSplit_11R)
  | 0, _, _, _, _, _, _ => none
  | m + 1, s0, s1, s2, s3, s10, b124 =>
    if decide (s10 < s3) = true then
      (Vm.stdIndex s0 s1).bind fun r1 =>
      if decide (r1 < 0) = true then
        some (.exit (s0, s10, b124, ()))
      else
        if (0 : Int) ≤ IntKind.i64.wrap (r1 + s2) then
          if IntKind.i64.wrap (r1 + s2) ≤ s0.size then
            if (0 : Int) ≤ s10 then
              if s10 < b124.length then
                if (0 : Int) ≤ IntKind.i64.wrap (r1 + (s1.size : Int)) then
                  if IntKind.i64.wrap (r1 + (s1.size : Int)) ≤ s0.size then
                    l_strings_genSplit_11 m (s0.extract (IntKind.i64.wrap (r1 + (s1.size : Int))).toNat s0.size) s1 s2 s3 (IntKind.i64.wrap (s10 + 1)) (b124.set s10.toNat (s0.extract 0 (IntKind.i64.wrap (r1 + s2)).toNat))
                  else none
                else none
              else none
            else none
          else none
        else none
    else
      some (.exit (s0, s10, b124, ()))
def l_strings_genSplit_11L : LSpec := { h := l_strings_genSplit_11H, x := l_strings_genSplit_11X, r := l_strings_genSplit_11R, xid := 0, rt := false, pins := [124], f := fun k d => l_strings_genSplit_11 k d.1 d.2.1 d.2.2.1 d.2.2.2.1 d.2.2.2.2.1 d.2.2.2.2.2.1 }
def LL_strings_genSplit : Loops := [([54], [(11, l_strings_genSplit_11L)])]
def f_strings_genSplit (k : Nat) (a0 : ByteArray) (a1 : ByteArray) (a2 : Int) (a3 : Int) : Option (List ByteArray) :=
  if (a3 == 0) = true then
    some []
  else
    if ((a1.toList == (⟨#[]⟩ : ByteArray).toList)) = true then
      none
    else
      if decide (a3 < 0) = true then
        (Vm.stdCount a0 a1).bind fun r1 =>
        if (0 : Int) ≤ (if IntKind.i64.wrap ((a0.size : Int) + 1) < IntKind.i64.wrap (r1 + 1) then IntKind.i64.wrap ((a0.size : Int) + 1) else IntKind.i64.wrap (r1 + 1)) then
          if (if IntKind.i64.wrap ((a0.size : Int) + 1) < IntKind.i64.wrap (r1 + 1) then IntKind.i64.wrap ((a0.size : Int) + 1) else IntKind.i64.wrap (r1 + 1)) ≤ (if IntKind.i64.wrap ((a0.size : Int) + 1) < IntKind.i64.wrap (r1 + 1) then IntKind.i64.wrap ((a0.size : Int) + 1) else IntKind.i64.wrap (r1 + 1)) then
            if (if IntKind.i64.wrap ((a0.size : Int) + 1) < IntKind.i64.wrap (r1 + 1) then IntKind.i64.wrap ((a0.size : Int) + 1) else IntKind.i64.wrap (r1 + 1)) * 16 ≤ 281474976710656 then
              match l_strings_genSplit_11 k a0 a1 a2 (IntKind.i64.wrap ((if IntKind.i64.wrap ((a0.size : Int) + 1) < IntKind.i64.wrap (r1 + 1) then IntKind.i64.wrap ((a0.size : Int) + 1) else IntKind.i64.wrap (r1 + 1)) - 1)) 0 (List.replicate ((if IntKind.i64.wrap ((a0.size : Int) + 1) < IntKind.i64.wrap (r1 + 1) then IntKind.i64.wrap ((a0.size : Int) + 1) else IntKind.i64.wrap (r1 + 1)).toNat) ByteArray.empty) with
              | none => none
              | some (.exit d2) =>
                if (0 : Int) ≤ d2.2.1 then
                  if d2.2.1 < d2.2.2.1.length then
                    if (0 : Int) ≤ IntKind.i64.wrap (d2.2.1 + 1) then
                      if IntKind.i64.wrap (d2.2.1 + 1) ≤ (d2.2.2.1.set d2.2.1.toNat d2.1).length then
                        some ((d2.2.2.1.set d2.2.1.toNat d2.1).take ((IntKind.i64.wrap (d2.2.1 + 1)).toNat))
                      else none
                    else none
                  else none
                else none
              | some (.ret d2) =>
                none
            else none
          else none
        else none
      else
        if (0 : Int) ≤ (if IntKind.i64.wrap ((a0.size : Int) + 1) < a3 then IntKind.i64.wrap ((a0.size : Int) + 1) else a3) then
          if (if IntKind.i64.wrap ((a0.size : Int) + 1) < a3 then IntKind.i64.wrap ((a0.size : Int) + 1) else a3) ≤ (if IntKind.i64.wrap ((a0.size : Int) + 1) < a3 then IntKind.i64.wrap ((a0.size : Int) + 1) else a3) then
            if (if IntKind.i64.wrap ((a0.size : Int) + 1) < a3 then IntKind.i64.wrap ((a0.size : Int) + 1) else a3) * 16 ≤ 281474976710656 then
              match l_strings_genSplit_11 k a0 a1 a2 (IntKind.i64.wrap ((if IntKind.i64.wrap ((a0.size : Int) + 1) < a3 then IntKind.i64.wrap ((a0.size : Int) + 1) else a3) - 1)) 0 (List.replicate ((if IntKind.i64.wrap ((a0.size : Int) + 1) < a3 then IntKind.i64.wrap ((a0.size : Int) + 1) else a3).toNat) ByteArray.empty) with
              | none => none
              | some (.exit d3) =>
                if (0 : Int) ≤ d3.2.1 then
                  if d3.2.1 < d3.2.2.1.length then
                    if (0 : Int) ≤ IntKind.i64.wrap (d3.2.1 + 1) then
                      if IntKind.i64.wrap (d3.2.1 + 1) ≤ (d3.2.2.1.set d3.2.1.toNat d3.1).length then
                        some ((d3.2.2.1.set d3.2.1.toNat d3.1).take ((IntKind.i64.wrap (d3.2.1 + 1)).toNat))
                      else none
                    else none
                  else none
                else none
              | some (.ret d3) =>
                none
            else none
          else none
        else none
theorem l_strings_genSplit_11_step (m : Nat) (d : dens l_strings_genSplit_11H.tys) : l_strings_genSplit_11L.f (m + 1) d = round E_strings_genSplit LL_strings_genSplit m [54] 66 (loopN (bodyOf Tryd.f54) 0) l_strings_genSplit_11L (l_strings_genSplit_11L.f m) d := by kernel_rfl
theorem f_strings_genSplit_run (k : Nat) (x : denL [.str, .str, .int .i64, .int .i64]) : runFn E_strings_genSplit LL_strings_genSplit k 54 Tryd.f54 [.str, .str, .int .i64, .int .i64] [.fresh .str] x = f_strings_genSplit k x.1 x.2.1 x.2.2.1 x.2.2.2 := by kernel_rfl
noncomputable def S_strings_genSplit : Vm.Spec := { ps := [.str, .str, .int .i64, .int .i64], rs := [.fresh .str], f := fun x => f_strings_genSplit fuel x.1 x.2.1 x.2.2.1 x.2.2.2 }
theorem f_strings_genSplit_holds : Vm.Spec.holds Tryd.prog 54 S_strings_genSplit := by
  have hB : BodiesOk Tryd.prog E_strings_genSplit := bodies_none rfl
  have hBS : BodiesStepped E_strings_genSplit LL_strings_genSplit := bodies_stepped_none rfl
  have hS : SpecsOk Tryd.prog E_strings_genSplit := specs_ok (by exact ⟨⟨by kernel_rfl, g59_holds⟩, ⟨by kernel_rfl, g60_holds⟩, trivial⟩)
  have hE : EOk Tryd.prog E_strings_genSplit := eok_te ok
  exact fn_sound (L := LL_strings_genSplit) hE hS hB (draws_ok hE hS (by kernel_rfl)) hBS (fn := Tryd.f54) (by kernel_rfl) (c := bodyOf Tryd.f54) (by kernel_rfl) (stepped_of (ls := [(11, l_strings_genSplit_11L)]) rfl rfl ⟨by kernel_rfl, fun _ => rfl, l_strings_genSplit_11_step, stepsI_end (by kernel_rfl)⟩) fun x r h => ⟨fuel, (f_strings_genSplit_run fuel x).trans h⟩

/-! strings.Split -/
noncomputable def E_strings_Split : Env := { te := te, spec := [(54, S_strings_genSplit)], body := [] }
def LL_strings_Split : Loops := []
def f_strings_Split (k : Nat) (a0 : ByteArray) (a1 : ByteArray) : Option (List ByteArray) :=
  (f_strings_genSplit fuel a0 a1 0 (-1)).bind fun r1 =>
  some r1
theorem f_strings_Split_run (k : Nat) (x : denL [.str, .str]) : runFn E_strings_Split LL_strings_Split k 45 Tryd.f45 [.str, .str] [.fresh .str] x = f_strings_Split k x.1 x.2 := by kernel_rfl
noncomputable def S_strings_Split : Vm.Spec := { ps := [.str, .str], rs := [.fresh .str], f := fun x => f_strings_Split fuel x.1 x.2 }
theorem f_strings_Split_holds : Vm.Spec.holds Tryd.prog 45 S_strings_Split := by
  have hB : BodiesOk Tryd.prog E_strings_Split := bodies_none rfl
  have hBS : BodiesStepped E_strings_Split LL_strings_Split := bodies_stepped_none rfl
  have hS : SpecsOk Tryd.prog E_strings_Split := specs_ok (by exact ⟨⟨by kernel_rfl, f_strings_genSplit_holds⟩, trivial⟩)
  have hE : EOk Tryd.prog E_strings_Split := eok_te ok
  exact fn_sound (L := LL_strings_Split) hE hS hB (draws_ok hE hS (by kernel_rfl)) hBS (fn := Tryd.f45) (by kernel_rfl) (c := bodyOf Tryd.f45) (by kernel_rfl) (stepped_none rfl) fun x r h => ⟨fuel, (f_strings_Split_run fuel x).trans h⟩

/-! gamehall/cards.Read -/
noncomputable def E_cards_Read : Env := { te := te, spec := [(33, S_cards_Check), (45, S_strings_Split), (46, Vm.sIndexByte)], body := [] }
def l_cards_Read_7H : Ann := { slots := [(4, .one (.own 180 (.int .i64))), (14, .one (.own 56 .str)), (15, .one (.val (.int .i64))), (16, .one (.val (.int .i64)))], objs := [(180, .buf (.int .i64)), (56, .buf .str)] }
def l_cards_Read_7X : Ann := { slots := [(4, .one (.own 180 (.int .i64)))], objs := [(180, .buf (.int .i64)), (56, .buf .str)] }
def l_cards_Read_7R : Ann := { slots := [(2, .one (.fix .nil)), (3, .one (.val (.int .i64)))], objs := [(56, .buf .str)] }
def l_cards_Read_7 : Nat → Int → Int → List Int → List ByteArray → Option (LR l_cards_Read_7X l_cards_Read_7R)
  | 0, _, _, _, _ => none
  | m + 1, s15, s16, b180, b56 =>
    if decide (s16 < s15) = true then
      if (0 : Int) ≤ s16 then
        if s16 < b56.length then
          if (((b56.getD s16.toNat ByteArray.empty).size : Int) != 2) = false then
            if (0 : Int) < ((b56.getD s16.toNat ByteArray.empty).size : Int) then
              (Vm.stdIndexByte (⟨#[50, 51, 52, 53, 54, 55, 56, 57, 84, 74, 81, 75, 65]⟩ : ByteArray) (((b56.getD s16.toNat ByteArray.empty).data.getD 0 0).toNat : Int)).bind fun r1 =>
              if decide (r1 < 0) = false then
                if (1 : Int) < ((b56.getD s16.toNat ByteArray.empty).size : Int) then
                  (Vm.stdIndexByte (⟨#[67, 68, 72, 83]⟩ : ByteArray) (((b56.getD s16.toNat ByteArray.empty).data.getD 1 0).toNat : Int)).bind fun r2 =>
                  if decide (r2 < 0) = true then
                    some (.ret (5, b56, ()))
                  else
                    if (1 : Int) < ((b56.getD s16.toNat ByteArray.empty).size : Int) then
                      if (0 : Int) < ((b56.getD s16.toNat ByteArray.empty).size : Int) then
                        (Vm.stdIndexByte (⟨#[67, 68, 72, 83]⟩ : ByteArray) (((b56.getD s16.toNat ByteArray.empty).data.getD 1 0).toNat : Int)).bind fun r3 =>
                        (Vm.stdIndexByte (⟨#[50, 51, 52, 53, 54, 55, 56, 57, 84, 74, 81, 75, 65]⟩ : ByteArray) (((b56.getD s16.toNat ByteArray.empty).data.getD 0 0).toNat : Int)).bind fun r4 =>
                        if (b180.length + 1) * 8 ≤ 140737488355328 then
                          l_cards_Read_7 m s15 (IntKind.i64.wrap (s16 + 1)) (b180 ++ [IntKind.i64.wrap ((IntKind.i64.wrap (r3 * 13)) + r4)]) b56
                        else none
                      else none
                    else none
                else none
              else
                some (.ret (5, b56, ()))
            else none
          else
            some (.ret (5, b56, ()))
        else none
      else none
    else
      some (.exit (b180, b56, ()))
def l_cards_Read_7L : LSpec := { h := l_cards_Read_7H, x := l_cards_Read_7X, r := l_cards_Read_7R, xid := 0, rt := true, pins := [56], f := fun k d => l_cards_Read_7 k d.1 d.2.1 d.2.2.1 d.2.2.2.1 }
def LL_cards_Read : Loops := [([32], [(7, l_cards_Read_7L)])]
def f_cards_Read (k : Nat) (a0 : ByteArray) : Option (List Int × Int) :=
  if decide ((a0.size : Int) > 8192) = true then
    some ([], 2)
  else
    if ((a0.toList == (⟨#[]⟩ : ByteArray).toList)) = true then
      some ([], 0)
    else
      (f_strings_Split fuel a0 (⟨#[32]⟩ : ByteArray)).bind fun r1 =>
      match l_cards_Read_7 k (r1.length : Int) 0 [] r1 with
      | none => none
      | some (.exit d2) =>
        (f_cards_Check fuel d2.1).bind fun r3 =>
        if (r3 != 0) = true then
          some ([], r3)
        else
          some (d2.1, 0)
      | some (.ret d2) =>
        some ([], d2.1)
theorem l_cards_Read_7_step (m : Nat) (d : dens l_cards_Read_7H.tys) : l_cards_Read_7L.f (m + 1) d = round E_cards_Read LL_cards_Read m [32] 53 (loopN (bodyOf Tryd.f32) 0) l_cards_Read_7L (l_cards_Read_7L.f m) d := by kernel_rfl
theorem f_cards_Read_run (k : Nat) (x : denL [.str]) : runFn E_cards_Read LL_cards_Read k 32 Tryd.f32 [.str] [.fresh (.int .i64), .imm (.int .i64)] x = f_cards_Read k x := by kernel_rfl
noncomputable def S_cards_Read : Vm.Spec := { ps := [.str], rs := [.fresh (.int .i64), .imm (.int .i64)], f := fun x => f_cards_Read fuel x }
theorem f_cards_Read_holds : Vm.Spec.holds Tryd.prog 32 S_cards_Read := by
  have hB : BodiesOk Tryd.prog E_cards_Read := bodies_none rfl
  have hBS : BodiesStepped E_cards_Read LL_cards_Read := bodies_stepped_none rfl
  have hS : SpecsOk Tryd.prog E_cards_Read := specs_ok (by exact ⟨⟨by kernel_rfl, f_cards_Check_holds⟩, ⟨by kernel_rfl, f_strings_Split_holds⟩, ⟨by kernel_rfl, g46_holds⟩, trivial⟩)
  have hE : EOk Tryd.prog E_cards_Read := eok_te ok
  exact fn_sound (L := LL_cards_Read) hE hS hB (draws_ok hE hS (by kernel_rfl)) hBS (fn := Tryd.f32) (by kernel_rfl) (c := bodyOf Tryd.f32) (by kernel_rfl) (stepped_of (ls := [(7, l_cards_Read_7L)]) rfl rfl ⟨by kernel_rfl, fun _ => rfl, l_cards_Read_7_step, stepsI_end (by kernel_rfl)⟩) fun x r h => ⟨fuel, (f_cards_Read_run fuel x).trans h⟩

/-! gamehall/gamehallkeep2.cardsFact -/
noncomputable def E_gamehallkeep2_cardsFact : Env := { te := te, spec := [(11, S_cards_Fits), (14, S_cards_Fresh), (15, S_cards_Shuffle), (16, S_gamehallkeep2_fine), (18, S_slices_Equal_int), (28, S_cards_Draws), (29, S_cards_Cut), (30, S_cards_Deal), (31, S_cards_Text), (32, S_cards_Read), (33, S_cards_Check)], body := [] }
def LL_gamehallkeep2_cardsFact : Loops := []
def f_gamehallkeep2_cardsFact (k : Nat) : Option (Bool) :=
  (f_cards_Fresh fuel 3).bind fun r1 =>
  (f_cards_Shuffle fuel [0, 1, 2] [0, 0]).bind fun r2 =>
  (f_cards_Draws fuel [0, 1, 2] [1, 2, 0]).bind fun r3 =>
  (f_cards_Cut fuel [4, 5, 6] 1).bind fun r4 =>
  (f_cards_Deal fuel [5, 6, 7] 2 1).bind fun r5 =>
  (f_cards_Text fuel [0, 51]).bind fun r6 =>
  (f_cards_Read fuel (⟨#[50, 67, 32, 65, 83]⟩ : ByteArray)).bind fun r7 =>
  (f_gamehallkeep2_fine fuel [r1.2, r2.2, r3.2, r4.2, r5.2.2, r6.2, r7.2]).bind fun r8 =>
  if r8 = true then
    (f_slices_Equal_int fuel r1.1 [0, 1, 2]).bind fun r9 =>
    if r9 = true then
      (f_slices_Equal_int fuel r2.1 [1, 2, 0]).bind fun r10 =>
      if r10 = true then
        (f_slices_Equal_int fuel r3.1 [0, 0]).bind fun r11 =>
        if r11 = true then
          (f_slices_Equal_int fuel r4.1 [5, 6, 4]).bind fun r12 =>
          if r12 = true then
            if ((r5.1.length : Int) == 2) = true then
              if (1 : Int) < r5.1.length then
                (f_slices_Equal_int fuel (r5.1.getD 1 []) [6]).bind fun r13 =>
                if r13 = true then
                  (f_slices_Equal_int fuel r5.2.1 [7]).bind fun r14 =>
                  if r14 = true then
                    if ((r6.1.toList == (⟨#[50, 67, 32, 65, 83]⟩ : ByteArray).toList)) = true then
                      (f_slices_Equal_int fuel r7.1 [0, 51]).bind fun r15 =>
                      if r15 = true then
                        (f_cards_Check fuel [1, 1]).bind fun r16 =>
                        if (r16 == 7) = true then
                          (f_cards_Fits fuel 2 []).bind fun r17 =>
                          some (r17 == 3)
                        else
                          some false
                      else
                        some false
                    else
                      some false
                  else
                    some false
                else
                  some false
              else none
            else
              some false
          else
            some false
        else
          some false
      else
        some false
    else
      some false
  else
    some false
theorem f_gamehallkeep2_cardsFact_run (k : Nat) (x : denL []) : runFn E_gamehallkeep2_cardsFact LL_gamehallkeep2_cardsFact k 7 Tryd.f7 [] [.imm .bool] x = f_gamehallkeep2_cardsFact k := by kernel_rfl
noncomputable def S_gamehallkeep2_cardsFact : Vm.Spec := { ps := [], rs := [.imm .bool], f := fun x => f_gamehallkeep2_cardsFact fuel }
theorem f_gamehallkeep2_cardsFact_holds : Vm.Spec.holds Tryd.prog 7 S_gamehallkeep2_cardsFact := by
  have hB : BodiesOk Tryd.prog E_gamehallkeep2_cardsFact := bodies_none rfl
  have hBS : BodiesStepped E_gamehallkeep2_cardsFact LL_gamehallkeep2_cardsFact := bodies_stepped_none rfl
  have hS : SpecsOk Tryd.prog E_gamehallkeep2_cardsFact := specs_ok (by exact ⟨⟨by kernel_rfl, f_cards_Fits_holds⟩, ⟨by kernel_rfl, f_cards_Fresh_holds⟩, ⟨by kernel_rfl, f_cards_Shuffle_holds⟩, ⟨by kernel_rfl, f_gamehallkeep2_fine_holds⟩, ⟨by kernel_rfl, f_slices_Equal_int_holds⟩, ⟨by kernel_rfl, f_cards_Draws_holds⟩, ⟨by kernel_rfl, f_cards_Cut_holds⟩, ⟨by kernel_rfl, f_cards_Deal_holds⟩, ⟨by kernel_rfl, f_cards_Text_holds⟩, ⟨by kernel_rfl, f_cards_Read_holds⟩, ⟨by kernel_rfl, f_cards_Check_holds⟩, trivial⟩)
  have hE : EOk Tryd.prog E_gamehallkeep2_cardsFact := eok_te ok
  exact fn_sound (L := LL_gamehallkeep2_cardsFact) hE hS hB (draws_ok hE hS (by kernel_rfl)) hBS (fn := Tryd.f7) (by kernel_rfl) (c := bodyOf Tryd.f7) (by kernel_rfl) (stepped_none rfl) fun x r h => ⟨fuel, (f_gamehallkeep2_cardsFact_run fuel x).trans h⟩

/-! gamehall/deal.Seal -/
noncomputable def E_deal_Seal : Env := { te := te, spec := [], body := [(38, Tryd.f38)] }
def l_deal_Seal_1__deal_Seal_1H : Ann := { slots := [(0, .one (.val (.int .u64))), (1, .one (.fix (.pbox 20 0))), (3, .one (.val (.int .i64)))], objs := [(20, .box [.val (.int .u64)])] }
def l_deal_Seal_1__deal_Seal_1X : Ann := { slots := [], objs := [(20, .box [.val (.int .u64)])] }
def l_deal_Seal_1__deal_Seal_1R : Ann := { slots := [], objs := [] }
def l_deal_Seal_6H : Ann := { slots := [(6, .one (.fix (.clos 36))), (19, .one (.val (.slice (.int .i64)))), (20, .one (.val (.int .i64))), (21, .one (.val (.int .i64)))], objs := [(36, .clos 38 [.fix (.pbox 20 0)]), (20, .box [.val (.int .u64)])] }
def l_deal_Seal_6X : Ann := { slots := [], objs := [(36, .clos 38 [.fix (.pbox 20 0)]), (20, .box [.val (.int .u64)])] }
def l_deal_Seal_6R : Ann := { slots := [], objs := [] }
def l_deal_Seal_1__deal_Seal_1 : Nat → Int → Int → Int → Option (LR l_deal_Seal_1__deal_Seal_1X l_deal_Seal_1__deal_Seal_1R)
  | 0, _, _, _ => none
  | m + 1, s0, s3, b20_0 =>
    if decide (s3 < 8) = true then
      l_deal_Seal_1__deal_Seal_1 m (s0.fdiv (2 ^ 8)) (IntKind.i64.wrap (s3 + 1)) (IntKind.u64.wrap ((bitop .xor .u64 b20_0 (bitop .and .u64 s0 255)) * 1099511628211))
    else
      some (.exit (b20_0, ()))
def l_deal_Seal_1__deal_Seal_1L : LSpec := { h := l_deal_Seal_1__deal_Seal_1H, x := l_deal_Seal_1__deal_Seal_1X, r := l_deal_Seal_1__deal_Seal_1R, xid := 0, rt := false, pins := [20], f := fun k d => l_deal_Seal_1__deal_Seal_1 k d.1 d.2.1 d.2.2.1 }
def l_deal_Seal_6 : Nat → List Int → Int → Int → Int → Option (LR l_deal_Seal_6X l_deal_Seal_6R)
  | 0, _, _, _, _ => none
  | m + 1, s19, s20, s21, b20_0 =>
    if decide (s21 < s20) = true then
      if (0 : Int) ≤ s21 then
        if s21 < s19.length then
          match l_deal_Seal_1__deal_Seal_1 m (IntKind.u64.wrap (s19.getD s21.toNat 0)) 0 b20_0 with
          | none => none
          | some (.exit d1) =>
            l_deal_Seal_6 m s19 s20 (IntKind.i64.wrap (s21 + 1)) d1.1
          | some (.ret d1) =>
            none
        else none
      else none
    else
      some (.exit (b20_0, ()))
def l_deal_Seal_6L : LSpec := { h := l_deal_Seal_6H, x := l_deal_Seal_6X, r := l_deal_Seal_6R, xid := 0, rt := false, pins := [36, 20], f := fun k d => l_deal_Seal_6 k d.1 d.2.1 d.2.2.1 d.2.2.2.1 }
def LL_deal_Seal : Loops := [([38, 24], [(1, l_deal_Seal_1__deal_Seal_1L)]), ([24], [(6, l_deal_Seal_6L)])]
def f_deal_Seal (k : Nat) (a0 : List Int) (a1 : Int) : Option (Int) :=
  match l_deal_Seal_1__deal_Seal_1 k (IntKind.u64.wrap (a1)) 0 14695981039346656037 with
  | none => none
  | some (.exit d1) =>
    match l_deal_Seal_1__deal_Seal_1 k (IntKind.u64.wrap ((a0.length : Int))) 0 d1.1 with
    | none => none
    | some (.exit d2) =>
      match l_deal_Seal_6 k a0 (a0.length : Int) 0 d2.1 with
      | none => none
      | some (.exit d3) =>
        some d3.1
      | some (.ret d3) =>
        none
    | some (.ret d2) =>
      none
  | some (.ret d1) =>
    none
theorem l_deal_Seal_1__deal_Seal_1_step (m : Nat) (d : dens l_deal_Seal_1__deal_Seal_1H.tys) : l_deal_Seal_1__deal_Seal_1L.f (m + 1) d = round E_deal_Seal LL_deal_Seal m [38, 24] 14 (loopN (bodyOf Tryd.f38) 0) l_deal_Seal_1__deal_Seal_1L (l_deal_Seal_1__deal_Seal_1L.f m) d := by kernel_rfl
theorem l_deal_Seal_6_step (m : Nat) (d : dens l_deal_Seal_6H.tys) : l_deal_Seal_6L.f (m + 1) d = round E_deal_Seal LL_deal_Seal m [24] 31 (loopN (bodyOf Tryd.f24) 0) l_deal_Seal_6L (l_deal_Seal_6L.f m) d := by kernel_rfl
theorem f_deal_Seal_run (k : Nat) (x : denL [.slice (.int .i64), .int .i64]) : runFn E_deal_Seal LL_deal_Seal k 24 Tryd.f24 [.slice (.int .i64), .int .i64] [.imm (.int .u64)] x = f_deal_Seal k x.1 x.2 := by kernel_rfl
noncomputable def S_deal_Seal : Vm.Spec := { ps := [.slice (.int .i64), .int .i64], rs := [.imm (.int .u64)], f := fun x => f_deal_Seal fuel x.1 x.2 }
theorem f_deal_Seal_holds : Vm.Spec.holds Tryd.prog 24 S_deal_Seal := by
  have hB : BodiesOk Tryd.prog E_deal_Seal := bodies_ok (by exact ⟨by kernel_rfl, by kernel_rfl, trivial⟩)
  have hBS : BodiesStepped E_deal_Seal LL_deal_Seal := by
    refine bodies_stepped ?_
    exact ⟨(stepped_paths [[24]] (by exact ⟨stepped_of (ls := [(1, l_deal_Seal_1__deal_Seal_1L)]) rfl rfl ⟨by kernel_rfl, fun _ => rfl, l_deal_Seal_1__deal_Seal_1_step, stepsI_end (by kernel_rfl)⟩,  trivial⟩) rfl),  trivial⟩
  have hS : SpecsOk Tryd.prog E_deal_Seal := specs_ok (by exact trivial)
  have hE : EOk Tryd.prog E_deal_Seal := eok_te ok
  exact fn_sound (L := LL_deal_Seal) hE hS hB (draws_ok hE hS (by kernel_rfl)) hBS (fn := Tryd.f24) (by kernel_rfl) (c := bodyOf Tryd.f24) (by kernel_rfl) (stepped_of (ls := [(6, l_deal_Seal_6L)]) rfl rfl ⟨by kernel_rfl, fun _ => rfl, l_deal_Seal_6_step, stepsI_end (by kernel_rfl)⟩) fun x r h => ⟨fuel, (f_deal_Seal_run fuel x).trans h⟩

/-! gamehall/deal.Combine -/
noncomputable def E_deal_Combine : Env := { te := te, spec := [(11, S_cards_Fits)], body := [] }
def l_deal_Combine_6H : Ann := { slots := [(0, .one (.val (.int .i64))), (23, .one (.val (.slice (.slice (.int .i64))))), (24, .one (.val (.int .i64))), (25, .one (.val (.int .i64)))], objs := [] }
def l_deal_Combine_6X : Ann := { slots := [], objs := [] }
def l_deal_Combine_6R : Ann := { slots := [(4, .one (.fix .nil)), (5, .one (.val (.int .i64)))], objs := [] }
def l_deal_Combine_18H : Ann := { slots := [(10, .one (.val (.int .i64))), (11, .one (.val (.int .i64))), (42, .one (.val (.slice (.slice (.int .i64))))), (43, .one (.val (.int .i64))), (44, .one (.val (.int .i64)))], objs := [] }
def l_deal_Combine_18X : Ann := { slots := [(11, .one (.val (.int .i64)))], objs := [] }
def l_deal_Combine_18R : Ann := { slots := [], objs := [] }
def l_deal_Combine_14H : Ann := { slots := [(0, .one (.val (.int .i64))), (1, .one (.val (.slice (.slice (.int .i64))))), (9, .one (.own 248 (.int .i64))), (38, .one (.val (.int .i64))), (39, .one (.val (.int .i64)))], objs := [(248, .buf (.int .i64))] }
def l_deal_Combine_14X : Ann := { slots := [(9, .one (.own 248 (.int .i64)))], objs := [(248, .buf (.int .i64))] }
def l_deal_Combine_14R : Ann := { slots := [], objs := [] }
def l_deal_Combine_6 : Nat → Int → List (List Int) → Int → Int → Option (LR l_deal_Combine_6X l_deal_Combine_6R)
  | 0, _, _, _, _ => none
  | m + 1, s0, s23, s24, s25 =>
    if decide (s25 < s24) = true then
      if (0 : Int) ≤ s25 then
        if s25 < s23.length then
          (f_cards_Fits fuel s0 (s23.getD s25.toNat [])).bind fun r1 =>
          if (r1 != 0) = true then
            some (.ret (r1, ()))
          else
            l_deal_Combine_6 m s0 s23 s24 (IntKind.i64.wrap (s25 + 1))
        else none
      else none
    else
      some (.exit ())
def l_deal_Combine_6L : LSpec := { h := l_deal_Combine_6H, x := l_deal_Combine_6X, r := l_deal_Combine_6R, xid := 0, rt := true, pins := [], f := fun k d => l_deal_Combine_6 k d.1 d.2.1 d.2.2.1 d.2.2.2.1 }
def l_deal_Combine_18 : Nat → Int → Int → List (List Int) → Int → Int → Option (LR l_deal_Combine_18X l_deal_Combine_18R)
  | 0, _, _, _, _, _ => none
  | m + 1, s10, s11, s42, s43, s44 =>
    if decide (s44 < s43) = true then
      if (0 : Int) ≤ s44 then
        if s44 < s42.length then
          if (0 : Int) ≤ s10 then
            if s10 < (s42.getD s44.toNat []).length then
              l_deal_Combine_18 m s10 (IntKind.i64.wrap (s11 + ((s42.getD s44.toNat []).getD s10.toNat 0))) s42 s43 (IntKind.i64.wrap (s44 + 1))
            else none
          else none
        else none
      else none
    else
      some (.exit (s11, ()))
def l_deal_Combine_18L : LSpec := { h := l_deal_Combine_18H, x := l_deal_Combine_18X, r := l_deal_Combine_18R, xid := 4, rt := false, pins := [], f := fun k d => l_deal_Combine_18 k d.1 d.2.1 d.2.2.1 d.2.2.2.1 d.2.2.2.2.1 }
def l_deal_Combine_14 : Nat → Int → List (List Int) → Int → Int → List Int → Option (LR l_deal_Combine_14X l_deal_Combine_14R)
  | 0, _, _, _, _, _ => none
  | m + 1, s0, s1, s38, s39, b248 =>
    if decide (s39 < s38) = true then
      match l_deal_Combine_18 m s39 0 s1 (s1.length : Int) 0 with
      | none => none
      | some (.exit d1) =>
        if IntKind.i64.wrap (s0 - s39) = 0 then
          none
        else
          if (b248.length + 1) * 8 ≤ 140737488355328 then
            l_deal_Combine_14 m s0 s1 s38 (IntKind.i64.wrap (s39 + 1)) (b248 ++ [d1.1.tmod (IntKind.i64.wrap (s0 - s39))])
          else none
      | some (.ret d1) =>
        none
    else
      some (.exit (b248, ()))
def l_deal_Combine_14L : LSpec := { h := l_deal_Combine_14H, x := l_deal_Combine_14X, r := l_deal_Combine_14R, xid := 2, rt := false, pins := [], f := fun k d => l_deal_Combine_14 k d.1 d.2.1 d.2.2.1 d.2.2.2.1 d.2.2.2.2.1 }
def LL_deal_Combine : Loops := [([13], [(6, l_deal_Combine_6L), (14, l_deal_Combine_14L), (18, l_deal_Combine_18L)])]
def f_deal_Combine (k : Nat) (a0 : Int) (a1 : List (List Int)) : Option (List Int × Int) :=
  if decide (a0 < 0) = false then
    if decide (a0 > 52) = true then
      some ([], 4)
    else
      if decide ((a1.length : Int) > 6) = true then
        some ([], 2)
      else
        match l_deal_Combine_6 k a0 a1 (a1.length : Int) 0 with
        | none => none
        | some (.exit d1) =>
          match l_deal_Combine_14 k a0 a1 (if IntKind.i64.wrap (a0 - 1) > 0 then IntKind.i64.wrap (a0 - 1) else 0) 0 [] with
          | none => none
          | some (.exit d2) =>
            some (d2.1, 0)
          | some (.ret d2) =>
            none
        | some (.ret d1) =>
          some ([], d1.1)
  else
    some ([], 4)
theorem l_deal_Combine_6_step (m : Nat) (d : dens l_deal_Combine_6H.tys) : l_deal_Combine_6L.f (m + 1) d = round E_deal_Combine LL_deal_Combine m [13] 65 (loopN (bodyOf Tryd.f13) 0) l_deal_Combine_6L (l_deal_Combine_6L.f m) d := by kernel_rfl
theorem l_deal_Combine_18_step (m : Nat) (d : dens l_deal_Combine_18H.tys) : l_deal_Combine_18L.f (m + 1) d = round E_deal_Combine LL_deal_Combine m [13] 65 (loopN (bodyOf Tryd.f13) 2) l_deal_Combine_18L (l_deal_Combine_18L.f m) d := by kernel_rfl
theorem l_deal_Combine_14_step (m : Nat) (d : dens l_deal_Combine_14H.tys) : l_deal_Combine_14L.f (m + 1) d = round E_deal_Combine LL_deal_Combine m [13] 65 (loopN (bodyOf Tryd.f13) 1) l_deal_Combine_14L (l_deal_Combine_14L.f m) d := by kernel_rfl
theorem f_deal_Combine_run (k : Nat) (x : denL [.int .i64, .slice (.slice (.int .i64))]) : runFn E_deal_Combine LL_deal_Combine k 13 Tryd.f13 [.int .i64, .slice (.slice (.int .i64))] [.fresh (.int .i64), .imm (.int .i64)] x = f_deal_Combine k x.1 x.2 := by kernel_rfl
noncomputable def S_deal_Combine : Vm.Spec := { ps := [.int .i64, .slice (.slice (.int .i64))], rs := [.fresh (.int .i64), .imm (.int .i64)], f := fun x => f_deal_Combine fuel x.1 x.2 }
theorem f_deal_Combine_holds : Vm.Spec.holds Tryd.prog 13 S_deal_Combine := by
  have hB : BodiesOk Tryd.prog E_deal_Combine := bodies_none rfl
  have hBS : BodiesStepped E_deal_Combine LL_deal_Combine := bodies_stepped_none rfl
  have hS : SpecsOk Tryd.prog E_deal_Combine := specs_ok (by exact ⟨⟨by kernel_rfl, f_cards_Fits_holds⟩, trivial⟩)
  have hE : EOk Tryd.prog E_deal_Combine := eok_te ok
  exact fn_sound (L := LL_deal_Combine) hE hS hB (draws_ok hE hS (by kernel_rfl)) hBS (fn := Tryd.f13) (by kernel_rfl) (c := bodyOf Tryd.f13) (by kernel_rfl) (stepped_of (ls := [(6, l_deal_Combine_6L), (14, l_deal_Combine_14L), (18, l_deal_Combine_18L)]) rfl rfl ⟨by kernel_rfl, fun _ => rfl, l_deal_Combine_6_step, by kernel_rfl, fun _ => rfl, l_deal_Combine_14_step, by kernel_rfl, fun _ => rfl, l_deal_Combine_18_step, stepsI_end (by kernel_rfl)⟩) fun x r h => ⟨fuel, (f_deal_Combine_run fuel x).trans h⟩

/-! gamehall/gamehallkeep2.dealFact -/
noncomputable def E_gamehallkeep2_dealFact : Env := { te := te, spec := [(11, S_cards_Fits), (13, S_deal_Combine), (14, S_cards_Fresh), (15, S_cards_Shuffle), (16, S_gamehallkeep2_fine), (18, S_slices_Equal_int), (24, S_deal_Seal), (35, S_slices_Clone_ints), (39, S_slices_Contains_bool)], body := [(17, Tryd.f17), (19, Tryd.f19), (20, Tryd.f20), (23, Tryd.f23), (25, Tryd.f25), (26, Tryd.f26), (27, Tryd.f27)] }
def l_deal_Table_Missing__gamehallkeep2_dealFact_6H : Ann := { slots := [(0, .one (.fix (.pbox 4120 0))), (4, .one (.own 156 (.int .i64))), (20, .one (.own 4088 .bool)), (21, .one (.val (.int .i64))), (22, .one (.val (.int .i64)))], objs := [(4120, .box [.val (.int .i64), .val (.int .i64), .own 4088 .bool, .own 4096 .bool, .own 4104 (.int .u64), .own 4112 (.slice (.int .i64)), .val (.int .i64)]), (156, .buf (.int .i64)), (4088, .buf .bool), (4096, .buf .bool), (4104, .buf (.int .u64)), (4112, .grid (.int .i64))] }
def l_deal_Table_Missing__gamehallkeep2_dealFact_6X : Ann := { slots := [(4, .one (.own 156 (.int .i64)))], objs := [(156, .buf (.int .i64)), (4120, .box [.val (.int .i64), .val (.int .i64), .own 4088 .bool, .own 4096 .bool, .own 4104 (.int .u64), .own 4112 (.slice (.int .i64)), .val (.int .i64)]), (4088, .buf .bool), (4096, .buf .bool), (4104, .buf (.int .u64)), (4112, .grid (.int .i64))] }
def l_deal_Table_Missing__gamehallkeep2_dealFact_6R : Ann := { slots := [], objs := [] }
def l_deal_Table_Missing__gamehallkeep2_dealFact_6 : Nat → Int → Int → Int → Int → Int → List Int → List Bool → List Bool → List Int → List (List Int) → Option (LR l_deal_Table_Missing__gamehallkeep2_dealFact_6X l_deal_Table_Missing__gamehallkeep2_dealFact_6R)
  | 0, _, _, _, _, _, _, _, _, _, _ => none
  | m + 1, s21, s22, b4120_0, b4120_1, b4120_6, b156, b4088, b4096, b4104, b4112 =>
    if decide (s22 < s21) = true then
      if (0 : Int) ≤ s22 then
        if s22 < b4088.length then
          if (!(b4088.getD s22.toNat false)) = true then
            if decide (b4120_1 ≤ 1) = true then
              if (b156.length + 1) * 8 ≤ 140737488355328 then
                l_deal_Table_Missing__gamehallkeep2_dealFact_6 m s21 (IntKind.i64.wrap (s22 + 1)) b4120_0 b4120_1 b4120_6 (b156 ++ [s22]) b4088 b4096 b4104 b4112
              else none
            else
              l_deal_Table_Missing__gamehallkeep2_dealFact_6 m s21 (IntKind.i64.wrap (s22 + 1)) b4120_0 b4120_1 b4120_6 b156 b4088 b4096 b4104 b4112
          else
            l_deal_Table_Missing__gamehallkeep2_dealFact_6 m s21 (IntKind.i64.wrap (s22 + 1)) b4120_0 b4120_1 b4120_6 b156 b4088 b4096 b4104 b4112
        else none
      else none
    else
      some (.exit (b156, b4120_0, b4120_1, b4120_6, b4088, b4096, b4104, b4112, ()))
def l_deal_Table_Missing__gamehallkeep2_dealFact_6L : LSpec := { h := l_deal_Table_Missing__gamehallkeep2_dealFact_6H, x := l_deal_Table_Missing__gamehallkeep2_dealFact_6X, r := l_deal_Table_Missing__gamehallkeep2_dealFact_6R, xid := 0, rt := false, pins := [4120, 4088, 4096, 4104, 4112], f := fun k d => l_deal_Table_Missing__gamehallkeep2_dealFact_6 k d.1 d.2.1 d.2.2.1 d.2.2.2.1 d.2.2.2.2.1 d.2.2.2.2.2.1 d.2.2.2.2.2.2.1 d.2.2.2.2.2.2.2.1 d.2.2.2.2.2.2.2.2.1 d.2.2.2.2.2.2.2.2.2.1 }
def LL_gamehallkeep2_dealFact : Loops := [([20, 6], [(6, l_deal_Table_Missing__gamehallkeep2_dealFact_6L)])]
def f_gamehallkeep2_dealFact (k : Nat) : Option (Bool) :=
  (f_deal_Combine fuel 3 [[2, 1], [2, 1]]).bind fun r1 =>
  (f_gamehallkeep2_fine fuel [r1.2, 0]).bind fun r2 =>
  if (!r2) = false then
    match l_deal_Table_Missing__gamehallkeep2_dealFact_6 k ((List.replicate 1 false).length : Int) 0 2 0 (-1) [] (List.replicate 1 false) (List.replicate 1 false) (List.replicate 1 0) (List.replicate 1 []) with
    | none => none
    | some (.exit d3) =>
      if ((d3.1.length : Int) != 1) = true then
        some false
      else
        (f_deal_Seal fuel [0] 7).bind fun r4 =>
        if decide (0 ≥ (d3.2.2.2.2.2.2.1.length : Int)) = true then
          if decide (0 ≥ (d3.2.2.2.2.2.2.1.length : Int)) = true then
            if (d3.2.2.1 != 2) = true then
              if (d3.2.2.1 != 3) = true then
                (f_gamehallkeep2_fine fuel [4, 4, 10]).bind fun r5 =>
                if r5 = true then
                  (f_slices_Equal_int fuel r1.1 [1, 0]).bind fun r6 =>
                  if r6 = true then
                    if (d3.2.2.1 == 1) = true then
                      some false
                    else
                      some false
                  else
                    some false
                else
                  some false
              else
                (f_gamehallkeep2_fine fuel [4, 4, 10]).bind fun r7 =>
                if r7 = true then
                  (f_slices_Equal_int fuel r1.1 [1, 0]).bind fun r8 =>
                  if r8 = true then
                    if (d3.2.2.1 == 1) = true then
                      some false
                    else
                      some false
                  else
                    some false
                else
                  some false
            else
              (f_deal_Combine fuel d3.2.1 d3.2.2.2.2.2.2.2.1).bind fun r9 =>
              if (r9.2 != 0) = true then
                if (d3.2.2.1 != 3) = true then
                  (f_gamehallkeep2_fine fuel [4, 4, r9.2]).bind fun r10 =>
                  if r10 = true then
                    (f_slices_Equal_int fuel r1.1 [1, 0]).bind fun r11 =>
                    if r11 = true then
                      if (d3.2.2.1 == 1) = true then
                        some false
                      else
                        some false
                    else
                      some false
                  else
                    some false
                else
                  (f_gamehallkeep2_fine fuel [4, 4, r9.2]).bind fun r12 =>
                  if r12 = true then
                    (f_slices_Equal_int fuel r1.1 [1, 0]).bind fun r13 =>
                    if r13 = true then
                      if (d3.2.2.1 == 1) = true then
                        some false
                      else
                        some false
                    else
                      some false
                  else
                    some false
              else
                (f_cards_Fresh fuel d3.2.1).bind fun r14 =>
                if (r14.2 != 0) = true then
                  if (d3.2.2.1 != 3) = true then
                    (f_gamehallkeep2_fine fuel [4, 4, r14.2]).bind fun r15 =>
                    if r15 = true then
                      (f_slices_Equal_int fuel r1.1 [1, 0]).bind fun r16 =>
                      if r16 = true then
                        if (d3.2.2.1 == 1) = true then
                          some false
                        else
                          some false
                      else
                        some false
                    else
                      some false
                  else
                    (f_gamehallkeep2_fine fuel [4, 4, r14.2]).bind fun r17 =>
                    if r17 = true then
                      (f_slices_Equal_int fuel r1.1 [1, 0]).bind fun r18 =>
                      if r18 = true then
                        if (d3.2.2.1 == 1) = true then
                          some false
                        else
                          some false
                      else
                        some false
                    else
                      some false
                else
                  (f_cards_Shuffle fuel r14.1 r9.1).bind fun r19 =>
                  if (d3.2.2.1 != 3) = true then
                    (f_gamehallkeep2_fine fuel [4, 4, r19.2]).bind fun r20 =>
                    if r20 = true then
                      (f_slices_Equal_int fuel r1.1 [1, 0]).bind fun r21 =>
                      if r21 = true then
                        if (d3.2.2.1 == 1) = true then
                          some false
                        else
                          some false
                      else
                        some false
                    else
                      some false
                  else
                    (f_gamehallkeep2_fine fuel [4, 4, r19.2]).bind fun r22 =>
                    if r22 = true then
                      (f_slices_Equal_int fuel r1.1 [1, 0]).bind fun r23 =>
                      if r23 = true then
                        if (d3.2.2.1 == 1) = true then
                          some false
                        else
                          some false
                      else
                        some false
                    else
                      some false
          else
            if (d3.2.2.1 != 1) = true then
              if (d3.2.2.1 != 2) = true then
                if (d3.2.2.1 != 3) = true then
                  (f_gamehallkeep2_fine fuel [4, 10, 10]).bind fun r24 =>
                  if r24 = true then
                    (f_slices_Equal_int fuel r1.1 [1, 0]).bind fun r25 =>
                    if r25 = true then
                      if (d3.2.2.1 == 1) = true then
                        some false
                      else
                        some false
                    else
                      some false
                  else
                    some false
                else
                  (f_gamehallkeep2_fine fuel [4, 10, 10]).bind fun r26 =>
                  if r26 = true then
                    (f_slices_Equal_int fuel r1.1 [1, 0]).bind fun r27 =>
                    if r27 = true then
                      if (d3.2.2.1 == 1) = true then
                        some false
                      else
                        some false
                    else
                      some false
                  else
                    some false
              else
                (f_deal_Combine fuel d3.2.1 d3.2.2.2.2.2.2.2.1).bind fun r28 =>
                if (r28.2 != 0) = true then
                  if (d3.2.2.1 != 3) = true then
                    (f_gamehallkeep2_fine fuel [4, 10, r28.2]).bind fun r29 =>
                    if r29 = true then
                      (f_slices_Equal_int fuel r1.1 [1, 0]).bind fun r30 =>
                      if r30 = true then
                        if (d3.2.2.1 == 1) = true then
                          some false
                        else
                          some false
                      else
                        some false
                    else
                      some false
                  else
                    (f_gamehallkeep2_fine fuel [4, 10, r28.2]).bind fun r31 =>
                    if r31 = true then
                      (f_slices_Equal_int fuel r1.1 [1, 0]).bind fun r32 =>
                      if r32 = true then
                        if (d3.2.2.1 == 1) = true then
                          some false
                        else
                          some false
                      else
                        some false
                    else
                      some false
                else
                  (f_cards_Fresh fuel d3.2.1).bind fun r33 =>
                  if (r33.2 != 0) = true then
                    if (d3.2.2.1 != 3) = true then
                      (f_gamehallkeep2_fine fuel [4, 10, r33.2]).bind fun r34 =>
                      if r34 = true then
                        (f_slices_Equal_int fuel r1.1 [1, 0]).bind fun r35 =>
                        if r35 = true then
                          if (d3.2.2.1 == 1) = true then
                            some false
                          else
                            some false
                        else
                          some false
                      else
                        some false
                    else
                      (f_gamehallkeep2_fine fuel [4, 10, r33.2]).bind fun r36 =>
                      if r36 = true then
                        (f_slices_Equal_int fuel r1.1 [1, 0]).bind fun r37 =>
                        if r37 = true then
                          if (d3.2.2.1 == 1) = true then
                            some false
                          else
                            some false
                        else
                          some false
                      else
                        some false
                  else
                    (f_cards_Shuffle fuel r33.1 r28.1).bind fun r38 =>
                    if (d3.2.2.1 != 3) = true then
                      (f_gamehallkeep2_fine fuel [4, 10, r38.2]).bind fun r39 =>
                      if r39 = true then
                        (f_slices_Equal_int fuel r1.1 [1, 0]).bind fun r40 =>
                        if r40 = true then
                          if (d3.2.2.1 == 1) = true then
                            some false
                          else
                            some false
                        else
                          some false
                      else
                        some false
                    else
                      (f_gamehallkeep2_fine fuel [4, 10, r38.2]).bind fun r41 =>
                      if r41 = true then
                        (f_slices_Equal_int fuel r1.1 [1, 0]).bind fun r42 =>
                        if r42 = true then
                          if (d3.2.2.1 == 1) = true then
                            some false
                          else
                            some false
                        else
                          some false
                      else
                        some false
            else
              if (0 : Int) < d3.2.2.2.2.2.1.length then
                if (d3.2.2.2.2.2.1.getD 0 false) = true then
                  if (d3.2.2.1 != 2) = true then
                    if (d3.2.2.1 != 3) = true then
                      (f_gamehallkeep2_fine fuel [4, 7, 10]).bind fun r43 =>
                      if r43 = true then
                        (f_slices_Equal_int fuel r1.1 [1, 0]).bind fun r44 =>
                        if r44 = true then
                          if (d3.2.2.1 == 1) = true then
                            some false
                          else
                            some false
                        else
                          some false
                      else
                        some false
                    else
                      (f_gamehallkeep2_fine fuel [4, 7, 10]).bind fun r45 =>
                      if r45 = true then
                        (f_slices_Equal_int fuel r1.1 [1, 0]).bind fun r46 =>
                        if r46 = true then
                          if (d3.2.2.1 == 1) = true then
                            some false
                          else
                            some false
                        else
                          some false
                      else
                        some false
                  else
                    (f_deal_Combine fuel d3.2.1 d3.2.2.2.2.2.2.2.1).bind fun r47 =>
                    if (r47.2 != 0) = true then
                      if (d3.2.2.1 != 3) = true then
                        (f_gamehallkeep2_fine fuel [4, 7, r47.2]).bind fun r48 =>
                        if r48 = true then
                          (f_slices_Equal_int fuel r1.1 [1, 0]).bind fun r49 =>
                          if r49 = true then
                            if (d3.2.2.1 == 1) = true then
                              some false
                            else
                              some false
                          else
                            some false
                        else
                          some false
                      else
                        (f_gamehallkeep2_fine fuel [4, 7, r47.2]).bind fun r50 =>
                        if r50 = true then
                          (f_slices_Equal_int fuel r1.1 [1, 0]).bind fun r51 =>
                          if r51 = true then
                            if (d3.2.2.1 == 1) = true then
                              some false
                            else
                              some false
                          else
                            some false
                        else
                          some false
                    else
                      (f_cards_Fresh fuel d3.2.1).bind fun r52 =>
                      if (r52.2 != 0) = true then
                        if (d3.2.2.1 != 3) = true then
                          (f_gamehallkeep2_fine fuel [4, 7, r52.2]).bind fun r53 =>
                          if r53 = true then
                            (f_slices_Equal_int fuel r1.1 [1, 0]).bind fun r54 =>
                            if r54 = true then
                              if (d3.2.2.1 == 1) = true then
                                some false
                              else
                                some false
                            else
                              some false
                          else
                            some false
                        else
                          (f_gamehallkeep2_fine fuel [4, 7, r52.2]).bind fun r55 =>
                          if r55 = true then
                            (f_slices_Equal_int fuel r1.1 [1, 0]).bind fun r56 =>
                            if r56 = true then
                              if (d3.2.2.1 == 1) = true then
                                some false
                              else
                                some false
                            else
                              some false
                          else
                            some false
                      else
                        (f_cards_Shuffle fuel r52.1 r47.1).bind fun r57 =>
                        if (d3.2.2.1 != 3) = true then
                          (f_gamehallkeep2_fine fuel [4, 7, r57.2]).bind fun r58 =>
                          if r58 = true then
                            (f_slices_Equal_int fuel r1.1 [1, 0]).bind fun r59 =>
                            if r59 = true then
                              if (d3.2.2.1 == 1) = true then
                                some false
                              else
                                some false
                            else
                              some false
                          else
                            some false
                        else
                          (f_gamehallkeep2_fine fuel [4, 7, r57.2]).bind fun r60 =>
                          if r60 = true then
                            (f_slices_Equal_int fuel r1.1 [1, 0]).bind fun r61 =>
                            if r61 = true then
                              if (d3.2.2.1 == 1) = true then
                                some false
                              else
                                some false
                            else
                              some false
                          else
                            some false
                else
                  (f_cards_Fits fuel d3.2.1 [0]).bind fun r62 =>
                  if (r62 != 0) = false then
                    if (0 : Int) < d3.2.2.2.2.2.2.1.length then
                      (f_deal_Seal fuel [0] 7).bind fun r63 =>
                      if (r63 != d3.2.2.2.2.2.2.1.getD 0 0) = true then
                        (f_gamehallkeep2_fine fuel [4, 0, 10]).bind fun r64 =>
                        if r64 = true then
                          (f_slices_Equal_int fuel r1.1 [1, 0]).bind fun r65 =>
                          if r65 = true then
                            if (d3.2.2.1 == 1) = true then
                              some false
                            else
                              some false
                          else
                            some false
                        else
                          some false
                      else
                        (f_slices_Clone_ints [0]).bind fun r66 =>
                        if (0 : Int) < d3.2.2.2.2.2.1.length then
                          if (0 : Int) < d3.2.2.2.2.2.2.2.1.length then
                            (f_slices_Contains_bool fuel (d3.2.2.2.2.2.1.set 0 true) false).bind fun r67 =>
                            if (!r67) = true then
                              (f_deal_Combine fuel d3.2.1 (d3.2.2.2.2.2.2.2.1.set 0 r66)).bind fun r68 =>
                              if (r68.2 != 0) = true then
                                (f_gamehallkeep2_fine fuel [4, 0, r68.2]).bind fun r69 =>
                                if r69 = true then
                                  (f_slices_Equal_int fuel r1.1 [1, 0]).bind fun r70 =>
                                  if r70 = true then
                                    if (d3.2.2.1 == 1) = true then
                                      (f_slices_Equal_int fuel [] [1, 0]).bind fun r71 =>
                                      if r71 = true then
                                        (f_deal_Seal fuel [] 0).bind fun r72 =>
                                        (f_deal_Seal fuel [] 1).bind fun r73 =>
                                        some (r72 != r73)
                                      else
                                        some false
                                    else
                                      some false
                                  else
                                    some false
                                else
                                  some false
                              else
                                (f_cards_Fresh fuel d3.2.1).bind fun r74 =>
                                if (r74.2 != 0) = true then
                                  (f_gamehallkeep2_fine fuel [4, 0, r74.2]).bind fun r75 =>
                                  if r75 = true then
                                    (f_slices_Equal_int fuel r1.1 [1, 0]).bind fun r76 =>
                                    if r76 = true then
                                      if (d3.2.2.1 == 1) = true then
                                        (f_slices_Equal_int fuel [] [1, 0]).bind fun r77 =>
                                        if r77 = true then
                                          (f_deal_Seal fuel [] 0).bind fun r78 =>
                                          (f_deal_Seal fuel [] 1).bind fun r79 =>
                                          some (r78 != r79)
                                        else
                                          some false
                                      else
                                        some false
                                    else
                                      some false
                                  else
                                    some false
                                else
                                  (f_cards_Shuffle fuel r74.1 r68.1).bind fun r80 =>
                                  (f_gamehallkeep2_fine fuel [4, 0, r80.2]).bind fun r81 =>
                                  if r81 = true then
                                    (f_slices_Equal_int fuel r1.1 [1, 0]).bind fun r82 =>
                                    if r82 = true then
                                      if (d3.2.2.1 == 1) = true then
                                        (f_slices_Equal_int fuel r80.1 [1, 0]).bind fun r83 =>
                                        if r83 = true then
                                          (f_deal_Seal fuel [] 0).bind fun r84 =>
                                          (f_deal_Seal fuel [] 1).bind fun r85 =>
                                          some (r84 != r85)
                                        else
                                          some false
                                      else
                                        some false
                                    else
                                      some false
                                  else
                                    some false
                            else
                              if (d3.2.2.1 != 2) = true then
                                if (d3.2.2.1 != 3) = true then
                                  (f_gamehallkeep2_fine fuel [4, 0, 10]).bind fun r86 =>
                                  if r86 = true then
                                    (f_slices_Equal_int fuel r1.1 [1, 0]).bind fun r87 =>
                                    if r87 = true then
                                      if (d3.2.2.1 == 1) = true then
                                        if (d3.2.2.1 == 2) = true then
                                          (f_slices_Equal_int fuel [] [1, 0]).bind fun r88 =>
                                          if r88 = true then
                                            (f_deal_Seal fuel [] 0).bind fun r89 =>
                                            (f_deal_Seal fuel [] 1).bind fun r90 =>
                                            some (r89 != r90)
                                          else
                                            some false
                                        else
                                          some false
                                      else
                                        some false
                                    else
                                      some false
                                  else
                                    some false
                                else
                                  (f_gamehallkeep2_fine fuel [4, 0, 10]).bind fun r91 =>
                                  if r91 = true then
                                    (f_slices_Equal_int fuel r1.1 [1, 0]).bind fun r92 =>
                                    if r92 = true then
                                      if (d3.2.2.1 == 1) = true then
                                        if (d3.2.2.1 == 2) = true then
                                          (f_slices_Equal_int fuel [] [1, 0]).bind fun r93 =>
                                          if r93 = true then
                                            some false
                                          else
                                            some false
                                        else
                                          some false
                                      else
                                        some false
                                    else
                                      some false
                                  else
                                    some false
                              else
                                (f_deal_Combine fuel d3.2.1 (d3.2.2.2.2.2.2.2.1.set 0 r66)).bind fun r94 =>
                                if (r94.2 != 0) = true then
                                  if (d3.2.2.1 != 3) = true then
                                    (f_gamehallkeep2_fine fuel [4, 0, r94.2]).bind fun r95 =>
                                    if r95 = true then
                                      (f_slices_Equal_int fuel r1.1 [1, 0]).bind fun r96 =>
                                      if r96 = true then
                                        if (d3.2.2.1 == 1) = true then
                                          if (d3.2.2.1 == 2) = true then
                                            (f_slices_Equal_int fuel [] [1, 0]).bind fun r97 =>
                                            if r97 = true then
                                              (f_deal_Seal fuel [] 0).bind fun r98 =>
                                              (f_deal_Seal fuel [] 1).bind fun r99 =>
                                              some (r98 != r99)
                                            else
                                              some false
                                          else
                                            some false
                                        else
                                          some false
                                      else
                                        some false
                                    else
                                      some false
                                  else
                                    (f_gamehallkeep2_fine fuel [4, 0, r94.2]).bind fun r100 =>
                                    if r100 = true then
                                      (f_slices_Equal_int fuel r1.1 [1, 0]).bind fun r101 =>
                                      if r101 = true then
                                        if (d3.2.2.1 == 1) = true then
                                          if (d3.2.2.1 == 2) = true then
                                            (f_slices_Equal_int fuel [] [1, 0]).bind fun r102 =>
                                            if r102 = true then
                                              some false
                                            else
                                              some false
                                          else
                                            some false
                                        else
                                          some false
                                      else
                                        some false
                                    else
                                      some false
                                else
                                  (f_cards_Fresh fuel d3.2.1).bind fun r103 =>
                                  if (r103.2 != 0) = true then
                                    if (d3.2.2.1 != 3) = true then
                                      (f_gamehallkeep2_fine fuel [4, 0, r103.2]).bind fun r104 =>
                                      if r104 = true then
                                        (f_slices_Equal_int fuel r1.1 [1, 0]).bind fun r105 =>
                                        if r105 = true then
                                          if (d3.2.2.1 == 1) = true then
                                            if (d3.2.2.1 == 2) = true then
                                              (f_slices_Equal_int fuel [] [1, 0]).bind fun r106 =>
                                              if r106 = true then
                                                (f_deal_Seal fuel [] 0).bind fun r107 =>
                                                (f_deal_Seal fuel [] 1).bind fun r108 =>
                                                some (r107 != r108)
                                              else
                                                some false
                                            else
                                              some false
                                          else
                                            some false
                                        else
                                          some false
                                      else
                                        some false
                                    else
                                      (f_gamehallkeep2_fine fuel [4, 0, r103.2]).bind fun r109 =>
                                      if r109 = true then
                                        (f_slices_Equal_int fuel r1.1 [1, 0]).bind fun r110 =>
                                        if r110 = true then
                                          if (d3.2.2.1 == 1) = true then
                                            if (d3.2.2.1 == 2) = true then
                                              (f_slices_Equal_int fuel [] [1, 0]).bind fun r111 =>
                                              if r111 = true then
                                                some false
                                              else
                                                some false
                                            else
                                              some false
                                          else
                                            some false
                                        else
                                          some false
                                      else
                                        some false
                                  else
                                    (f_cards_Shuffle fuel r103.1 r94.1).bind fun r112 =>
                                    if (d3.2.2.1 != 3) = true then
                                      (f_gamehallkeep2_fine fuel [4, 0, r112.2]).bind fun r113 =>
                                      if r113 = true then
                                        (f_slices_Equal_int fuel r1.1 [1, 0]).bind fun r114 =>
                                        if r114 = true then
                                          if (d3.2.2.1 == 1) = true then
                                            if (d3.2.2.1 == 2) = true then
                                              (f_slices_Equal_int fuel r112.1 [1, 0]).bind fun r115 =>
                                              if r115 = true then
                                                (f_deal_Seal fuel [] 0).bind fun r116 =>
                                                (f_deal_Seal fuel [] 1).bind fun r117 =>
                                                some (r116 != r117)
                                              else
                                                some false
                                            else
                                              some false
                                          else
                                            some false
                                        else
                                          some false
                                      else
                                        some false
                                    else
                                      (f_gamehallkeep2_fine fuel [4, 0, r112.2]).bind fun r118 =>
                                      if r118 = true then
                                        (f_slices_Equal_int fuel r1.1 [1, 0]).bind fun r119 =>
                                        if r119 = true then
                                          if (d3.2.2.1 == 1) = true then
                                            if (d3.2.2.1 == 2) = true then
                                              (f_slices_Equal_int fuel r112.1 [1, 0]).bind fun r120 =>
                                              if r120 = true then
                                                some false
                                              else
                                                some false
                                            else
                                              some false
                                          else
                                            some false
                                        else
                                          some false
                                      else
                                        some false
                          else none
                        else none
                    else none
                  else
                    (f_gamehallkeep2_fine fuel [4, 0, 10]).bind fun r121 =>
                    if r121 = true then
                      (f_slices_Equal_int fuel r1.1 [1, 0]).bind fun r122 =>
                      if r122 = true then
                        if (d3.2.2.1 == 1) = true then
                          some false
                        else
                          some false
                      else
                        some false
                    else
                      some false
              else none
        else
          if (d3.2.2.1 != 0) = true then
            if decide (0 ≥ (d3.2.2.2.2.2.2.1.length : Int)) = true then
              if (d3.2.2.1 != 2) = true then
                if (d3.2.2.1 != 3) = true then
                  (f_gamehallkeep2_fine fuel [10, 4, 10]).bind fun r123 =>
                  if r123 = true then
                    (f_slices_Equal_int fuel r1.1 [1, 0]).bind fun r124 =>
                    if r124 = true then
                      if (d3.2.2.1 == 1) = true then
                        some false
                      else
                        some false
                    else
                      some false
                  else
                    some false
                else
                  (f_gamehallkeep2_fine fuel [10, 4, 10]).bind fun r125 =>
                  if r125 = true then
                    (f_slices_Equal_int fuel r1.1 [1, 0]).bind fun r126 =>
                    if r126 = true then
                      if (d3.2.2.1 == 1) = true then
                        some false
                      else
                        some false
                    else
                      some false
                  else
                    some false
              else
                (f_deal_Combine fuel d3.2.1 d3.2.2.2.2.2.2.2.1).bind fun r127 =>
                if (r127.2 != 0) = true then
                  if (d3.2.2.1 != 3) = true then
                    (f_gamehallkeep2_fine fuel [10, 4, r127.2]).bind fun r128 =>
                    if r128 = true then
                      (f_slices_Equal_int fuel r1.1 [1, 0]).bind fun r129 =>
                      if r129 = true then
                        if (d3.2.2.1 == 1) = true then
                          some false
                        else
                          some false
                      else
                        some false
                    else
                      some false
                  else
                    (f_gamehallkeep2_fine fuel [10, 4, r127.2]).bind fun r130 =>
                    if r130 = true then
                      (f_slices_Equal_int fuel r1.1 [1, 0]).bind fun r131 =>
                      if r131 = true then
                        if (d3.2.2.1 == 1) = true then
                          some false
                        else
                          some false
                      else
                        some false
                    else
                      some false
                else
                  (f_cards_Fresh fuel d3.2.1).bind fun r132 =>
                  if (r132.2 != 0) = true then
                    if (d3.2.2.1 != 3) = true then
                      (f_gamehallkeep2_fine fuel [10, 4, r132.2]).bind fun r133 =>
                      if r133 = true then
                        (f_slices_Equal_int fuel r1.1 [1, 0]).bind fun r134 =>
                        if r134 = true then
                          if (d3.2.2.1 == 1) = true then
                            some false
                          else
                            some false
                        else
                          some false
                      else
                        some false
                    else
                      (f_gamehallkeep2_fine fuel [10, 4, r132.2]).bind fun r135 =>
                      if r135 = true then
                        (f_slices_Equal_int fuel r1.1 [1, 0]).bind fun r136 =>
                        if r136 = true then
                          if (d3.2.2.1 == 1) = true then
                            some false
                          else
                            some false
                        else
                          some false
                      else
                        some false
                  else
                    (f_cards_Shuffle fuel r132.1 r127.1).bind fun r137 =>
                    if (d3.2.2.1 != 3) = true then
                      (f_gamehallkeep2_fine fuel [10, 4, r137.2]).bind fun r138 =>
                      if r138 = true then
                        (f_slices_Equal_int fuel r1.1 [1, 0]).bind fun r139 =>
                        if r139 = true then
                          if (d3.2.2.1 == 1) = true then
                            some false
                          else
                            some false
                        else
                          some false
                      else
                        some false
                    else
                      (f_gamehallkeep2_fine fuel [10, 4, r137.2]).bind fun r140 =>
                      if r140 = true then
                        (f_slices_Equal_int fuel r1.1 [1, 0]).bind fun r141 =>
                        if r141 = true then
                          if (d3.2.2.1 == 1) = true then
                            some false
                          else
                            some false
                        else
                          some false
                      else
                        some false
            else
              if (d3.2.2.1 != 1) = true then
                if (d3.2.2.1 != 2) = true then
                  if (d3.2.2.1 != 3) = true then
                    (f_gamehallkeep2_fine fuel [10, 10, 10]).bind fun r142 =>
                    if r142 = true then
                      (f_slices_Equal_int fuel r1.1 [1, 0]).bind fun r143 =>
                      if r143 = true then
                        if (d3.2.2.1 == 1) = true then
                          some false
                        else
                          some false
                      else
                        some false
                    else
                      some false
                  else
                    (f_gamehallkeep2_fine fuel [10, 10, 10]).bind fun r144 =>
                    if r144 = true then
                      (f_slices_Equal_int fuel r1.1 [1, 0]).bind fun r145 =>
                      if r145 = true then
                        if (d3.2.2.1 == 1) = true then
                          some false
                        else
                          some false
                      else
                        some false
                    else
                      some false
                else
                  (f_deal_Combine fuel d3.2.1 d3.2.2.2.2.2.2.2.1).bind fun r146 =>
                  if (r146.2 != 0) = true then
                    if (d3.2.2.1 != 3) = true then
                      (f_gamehallkeep2_fine fuel [10, 10, r146.2]).bind fun r147 =>
                      if r147 = true then
                        (f_slices_Equal_int fuel r1.1 [1, 0]).bind fun r148 =>
                        if r148 = true then
                          if (d3.2.2.1 == 1) = true then
                            some false
                          else
                            some false
                        else
                          some false
                      else
                        some false
                    else
                      (f_gamehallkeep2_fine fuel [10, 10, r146.2]).bind fun r149 =>
                      if r149 = true then
                        (f_slices_Equal_int fuel r1.1 [1, 0]).bind fun r150 =>
                        if r150 = true then
                          if (d3.2.2.1 == 1) = true then
                            some false
                          else
                            some false
                        else
                          some false
                      else
                        some false
                  else
                    (f_cards_Fresh fuel d3.2.1).bind fun r151 =>
                    if (r151.2 != 0) = true then
                      if (d3.2.2.1 != 3) = true then
                        (f_gamehallkeep2_fine fuel [10, 10, r151.2]).bind fun r152 =>
                        if r152 = true then
                          (f_slices_Equal_int fuel r1.1 [1, 0]).bind fun r153 =>
                          if r153 = true then
                            if (d3.2.2.1 == 1) = true then
                              some false
                            else
                              some false
                          else
                            some false
                        else
                          some false
                      else
                        (f_gamehallkeep2_fine fuel [10, 10, r151.2]).bind fun r154 =>
                        if r154 = true then
                          (f_slices_Equal_int fuel r1.1 [1, 0]).bind fun r155 =>
                          if r155 = true then
                            if (d3.2.2.1 == 1) = true then
                              some false
                            else
                              some false
                          else
                            some false
                        else
                          some false
                    else
                      (f_cards_Shuffle fuel r151.1 r146.1).bind fun r156 =>
                      if (d3.2.2.1 != 3) = true then
                        (f_gamehallkeep2_fine fuel [10, 10, r156.2]).bind fun r157 =>
                        if r157 = true then
                          (f_slices_Equal_int fuel r1.1 [1, 0]).bind fun r158 =>
                          if r158 = true then
                            if (d3.2.2.1 == 1) = true then
                              some false
                            else
                              some false
                          else
                            some false
                        else
                          some false
                      else
                        (f_gamehallkeep2_fine fuel [10, 10, r156.2]).bind fun r159 =>
                        if r159 = true then
                          (f_slices_Equal_int fuel r1.1 [1, 0]).bind fun r160 =>
                          if r160 = true then
                            if (d3.2.2.1 == 1) = true then
                              some false
                            else
                              some false
                          else
                            some false
                        else
                          some false
              else
                if (0 : Int) < d3.2.2.2.2.2.1.length then
                  if (d3.2.2.2.2.2.1.getD 0 false) = true then
                    if (d3.2.2.1 != 2) = true then
                      if (d3.2.2.1 != 3) = true then
                        (f_gamehallkeep2_fine fuel [10, 7, 10]).bind fun r161 =>
                        if r161 = true then
                          (f_slices_Equal_int fuel r1.1 [1, 0]).bind fun r162 =>
                          if r162 = true then
                            if (d3.2.2.1 == 1) = true then
                              some false
                            else
                              some false
                          else
                            some false
                        else
                          some false
                      else
                        (f_gamehallkeep2_fine fuel [10, 7, 10]).bind fun r163 =>
                        if r163 = true then
                          (f_slices_Equal_int fuel r1.1 [1, 0]).bind fun r164 =>
                          if r164 = true then
                            if (d3.2.2.1 == 1) = true then
                              some false
                            else
                              some false
                          else
                            some false
                        else
                          some false
                    else
                      (f_deal_Combine fuel d3.2.1 d3.2.2.2.2.2.2.2.1).bind fun r165 =>
                      if (r165.2 != 0) = true then
                        if (d3.2.2.1 != 3) = true then
                          (f_gamehallkeep2_fine fuel [10, 7, r165.2]).bind fun r166 =>
                          if r166 = true then
                            (f_slices_Equal_int fuel r1.1 [1, 0]).bind fun r167 =>
                            if r167 = true then
                              if (d3.2.2.1 == 1) = true then
                                some false
                              else
                                some false
                            else
                              some false
                          else
                            some false
                        else
                          (f_gamehallkeep2_fine fuel [10, 7, r165.2]).bind fun r168 =>
                          if r168 = true then
                            (f_slices_Equal_int fuel r1.1 [1, 0]).bind fun r169 =>
                            if r169 = true then
                              if (d3.2.2.1 == 1) = true then
                                some false
                              else
                                some false
                            else
                              some false
                          else
                            some false
                      else
                        (f_cards_Fresh fuel d3.2.1).bind fun r170 =>
                        if (r170.2 != 0) = true then
                          if (d3.2.2.1 != 3) = true then
                            (f_gamehallkeep2_fine fuel [10, 7, r170.2]).bind fun r171 =>
                            if r171 = true then
                              (f_slices_Equal_int fuel r1.1 [1, 0]).bind fun r172 =>
                              if r172 = true then
                                if (d3.2.2.1 == 1) = true then
                                  some false
                                else
                                  some false
                              else
                                some false
                            else
                              some false
                          else
                            (f_gamehallkeep2_fine fuel [10, 7, r170.2]).bind fun r173 =>
                            if r173 = true then
                              (f_slices_Equal_int fuel r1.1 [1, 0]).bind fun r174 =>
                              if r174 = true then
                                if (d3.2.2.1 == 1) = true then
                                  some false
                                else
                                  some false
                              else
                                some false
                            else
                              some false
                        else
                          (f_cards_Shuffle fuel r170.1 r165.1).bind fun r175 =>
                          if (d3.2.2.1 != 3) = true then
                            (f_gamehallkeep2_fine fuel [10, 7, r175.2]).bind fun r176 =>
                            if r176 = true then
                              (f_slices_Equal_int fuel r1.1 [1, 0]).bind fun r177 =>
                              if r177 = true then
                                if (d3.2.2.1 == 1) = true then
                                  some false
                                else
                                  some false
                              else
                                some false
                            else
                              some false
                          else
                            (f_gamehallkeep2_fine fuel [10, 7, r175.2]).bind fun r178 =>
                            if r178 = true then
                              (f_slices_Equal_int fuel r1.1 [1, 0]).bind fun r179 =>
                              if r179 = true then
                                if (d3.2.2.1 == 1) = true then
                                  some false
                                else
                                  some false
                              else
                                some false
                            else
                              some false
                  else
                    (f_cards_Fits fuel d3.2.1 [0]).bind fun r180 =>
                    if (r180 != 0) = false then
                      if (0 : Int) < d3.2.2.2.2.2.2.1.length then
                        (f_deal_Seal fuel [0] 7).bind fun r181 =>
                        if (r181 != d3.2.2.2.2.2.2.1.getD 0 0) = true then
                          (f_gamehallkeep2_fine fuel [10, 0, 10]).bind fun r182 =>
                          if r182 = true then
                            (f_slices_Equal_int fuel r1.1 [1, 0]).bind fun r183 =>
                            if r183 = true then
                              if (d3.2.2.1 == 1) = true then
                                some false
                              else
                                some false
                            else
                              some false
                          else
                            some false
                        else
                          (f_slices_Clone_ints [0]).bind fun r184 =>
                          if (0 : Int) < d3.2.2.2.2.2.1.length then
                            if (0 : Int) < d3.2.2.2.2.2.2.2.1.length then
                              (f_slices_Contains_bool fuel (d3.2.2.2.2.2.1.set 0 true) false).bind fun r185 =>
                              if (!r185) = true then
                                (f_deal_Combine fuel d3.2.1 (d3.2.2.2.2.2.2.2.1.set 0 r184)).bind fun r186 =>
                                if (r186.2 != 0) = true then
                                  (f_gamehallkeep2_fine fuel [10, 0, r186.2]).bind fun r187 =>
                                  if r187 = true then
                                    (f_slices_Equal_int fuel r1.1 [1, 0]).bind fun r188 =>
                                    if r188 = true then
                                      if (d3.2.2.1 == 1) = true then
                                        (f_slices_Equal_int fuel [] [1, 0]).bind fun r189 =>
                                        if r189 = true then
                                          (f_deal_Seal fuel [] 0).bind fun r190 =>
                                          (f_deal_Seal fuel [] 1).bind fun r191 =>
                                          some (r190 != r191)
                                        else
                                          some false
                                      else
                                        some false
                                    else
                                      some false
                                  else
                                    some false
                                else
                                  (f_cards_Fresh fuel d3.2.1).bind fun r192 =>
                                  if (r192.2 != 0) = true then
                                    (f_gamehallkeep2_fine fuel [10, 0, r192.2]).bind fun r193 =>
                                    if r193 = true then
                                      (f_slices_Equal_int fuel r1.1 [1, 0]).bind fun r194 =>
                                      if r194 = true then
                                        if (d3.2.2.1 == 1) = true then
                                          (f_slices_Equal_int fuel [] [1, 0]).bind fun r195 =>
                                          if r195 = true then
                                            (f_deal_Seal fuel [] 0).bind fun r196 =>
                                            (f_deal_Seal fuel [] 1).bind fun r197 =>
                                            some (r196 != r197)
                                          else
                                            some false
                                        else
                                          some false
                                      else
                                        some false
                                    else
                                      some false
                                  else
                                    (f_cards_Shuffle fuel r192.1 r186.1).bind fun r198 =>
                                    (f_gamehallkeep2_fine fuel [10, 0, r198.2]).bind fun r199 =>
                                    if r199 = true then
                                      (f_slices_Equal_int fuel r1.1 [1, 0]).bind fun r200 =>
                                      if r200 = true then
                                        if (d3.2.2.1 == 1) = true then
                                          (f_slices_Equal_int fuel r198.1 [1, 0]).bind fun r201 =>
                                          if r201 = true then
                                            (f_deal_Seal fuel [] 0).bind fun r202 =>
                                            (f_deal_Seal fuel [] 1).bind fun r203 =>
                                            some (r202 != r203)
                                          else
                                            some false
                                        else
                                          some false
                                      else
                                        some false
                                    else
                                      some false
                              else
                                if (d3.2.2.1 != 2) = true then
                                  if (d3.2.2.1 != 3) = true then
                                    (f_gamehallkeep2_fine fuel [10, 0, 10]).bind fun r204 =>
                                    if r204 = true then
                                      (f_slices_Equal_int fuel r1.1 [1, 0]).bind fun r205 =>
                                      if r205 = true then
                                        if (d3.2.2.1 == 1) = true then
                                          if (d3.2.2.1 == 2) = true then
                                            (f_slices_Equal_int fuel [] [1, 0]).bind fun r206 =>
                                            if r206 = true then
                                              (f_deal_Seal fuel [] 0).bind fun r207 =>
                                              (f_deal_Seal fuel [] 1).bind fun r208 =>
                                              some (r207 != r208)
                                            else
                                              some false
                                          else
                                            some false
                                        else
                                          some false
                                      else
                                        some false
                                    else
                                      some false
                                  else
                                    (f_gamehallkeep2_fine fuel [10, 0, 10]).bind fun r209 =>
                                    if r209 = true then
                                      (f_slices_Equal_int fuel r1.1 [1, 0]).bind fun r210 =>
                                      if r210 = true then
                                        if (d3.2.2.1 == 1) = true then
                                          if (d3.2.2.1 == 2) = true then
                                            (f_slices_Equal_int fuel [] [1, 0]).bind fun r211 =>
                                            if r211 = true then
                                              some false
                                            else
                                              some false
                                          else
                                            some false
                                        else
                                          some false
                                      else
                                        some false
                                    else
                                      some false
                                else
                                  (f_deal_Combine fuel d3.2.1 (d3.2.2.2.2.2.2.2.1.set 0 r184)).bind fun r212 =>
                                  if (r212.2 != 0) = true then
                                    if (d3.2.2.1 != 3) = true then
                                      (f_gamehallkeep2_fine fuel [10, 0, r212.2]).bind fun r213 =>
                                      if r213 = true then
                                        (f_slices_Equal_int fuel r1.1 [1, 0]).bind fun r214 =>
                                        if r214 = true then
                                          if (d3.2.2.1 == 1) = true then
                                            if (d3.2.2.1 == 2) = true then
                                              (f_slices_Equal_int fuel [] [1, 0]).bind fun r215 =>
                                              if r215 = true then
                                                (f_deal_Seal fuel [] 0).bind fun r216 =>
                                                (f_deal_Seal fuel [] 1).bind fun r217 =>
                                                some (r216 != r217)
                                              else
                                                some false
                                            else
                                              some false
                                          else
                                            some false
                                        else
                                          some false
                                      else
                                        some false
                                    else
                                      (f_gamehallkeep2_fine fuel [10, 0, r212.2]).bind fun r218 =>
                                      if r218 = true then
                                        (f_slices_Equal_int fuel r1.1 [1, 0]).bind fun r219 =>
                                        if r219 = true then
                                          if (d3.2.2.1 == 1) = true then
                                            if (d3.2.2.1 == 2) = true then
                                              (f_slices_Equal_int fuel [] [1, 0]).bind fun r220 =>
                                              if r220 = true then
                                                some false
                                              else
                                                some false
                                            else
                                              some false
                                          else
                                            some false
                                        else
                                          some false
                                      else
                                        some false
                                  else
                                    (f_cards_Fresh fuel d3.2.1).bind fun r221 =>
                                    if (r221.2 != 0) = true then
                                      if (d3.2.2.1 != 3) = true then
                                        (f_gamehallkeep2_fine fuel [10, 0, r221.2]).bind fun r222 =>
                                        if r222 = true then
                                          (f_slices_Equal_int fuel r1.1 [1, 0]).bind fun r223 =>
                                          if r223 = true then
                                            if (d3.2.2.1 == 1) = true then
                                              if (d3.2.2.1 == 2) = true then
                                                (f_slices_Equal_int fuel [] [1, 0]).bind fun r224 =>
                                                if r224 = true then
                                                  (f_deal_Seal fuel [] 0).bind fun r225 =>
                                                  (f_deal_Seal fuel [] 1).bind fun r226 =>
                                                  some (r225 != r226)
                                                else
                                                  some false
                                              else
                                                some false
                                            else
                                              some false
                                          else
                                            some false
                                        else
                                          some false
                                      else
                                        (f_gamehallkeep2_fine fuel [10, 0, r221.2]).bind fun r227 =>
                                        if r227 = true then
                                          (f_slices_Equal_int fuel r1.1 [1, 0]).bind fun r228 =>
                                          if r228 = true then
                                            if (d3.2.2.1 == 1) = true then
                                              if (d3.2.2.1 == 2) = true then
                                                (f_slices_Equal_int fuel [] [1, 0]).bind fun r229 =>
                                                if r229 = true then
                                                  some false
                                                else
                                                  some false
                                              else
                                                some false
                                            else
                                              some false
                                          else
                                            some false
                                        else
                                          some false
                                    else
                                      (f_cards_Shuffle fuel r221.1 r212.1).bind fun r230 =>
                                      if (d3.2.2.1 != 3) = true then
                                        (f_gamehallkeep2_fine fuel [10, 0, r230.2]).bind fun r231 =>
                                        if r231 = true then
                                          (f_slices_Equal_int fuel r1.1 [1, 0]).bind fun r232 =>
                                          if r232 = true then
                                            if (d3.2.2.1 == 1) = true then
                                              if (d3.2.2.1 == 2) = true then
                                                (f_slices_Equal_int fuel r230.1 [1, 0]).bind fun r233 =>
                                                if r233 = true then
                                                  (f_deal_Seal fuel [] 0).bind fun r234 =>
                                                  (f_deal_Seal fuel [] 1).bind fun r235 =>
                                                  some (r234 != r235)
                                                else
                                                  some false
                                              else
                                                some false
                                            else
                                              some false
                                          else
                                            some false
                                        else
                                          some false
                                      else
                                        (f_gamehallkeep2_fine fuel [10, 0, r230.2]).bind fun r236 =>
                                        if r236 = true then
                                          (f_slices_Equal_int fuel r1.1 [1, 0]).bind fun r237 =>
                                          if r237 = true then
                                            if (d3.2.2.1 == 1) = true then
                                              if (d3.2.2.1 == 2) = true then
                                                (f_slices_Equal_int fuel r230.1 [1, 0]).bind fun r238 =>
                                                if r238 = true then
                                                  some false
                                                else
                                                  some false
                                              else
                                                some false
                                            else
                                              some false
                                          else
                                            some false
                                        else
                                          some false
                            else none
                          else none
                      else none
                    else
                      (f_gamehallkeep2_fine fuel [10, 0, 10]).bind fun r239 =>
                      if r239 = true then
                        (f_slices_Equal_int fuel r1.1 [1, 0]).bind fun r240 =>
                        if r240 = true then
                          if (d3.2.2.1 == 1) = true then
                            some false
                          else
                            some false
                        else
                          some false
                      else
                        some false
                else none
          else
            if (0 : Int) < d3.2.2.2.2.1.length then
              if (d3.2.2.2.2.1.getD 0 false) = true then
                if decide (0 ≥ (d3.2.2.2.2.2.2.1.length : Int)) = true then
                  if (d3.2.2.1 != 2) = true then
                    if (d3.2.2.1 != 3) = true then
                      (f_gamehallkeep2_fine fuel [7, 4, 10]).bind fun r241 =>
                      if r241 = true then
                        (f_slices_Equal_int fuel r1.1 [1, 0]).bind fun r242 =>
                        if r242 = true then
                          if (d3.2.2.1 == 1) = true then
                            some false
                          else
                            some false
                        else
                          some false
                      else
                        some false
                    else
                      (f_gamehallkeep2_fine fuel [7, 4, 10]).bind fun r243 =>
                      if r243 = true then
                        (f_slices_Equal_int fuel r1.1 [1, 0]).bind fun r244 =>
                        if r244 = true then
                          if (d3.2.2.1 == 1) = true then
                            some false
                          else
                            some false
                        else
                          some false
                      else
                        some false
                  else
                    (f_deal_Combine fuel d3.2.1 d3.2.2.2.2.2.2.2.1).bind fun r245 =>
                    if (r245.2 != 0) = true then
                      if (d3.2.2.1 != 3) = true then
                        (f_gamehallkeep2_fine fuel [7, 4, r245.2]).bind fun r246 =>
                        if r246 = true then
                          (f_slices_Equal_int fuel r1.1 [1, 0]).bind fun r247 =>
                          if r247 = true then
                            if (d3.2.2.1 == 1) = true then
                              some false
                            else
                              some false
                          else
                            some false
                        else
                          some false
                      else
                        (f_gamehallkeep2_fine fuel [7, 4, r245.2]).bind fun r248 =>
                        if r248 = true then
                          (f_slices_Equal_int fuel r1.1 [1, 0]).bind fun r249 =>
                          if r249 = true then
                            if (d3.2.2.1 == 1) = true then
                              some false
                            else
                              some false
                          else
                            some false
                        else
                          some false
                    else
                      (f_cards_Fresh fuel d3.2.1).bind fun r250 =>
                      if (r250.2 != 0) = true then
                        if (d3.2.2.1 != 3) = true then
                          (f_gamehallkeep2_fine fuel [7, 4, r250.2]).bind fun r251 =>
                          if r251 = true then
                            (f_slices_Equal_int fuel r1.1 [1, 0]).bind fun r252 =>
                            if r252 = true then
                              if (d3.2.2.1 == 1) = true then
                                some false
                              else
                                some false
                            else
                              some false
                          else
                            some false
                        else
                          (f_gamehallkeep2_fine fuel [7, 4, r250.2]).bind fun r253 =>
                          if r253 = true then
                            (f_slices_Equal_int fuel r1.1 [1, 0]).bind fun r254 =>
                            if r254 = true then
                              if (d3.2.2.1 == 1) = true then
                                some false
                              else
                                some false
                            else
                              some false
                          else
                            some false
                      else
                        (f_cards_Shuffle fuel r250.1 r245.1).bind fun r255 =>
                        if (d3.2.2.1 != 3) = true then
                          (f_gamehallkeep2_fine fuel [7, 4, r255.2]).bind fun r256 =>
                          if r256 = true then
                            (f_slices_Equal_int fuel r1.1 [1, 0]).bind fun r257 =>
                            if r257 = true then
                              if (d3.2.2.1 == 1) = true then
                                some false
                              else
                                some false
                            else
                              some false
                          else
                            some false
                        else
                          (f_gamehallkeep2_fine fuel [7, 4, r255.2]).bind fun r258 =>
                          if r258 = true then
                            (f_slices_Equal_int fuel r1.1 [1, 0]).bind fun r259 =>
                            if r259 = true then
                              if (d3.2.2.1 == 1) = true then
                                some false
                              else
                                some false
                            else
                              some false
                          else
                            some false
                else
                  if (d3.2.2.1 != 1) = true then
                    if (d3.2.2.1 != 2) = true then
                      if (d3.2.2.1 != 3) = true then
                        (f_gamehallkeep2_fine fuel [7, 10, 10]).bind fun r260 =>
                        if r260 = true then
                          (f_slices_Equal_int fuel r1.1 [1, 0]).bind fun r261 =>
                          if r261 = true then
                            if (d3.2.2.1 == 1) = true then
                              some false
                            else
                              some false
                          else
                            some false
                        else
                          some false
                      else
                        (f_gamehallkeep2_fine fuel [7, 10, 10]).bind fun r262 =>
                        if r262 = true then
                          (f_slices_Equal_int fuel r1.1 [1, 0]).bind fun r263 =>
                          if r263 = true then
                            if (d3.2.2.1 == 1) = true then
                              some false
                            else
                              some false
                          else
                            some false
                        else
                          some false
                    else
                      (f_deal_Combine fuel d3.2.1 d3.2.2.2.2.2.2.2.1).bind fun r264 =>
                      if (r264.2 != 0) = true then
                        if (d3.2.2.1 != 3) = true then
                          (f_gamehallkeep2_fine fuel [7, 10, r264.2]).bind fun r265 =>
                          if r265 = true then
                            (f_slices_Equal_int fuel r1.1 [1, 0]).bind fun r266 =>
                            if r266 = true then
                              if (d3.2.2.1 == 1) = true then
                                some false
                              else
                                some false
                            else
                              some false
                          else
                            some false
                        else
                          (f_gamehallkeep2_fine fuel [7, 10, r264.2]).bind fun r267 =>
                          if r267 = true then
                            (f_slices_Equal_int fuel r1.1 [1, 0]).bind fun r268 =>
                            if r268 = true then
                              if (d3.2.2.1 == 1) = true then
                                some false
                              else
                                some false
                            else
                              some false
                          else
                            some false
                      else
                        (f_cards_Fresh fuel d3.2.1).bind fun r269 =>
                        if (r269.2 != 0) = true then
                          if (d3.2.2.1 != 3) = true then
                            (f_gamehallkeep2_fine fuel [7, 10, r269.2]).bind fun r270 =>
                            if r270 = true then
                              (f_slices_Equal_int fuel r1.1 [1, 0]).bind fun r271 =>
                              if r271 = true then
                                if (d3.2.2.1 == 1) = true then
                                  some false
                                else
                                  some false
                              else
                                some false
                            else
                              some false
                          else
                            (f_gamehallkeep2_fine fuel [7, 10, r269.2]).bind fun r272 =>
                            if r272 = true then
                              (f_slices_Equal_int fuel r1.1 [1, 0]).bind fun r273 =>
                              if r273 = true then
                                if (d3.2.2.1 == 1) = true then
                                  some false
                                else
                                  some false
                              else
                                some false
                            else
                              some false
                        else
                          (f_cards_Shuffle fuel r269.1 r264.1).bind fun r274 =>
                          if (d3.2.2.1 != 3) = true then
                            (f_gamehallkeep2_fine fuel [7, 10, r274.2]).bind fun r275 =>
                            if r275 = true then
                              (f_slices_Equal_int fuel r1.1 [1, 0]).bind fun r276 =>
                              if r276 = true then
                                if (d3.2.2.1 == 1) = true then
                                  some false
                                else
                                  some false
                              else
                                some false
                            else
                              some false
                          else
                            (f_gamehallkeep2_fine fuel [7, 10, r274.2]).bind fun r277 =>
                            if r277 = true then
                              (f_slices_Equal_int fuel r1.1 [1, 0]).bind fun r278 =>
                              if r278 = true then
                                if (d3.2.2.1 == 1) = true then
                                  some false
                                else
                                  some false
                              else
                                some false
                            else
                              some false
                  else
                    if (0 : Int) < d3.2.2.2.2.2.1.length then
                      if (d3.2.2.2.2.2.1.getD 0 false) = true then
                        if (d3.2.2.1 != 2) = true then
                          if (d3.2.2.1 != 3) = true then
                            (f_gamehallkeep2_fine fuel [7, 7, 10]).bind fun r279 =>
                            if r279 = true then
                              (f_slices_Equal_int fuel r1.1 [1, 0]).bind fun r280 =>
                              if r280 = true then
                                if (d3.2.2.1 == 1) = true then
                                  some false
                                else
                                  some false
                              else
                                some false
                            else
                              some false
                          else
                            (f_gamehallkeep2_fine fuel [7, 7, 10]).bind fun r281 =>
                            if r281 = true then
                              (f_slices_Equal_int fuel r1.1 [1, 0]).bind fun r282 =>
                              if r282 = true then
                                if (d3.2.2.1 == 1) = true then
                                  some false
                                else
                                  some false
                              else
                                some false
                            else
                              some false
                        else
                          (f_deal_Combine fuel d3.2.1 d3.2.2.2.2.2.2.2.1).bind fun r283 =>
                          if (r283.2 != 0) = true then
                            if (d3.2.2.1 != 3) = true then
                              (f_gamehallkeep2_fine fuel [7, 7, r283.2]).bind fun r284 =>
                              if r284 = true then
                                (f_slices_Equal_int fuel r1.1 [1, 0]).bind fun r285 =>
                                if r285 = true then
                                  if (d3.2.2.1 == 1) = true then
                                    some false
                                  else
                                    some false
                                else
                                  some false
                              else
                                some false
                            else
                              (f_gamehallkeep2_fine fuel [7, 7, r283.2]).bind fun r286 =>
                              if r286 = true then
                                (f_slices_Equal_int fuel r1.1 [1, 0]).bind fun r287 =>
                                if r287 = true then
                                  if (d3.2.2.1 == 1) = true then
                                    some false
                                  else
                                    some false
                                else
                                  some false
                              else
                                some false
                          else
                            (f_cards_Fresh fuel d3.2.1).bind fun r288 =>
                            if (r288.2 != 0) = true then
                              if (d3.2.2.1 != 3) = true then
                                (f_gamehallkeep2_fine fuel [7, 7, r288.2]).bind fun r289 =>
                                if r289 = true then
                                  (f_slices_Equal_int fuel r1.1 [1, 0]).bind fun r290 =>
                                  if r290 = true then
                                    if (d3.2.2.1 == 1) = true then
                                      some false
                                    else
                                      some false
                                  else
                                    some false
                                else
                                  some false
                              else
                                (f_gamehallkeep2_fine fuel [7, 7, r288.2]).bind fun r291 =>
                                if r291 = true then
                                  (f_slices_Equal_int fuel r1.1 [1, 0]).bind fun r292 =>
                                  if r292 = true then
                                    if (d3.2.2.1 == 1) = true then
                                      some false
                                    else
                                      some false
                                  else
                                    some false
                                else
                                  some false
                            else
                              (f_cards_Shuffle fuel r288.1 r283.1).bind fun r293 =>
                              if (d3.2.2.1 != 3) = true then
                                (f_gamehallkeep2_fine fuel [7, 7, r293.2]).bind fun r294 =>
                                if r294 = true then
                                  (f_slices_Equal_int fuel r1.1 [1, 0]).bind fun r295 =>
                                  if r295 = true then
                                    if (d3.2.2.1 == 1) = true then
                                      some false
                                    else
                                      some false
                                  else
                                    some false
                                else
                                  some false
                              else
                                (f_gamehallkeep2_fine fuel [7, 7, r293.2]).bind fun r296 =>
                                if r296 = true then
                                  (f_slices_Equal_int fuel r1.1 [1, 0]).bind fun r297 =>
                                  if r297 = true then
                                    if (d3.2.2.1 == 1) = true then
                                      some false
                                    else
                                      some false
                                  else
                                    some false
                                else
                                  some false
                      else
                        (f_cards_Fits fuel d3.2.1 [0]).bind fun r298 =>
                        if (r298 != 0) = false then
                          if (0 : Int) < d3.2.2.2.2.2.2.1.length then
                            (f_deal_Seal fuel [0] 7).bind fun r299 =>
                            if (r299 != d3.2.2.2.2.2.2.1.getD 0 0) = true then
                              (f_gamehallkeep2_fine fuel [7, 0, 10]).bind fun r300 =>
                              if r300 = true then
                                (f_slices_Equal_int fuel r1.1 [1, 0]).bind fun r301 =>
                                if r301 = true then
                                  if (d3.2.2.1 == 1) = true then
                                    some false
                                  else
                                    some false
                                else
                                  some false
                              else
                                some false
                            else
                              (f_slices_Clone_ints [0]).bind fun r302 =>
                              if (0 : Int) < d3.2.2.2.2.2.1.length then
                                if (0 : Int) < d3.2.2.2.2.2.2.2.1.length then
                                  (f_slices_Contains_bool fuel (d3.2.2.2.2.2.1.set 0 true) false).bind fun r303 =>
                                  if (!r303) = true then
                                    (f_deal_Combine fuel d3.2.1 (d3.2.2.2.2.2.2.2.1.set 0 r302)).bind fun r304 =>
                                    if (r304.2 != 0) = true then
                                      (f_gamehallkeep2_fine fuel [7, 0, r304.2]).bind fun r305 =>
                                      if r305 = true then
                                        (f_slices_Equal_int fuel r1.1 [1, 0]).bind fun r306 =>
                                        if r306 = true then
                                          if (d3.2.2.1 == 1) = true then
                                            (f_slices_Equal_int fuel [] [1, 0]).bind fun r307 =>
                                            if r307 = true then
                                              (f_deal_Seal fuel [] 0).bind fun r308 =>
                                              (f_deal_Seal fuel [] 1).bind fun r309 =>
                                              some (r308 != r309)
                                            else
                                              some false
                                          else
                                            some false
                                        else
                                          some false
                                      else
                                        some false
                                    else
                                      (f_cards_Fresh fuel d3.2.1).bind fun r310 =>
                                      if (r310.2 != 0) = true then
                                        (f_gamehallkeep2_fine fuel [7, 0, r310.2]).bind fun r311 =>
                                        if r311 = true then
                                          (f_slices_Equal_int fuel r1.1 [1, 0]).bind fun r312 =>
                                          if r312 = true then
                                            if (d3.2.2.1 == 1) = true then
                                              (f_slices_Equal_int fuel [] [1, 0]).bind fun r313 =>
                                              if r313 = true then
                                                (f_deal_Seal fuel [] 0).bind fun r314 =>
                                                (f_deal_Seal fuel [] 1).bind fun r315 =>
                                                some (r314 != r315)
                                              else
                                                some false
                                            else
                                              some false
                                          else
                                            some false
                                        else
                                          some false
                                      else
                                        (f_cards_Shuffle fuel r310.1 r304.1).bind fun r316 =>
                                        (f_gamehallkeep2_fine fuel [7, 0, r316.2]).bind fun r317 =>
                                        if r317 = true then
                                          (f_slices_Equal_int fuel r1.1 [1, 0]).bind fun r318 =>
                                          if r318 = true then
                                            if (d3.2.2.1 == 1) = true then
                                              (f_slices_Equal_int fuel r316.1 [1, 0]).bind fun r319 =>
                                              if r319 = true then
                                                (f_deal_Seal fuel [] 0).bind fun r320 =>
                                                (f_deal_Seal fuel [] 1).bind fun r321 =>
                                                some (r320 != r321)
                                              else
                                                some false
                                            else
                                              some false
                                          else
                                            some false
                                        else
                                          some false
                                  else
                                    if (d3.2.2.1 != 2) = true then
                                      if (d3.2.2.1 != 3) = true then
                                        (f_gamehallkeep2_fine fuel [7, 0, 10]).bind fun r322 =>
                                        if r322 = true then
                                          (f_slices_Equal_int fuel r1.1 [1, 0]).bind fun r323 =>
                                          if r323 = true then
                                            if (d3.2.2.1 == 1) = true then
                                              if (d3.2.2.1 == 2) = true then
                                                (f_slices_Equal_int fuel [] [1, 0]).bind fun r324 =>
                                                if r324 = true then
                                                  (f_deal_Seal fuel [] 0).bind fun r325 =>
                                                  (f_deal_Seal fuel [] 1).bind fun r326 =>
                                                  some (r325 != r326)
                                                else
                                                  some false
                                              else
                                                some false
                                            else
                                              some false
                                          else
                                            some false
                                        else
                                          some false
                                      else
                                        (f_gamehallkeep2_fine fuel [7, 0, 10]).bind fun r327 =>
                                        if r327 = true then
                                          (f_slices_Equal_int fuel r1.1 [1, 0]).bind fun r328 =>
                                          if r328 = true then
                                            if (d3.2.2.1 == 1) = true then
                                              if (d3.2.2.1 == 2) = true then
                                                (f_slices_Equal_int fuel [] [1, 0]).bind fun r329 =>
                                                if r329 = true then
                                                  some false
                                                else
                                                  some false
                                              else
                                                some false
                                            else
                                              some false
                                          else
                                            some false
                                        else
                                          some false
                                    else
                                      (f_deal_Combine fuel d3.2.1 (d3.2.2.2.2.2.2.2.1.set 0 r302)).bind fun r330 =>
                                      if (r330.2 != 0) = true then
                                        if (d3.2.2.1 != 3) = true then
                                          (f_gamehallkeep2_fine fuel [7, 0, r330.2]).bind fun r331 =>
                                          if r331 = true then
                                            (f_slices_Equal_int fuel r1.1 [1, 0]).bind fun r332 =>
                                            if r332 = true then
                                              if (d3.2.2.1 == 1) = true then
                                                if (d3.2.2.1 == 2) = true then
                                                  (f_slices_Equal_int fuel [] [1, 0]).bind fun r333 =>
                                                  if r333 = true then
                                                    (f_deal_Seal fuel [] 0).bind fun r334 =>
                                                    (f_deal_Seal fuel [] 1).bind fun r335 =>
                                                    some (r334 != r335)
                                                  else
                                                    some false
                                                else
                                                  some false
                                              else
                                                some false
                                            else
                                              some false
                                          else
                                            some false
                                        else
                                          (f_gamehallkeep2_fine fuel [7, 0, r330.2]).bind fun r336 =>
                                          if r336 = true then
                                            (f_slices_Equal_int fuel r1.1 [1, 0]).bind fun r337 =>
                                            if r337 = true then
                                              if (d3.2.2.1 == 1) = true then
                                                if (d3.2.2.1 == 2) = true then
                                                  (f_slices_Equal_int fuel [] [1, 0]).bind fun r338 =>
                                                  if r338 = true then
                                                    some false
                                                  else
                                                    some false
                                                else
                                                  some false
                                              else
                                                some false
                                            else
                                              some false
                                          else
                                            some false
                                      else
                                        (f_cards_Fresh fuel d3.2.1).bind fun r339 =>
                                        if (r339.2 != 0) = true then
                                          if (d3.2.2.1 != 3) = true then
                                            (f_gamehallkeep2_fine fuel [7, 0, r339.2]).bind fun r340 =>
                                            if r340 = true then
                                              (f_slices_Equal_int fuel r1.1 [1, 0]).bind fun r341 =>
                                              if r341 = true then
                                                if (d3.2.2.1 == 1) = true then
                                                  if (d3.2.2.1 == 2) = true then
                                                    (f_slices_Equal_int fuel [] [1, 0]).bind fun r342 =>
                                                    if r342 = true then
                                                      (f_deal_Seal fuel [] 0).bind fun r343 =>
                                                      (f_deal_Seal fuel [] 1).bind fun r344 =>
                                                      some (r343 != r344)
                                                    else
                                                      some false
                                                  else
                                                    some false
                                                else
                                                  some false
                                              else
                                                some false
                                            else
                                              some false
                                          else
                                            (f_gamehallkeep2_fine fuel [7, 0, r339.2]).bind fun r345 =>
                                            if r345 = true then
                                              (f_slices_Equal_int fuel r1.1 [1, 0]).bind fun r346 =>
                                              if r346 = true then
                                                if (d3.2.2.1 == 1) = true then
                                                  if (d3.2.2.1 == 2) = true then
                                                    (f_slices_Equal_int fuel [] [1, 0]).bind fun r347 =>
                                                    if r347 = true then
                                                      some false
                                                    else
                                                      some false
                                                  else
                                                    some false
                                                else
                                                  some false
                                              else
                                                some false
                                            else
                                              some false
                                        else
                                          (f_cards_Shuffle fuel r339.1 r330.1).bind fun r348 =>
                                          if (d3.2.2.1 != 3) = true then
                                            (f_gamehallkeep2_fine fuel [7, 0, r348.2]).bind fun r349 =>
                                            if r349 = true then
                                              (f_slices_Equal_int fuel r1.1 [1, 0]).bind fun r350 =>
                                              if r350 = true then
                                                if (d3.2.2.1 == 1) = true then
                                                  if (d3.2.2.1 == 2) = true then
                                                    (f_slices_Equal_int fuel r348.1 [1, 0]).bind fun r351 =>
                                                    if r351 = true then
                                                      (f_deal_Seal fuel [] 0).bind fun r352 =>
                                                      (f_deal_Seal fuel [] 1).bind fun r353 =>
                                                      some (r352 != r353)
                                                    else
                                                      some false
                                                  else
                                                    some false
                                                else
                                                  some false
                                              else
                                                some false
                                            else
                                              some false
                                          else
                                            (f_gamehallkeep2_fine fuel [7, 0, r348.2]).bind fun r354 =>
                                            if r354 = true then
                                              (f_slices_Equal_int fuel r1.1 [1, 0]).bind fun r355 =>
                                              if r355 = true then
                                                if (d3.2.2.1 == 1) = true then
                                                  if (d3.2.2.1 == 2) = true then
                                                    (f_slices_Equal_int fuel r348.1 [1, 0]).bind fun r356 =>
                                                    if r356 = true then
                                                      some false
                                                    else
                                                      some false
                                                  else
                                                    some false
                                                else
                                                  some false
                                              else
                                                some false
                                            else
                                              some false
                                else none
                              else none
                          else none
                        else
                          (f_gamehallkeep2_fine fuel [7, 0, 10]).bind fun r357 =>
                          if r357 = true then
                            (f_slices_Equal_int fuel r1.1 [1, 0]).bind fun r358 =>
                            if r358 = true then
                              if (d3.2.2.1 == 1) = true then
                                some false
                              else
                                some false
                            else
                              some false
                          else
                            some false
                    else none
              else
                if (0 : Int) < d3.2.2.2.2.1.length then
                  if (0 : Int) < d3.2.2.2.2.2.2.1.length then
                    (f_slices_Contains_bool fuel (d3.2.2.2.2.1.set 0 true) false).bind fun r359 =>
                    if (!r359) = true then
                      if decide (0 ≥ ((d3.2.2.2.2.2.2.1.set 0 r4).length : Int)) = true then
                        (f_gamehallkeep2_fine fuel [0, 4, 10]).bind fun r360 =>
                        if r360 = true then
                          (f_slices_Equal_int fuel r1.1 [1, 0]).bind fun r361 =>
                          if r361 = true then
                            some false
                          else
                            some false
                        else
                          some false
                      else
                        if (0 : Int) < d3.2.2.2.2.2.1.length then
                          if (d3.2.2.2.2.2.1.getD 0 false) = true then
                            (f_gamehallkeep2_fine fuel [0, 7, 10]).bind fun r362 =>
                            if r362 = true then
                              (f_slices_Equal_int fuel r1.1 [1, 0]).bind fun r363 =>
                              if r363 = true then
                                some false
                              else
                                some false
                            else
                              some false
                          else
                            (f_cards_Fits fuel d3.2.1 [0]).bind fun r364 =>
                            if (r364 != 0) = false then
                              if (0 : Int) < (d3.2.2.2.2.2.2.1.set 0 r4).length then
                                (f_deal_Seal fuel [0] 7).bind fun r365 =>
                                if (r365 != (d3.2.2.2.2.2.2.1.set 0 r4).getD 0 0) = true then
                                  (f_gamehallkeep2_fine fuel [0, 0, 10]).bind fun r366 =>
                                  if r366 = true then
                                    (f_slices_Equal_int fuel r1.1 [1, 0]).bind fun r367 =>
                                    if r367 = true then
                                      some false
                                    else
                                      some false
                                  else
                                    some false
                                else
                                  (f_slices_Clone_ints [0]).bind fun r368 =>
                                  if (0 : Int) < d3.2.2.2.2.2.1.length then
                                    if (0 : Int) < d3.2.2.2.2.2.2.2.1.length then
                                      (f_slices_Contains_bool fuel (d3.2.2.2.2.2.1.set 0 true) false).bind fun r369 =>
                                      if (!r369) = true then
                                        (f_deal_Combine fuel d3.2.1 (d3.2.2.2.2.2.2.2.1.set 0 r368)).bind fun r370 =>
                                        if (r370.2 != 0) = true then
                                          (f_gamehallkeep2_fine fuel [0, 0, r370.2]).bind fun r371 =>
                                          if r371 = true then
                                            (f_slices_Equal_int fuel r1.1 [1, 0]).bind fun r372 =>
                                            if r372 = true then
                                              (f_slices_Equal_int fuel [] [1, 0]).bind fun r373 =>
                                              if r373 = true then
                                                (f_deal_Seal fuel [] 0).bind fun r374 =>
                                                (f_deal_Seal fuel [] 1).bind fun r375 =>
                                                some (r374 != r375)
                                              else
                                                some false
                                            else
                                              some false
                                          else
                                            some false
                                        else
                                          (f_cards_Fresh fuel d3.2.1).bind fun r376 =>
                                          if (r376.2 != 0) = true then
                                            (f_gamehallkeep2_fine fuel [0, 0, r376.2]).bind fun r377 =>
                                            if r377 = true then
                                              (f_slices_Equal_int fuel r1.1 [1, 0]).bind fun r378 =>
                                              if r378 = true then
                                                (f_slices_Equal_int fuel [] [1, 0]).bind fun r379 =>
                                                if r379 = true then
                                                  (f_deal_Seal fuel [] 0).bind fun r380 =>
                                                  (f_deal_Seal fuel [] 1).bind fun r381 =>
                                                  some (r380 != r381)
                                                else
                                                  some false
                                              else
                                                some false
                                            else
                                              some false
                                          else
                                            (f_cards_Shuffle fuel r376.1 r370.1).bind fun r382 =>
                                            (f_gamehallkeep2_fine fuel [0, 0, r382.2]).bind fun r383 =>
                                            if r383 = true then
                                              (f_slices_Equal_int fuel r1.1 [1, 0]).bind fun r384 =>
                                              if r384 = true then
                                                (f_slices_Equal_int fuel r382.1 [1, 0]).bind fun r385 =>
                                                if r385 = true then
                                                  (f_deal_Seal fuel [] 0).bind fun r386 =>
                                                  (f_deal_Seal fuel [] 1).bind fun r387 =>
                                                  some (r386 != r387)
                                                else
                                                  some false
                                              else
                                                some false
                                            else
                                              some false
                                      else
                                        (f_gamehallkeep2_fine fuel [0, 0, 10]).bind fun r388 =>
                                        if r388 = true then
                                          (f_slices_Equal_int fuel r1.1 [1, 0]).bind fun r389 =>
                                          if r389 = true then
                                            some false
                                          else
                                            some false
                                        else
                                          some false
                                    else none
                                  else none
                              else none
                            else
                              (f_gamehallkeep2_fine fuel [0, 0, 10]).bind fun r390 =>
                              if r390 = true then
                                (f_slices_Equal_int fuel r1.1 [1, 0]).bind fun r391 =>
                                if r391 = true then
                                  some false
                                else
                                  some false
                              else
                                some false
                        else none
                    else
                      if decide (0 ≥ ((d3.2.2.2.2.2.2.1.set 0 r4).length : Int)) = true then
                        if (d3.2.2.1 != 2) = true then
                          if (d3.2.2.1 != 3) = true then
                            (f_gamehallkeep2_fine fuel [0, 4, 10]).bind fun r392 =>
                            if r392 = true then
                              (f_slices_Equal_int fuel r1.1 [1, 0]).bind fun r393 =>
                              if r393 = true then
                                if (d3.2.2.1 == 1) = true then
                                  some false
                                else
                                  some false
                              else
                                some false
                            else
                              some false
                          else
                            (f_gamehallkeep2_fine fuel [0, 4, 10]).bind fun r394 =>
                            if r394 = true then
                              (f_slices_Equal_int fuel r1.1 [1, 0]).bind fun r395 =>
                              if r395 = true then
                                if (d3.2.2.1 == 1) = true then
                                  some false
                                else
                                  some false
                              else
                                some false
                            else
                              some false
                        else
                          (f_deal_Combine fuel d3.2.1 d3.2.2.2.2.2.2.2.1).bind fun r396 =>
                          if (r396.2 != 0) = true then
                            if (d3.2.2.1 != 3) = true then
                              (f_gamehallkeep2_fine fuel [0, 4, r396.2]).bind fun r397 =>
                              if r397 = true then
                                (f_slices_Equal_int fuel r1.1 [1, 0]).bind fun r398 =>
                                if r398 = true then
                                  if (d3.2.2.1 == 1) = true then
                                    some false
                                  else
                                    some false
                                else
                                  some false
                              else
                                some false
                            else
                              (f_gamehallkeep2_fine fuel [0, 4, r396.2]).bind fun r399 =>
                              if r399 = true then
                                (f_slices_Equal_int fuel r1.1 [1, 0]).bind fun r400 =>
                                if r400 = true then
                                  if (d3.2.2.1 == 1) = true then
                                    some false
                                  else
                                    some false
                                else
                                  some false
                              else
                                some false
                          else
                            (f_cards_Fresh fuel d3.2.1).bind fun r401 =>
                            if (r401.2 != 0) = true then
                              if (d3.2.2.1 != 3) = true then
                                (f_gamehallkeep2_fine fuel [0, 4, r401.2]).bind fun r402 =>
                                if r402 = true then
                                  (f_slices_Equal_int fuel r1.1 [1, 0]).bind fun r403 =>
                                  if r403 = true then
                                    if (d3.2.2.1 == 1) = true then
                                      some false
                                    else
                                      some false
                                  else
                                    some false
                                else
                                  some false
                              else
                                (f_gamehallkeep2_fine fuel [0, 4, r401.2]).bind fun r404 =>
                                if r404 = true then
                                  (f_slices_Equal_int fuel r1.1 [1, 0]).bind fun r405 =>
                                  if r405 = true then
                                    if (d3.2.2.1 == 1) = true then
                                      some false
                                    else
                                      some false
                                  else
                                    some false
                                else
                                  some false
                            else
                              (f_cards_Shuffle fuel r401.1 r396.1).bind fun r406 =>
                              if (d3.2.2.1 != 3) = true then
                                (f_gamehallkeep2_fine fuel [0, 4, r406.2]).bind fun r407 =>
                                if r407 = true then
                                  (f_slices_Equal_int fuel r1.1 [1, 0]).bind fun r408 =>
                                  if r408 = true then
                                    if (d3.2.2.1 == 1) = true then
                                      some false
                                    else
                                      some false
                                  else
                                    some false
                                else
                                  some false
                              else
                                (f_gamehallkeep2_fine fuel [0, 4, r406.2]).bind fun r409 =>
                                if r409 = true then
                                  (f_slices_Equal_int fuel r1.1 [1, 0]).bind fun r410 =>
                                  if r410 = true then
                                    if (d3.2.2.1 == 1) = true then
                                      some false
                                    else
                                      some false
                                  else
                                    some false
                                else
                                  some false
                      else
                        if (d3.2.2.1 != 1) = true then
                          if (d3.2.2.1 != 2) = true then
                            if (d3.2.2.1 != 3) = true then
                              (f_gamehallkeep2_fine fuel [0, 10, 10]).bind fun r411 =>
                              if r411 = true then
                                (f_slices_Equal_int fuel r1.1 [1, 0]).bind fun r412 =>
                                if r412 = true then
                                  if (d3.2.2.1 == 1) = true then
                                    some false
                                  else
                                    some false
                                else
                                  some false
                              else
                                some false
                            else
                              (f_gamehallkeep2_fine fuel [0, 10, 10]).bind fun r413 =>
                              if r413 = true then
                                (f_slices_Equal_int fuel r1.1 [1, 0]).bind fun r414 =>
                                if r414 = true then
                                  if (d3.2.2.1 == 1) = true then
                                    some false
                                  else
                                    some false
                                else
                                  some false
                              else
                                some false
                          else
                            (f_deal_Combine fuel d3.2.1 d3.2.2.2.2.2.2.2.1).bind fun r415 =>
                            if (r415.2 != 0) = true then
                              if (d3.2.2.1 != 3) = true then
                                (f_gamehallkeep2_fine fuel [0, 10, r415.2]).bind fun r416 =>
                                if r416 = true then
                                  (f_slices_Equal_int fuel r1.1 [1, 0]).bind fun r417 =>
                                  if r417 = true then
                                    if (d3.2.2.1 == 1) = true then
                                      some false
                                    else
                                      some false
                                  else
                                    some false
                                else
                                  some false
                              else
                                (f_gamehallkeep2_fine fuel [0, 10, r415.2]).bind fun r418 =>
                                if r418 = true then
                                  (f_slices_Equal_int fuel r1.1 [1, 0]).bind fun r419 =>
                                  if r419 = true then
                                    if (d3.2.2.1 == 1) = true then
                                      some false
                                    else
                                      some false
                                  else
                                    some false
                                else
                                  some false
                            else
                              (f_cards_Fresh fuel d3.2.1).bind fun r420 =>
                              if (r420.2 != 0) = true then
                                if (d3.2.2.1 != 3) = true then
                                  (f_gamehallkeep2_fine fuel [0, 10, r420.2]).bind fun r421 =>
                                  if r421 = true then
                                    (f_slices_Equal_int fuel r1.1 [1, 0]).bind fun r422 =>
                                    if r422 = true then
                                      if (d3.2.2.1 == 1) = true then
                                        some false
                                      else
                                        some false
                                    else
                                      some false
                                  else
                                    some false
                                else
                                  (f_gamehallkeep2_fine fuel [0, 10, r420.2]).bind fun r423 =>
                                  if r423 = true then
                                    (f_slices_Equal_int fuel r1.1 [1, 0]).bind fun r424 =>
                                    if r424 = true then
                                      if (d3.2.2.1 == 1) = true then
                                        some false
                                      else
                                        some false
                                    else
                                      some false
                                  else
                                    some false
                              else
                                (f_cards_Shuffle fuel r420.1 r415.1).bind fun r425 =>
                                if (d3.2.2.1 != 3) = true then
                                  (f_gamehallkeep2_fine fuel [0, 10, r425.2]).bind fun r426 =>
                                  if r426 = true then
                                    (f_slices_Equal_int fuel r1.1 [1, 0]).bind fun r427 =>
                                    if r427 = true then
                                      if (d3.2.2.1 == 1) = true then
                                        some false
                                      else
                                        some false
                                    else
                                      some false
                                  else
                                    some false
                                else
                                  (f_gamehallkeep2_fine fuel [0, 10, r425.2]).bind fun r428 =>
                                  if r428 = true then
                                    (f_slices_Equal_int fuel r1.1 [1, 0]).bind fun r429 =>
                                    if r429 = true then
                                      if (d3.2.2.1 == 1) = true then
                                        some false
                                      else
                                        some false
                                    else
                                      some false
                                  else
                                    some false
                        else
                          if (0 : Int) < d3.2.2.2.2.2.1.length then
                            if (d3.2.2.2.2.2.1.getD 0 false) = true then
                              if (d3.2.2.1 != 2) = true then
                                if (d3.2.2.1 != 3) = true then
                                  (f_gamehallkeep2_fine fuel [0, 7, 10]).bind fun r430 =>
                                  if r430 = true then
                                    (f_slices_Equal_int fuel r1.1 [1, 0]).bind fun r431 =>
                                    if r431 = true then
                                      if (d3.2.2.1 == 1) = true then
                                        some false
                                      else
                                        some false
                                    else
                                      some false
                                  else
                                    some false
                                else
                                  (f_gamehallkeep2_fine fuel [0, 7, 10]).bind fun r432 =>
                                  if r432 = true then
                                    (f_slices_Equal_int fuel r1.1 [1, 0]).bind fun r433 =>
                                    if r433 = true then
                                      if (d3.2.2.1 == 1) = true then
                                        some false
                                      else
                                        some false
                                    else
                                      some false
                                  else
                                    some false
                              else
                                (f_deal_Combine fuel d3.2.1 d3.2.2.2.2.2.2.2.1).bind fun r434 =>
                                if (r434.2 != 0) = true then
                                  if (d3.2.2.1 != 3) = true then
                                    (f_gamehallkeep2_fine fuel [0, 7, r434.2]).bind fun r435 =>
                                    if r435 = true then
                                      (f_slices_Equal_int fuel r1.1 [1, 0]).bind fun r436 =>
                                      if r436 = true then
                                        if (d3.2.2.1 == 1) = true then
                                          some false
                                        else
                                          some false
                                      else
                                        some false
                                    else
                                      some false
                                  else
                                    (f_gamehallkeep2_fine fuel [0, 7, r434.2]).bind fun r437 =>
                                    if r437 = true then
                                      (f_slices_Equal_int fuel r1.1 [1, 0]).bind fun r438 =>
                                      if r438 = true then
                                        if (d3.2.2.1 == 1) = true then
                                          some false
                                        else
                                          some false
                                      else
                                        some false
                                    else
                                      some false
                                else
                                  (f_cards_Fresh fuel d3.2.1).bind fun r439 =>
                                  if (r439.2 != 0) = true then
                                    if (d3.2.2.1 != 3) = true then
                                      (f_gamehallkeep2_fine fuel [0, 7, r439.2]).bind fun r440 =>
                                      if r440 = true then
                                        (f_slices_Equal_int fuel r1.1 [1, 0]).bind fun r441 =>
                                        if r441 = true then
                                          if (d3.2.2.1 == 1) = true then
                                            some false
                                          else
                                            some false
                                        else
                                          some false
                                      else
                                        some false
                                    else
                                      (f_gamehallkeep2_fine fuel [0, 7, r439.2]).bind fun r442 =>
                                      if r442 = true then
                                        (f_slices_Equal_int fuel r1.1 [1, 0]).bind fun r443 =>
                                        if r443 = true then
                                          if (d3.2.2.1 == 1) = true then
                                            some false
                                          else
                                            some false
                                        else
                                          some false
                                      else
                                        some false
                                  else
                                    (f_cards_Shuffle fuel r439.1 r434.1).bind fun r444 =>
                                    if (d3.2.2.1 != 3) = true then
                                      (f_gamehallkeep2_fine fuel [0, 7, r444.2]).bind fun r445 =>
                                      if r445 = true then
                                        (f_slices_Equal_int fuel r1.1 [1, 0]).bind fun r446 =>
                                        if r446 = true then
                                          if (d3.2.2.1 == 1) = true then
                                            some false
                                          else
                                            some false
                                        else
                                          some false
                                      else
                                        some false
                                    else
                                      (f_gamehallkeep2_fine fuel [0, 7, r444.2]).bind fun r447 =>
                                      if r447 = true then
                                        (f_slices_Equal_int fuel r1.1 [1, 0]).bind fun r448 =>
                                        if r448 = true then
                                          if (d3.2.2.1 == 1) = true then
                                            some false
                                          else
                                            some false
                                        else
                                          some false
                                      else
                                        some false
                            else
                              (f_cards_Fits fuel d3.2.1 [0]).bind fun r449 =>
                              if (r449 != 0) = false then
                                if (0 : Int) < (d3.2.2.2.2.2.2.1.set 0 r4).length then
                                  (f_deal_Seal fuel [0] 7).bind fun r450 =>
                                  if (r450 != (d3.2.2.2.2.2.2.1.set 0 r4).getD 0 0) = true then
                                    (f_gamehallkeep2_fine fuel [0, 0, 10]).bind fun r451 =>
                                    if r451 = true then
                                      (f_slices_Equal_int fuel r1.1 [1, 0]).bind fun r452 =>
                                      if r452 = true then
                                        if (d3.2.2.1 == 1) = true then
                                          some false
                                        else
                                          some false
                                      else
                                        some false
                                    else
                                      some false
                                  else
                                    (f_slices_Clone_ints [0]).bind fun r453 =>
                                    if (0 : Int) < d3.2.2.2.2.2.1.length then
                                      if (0 : Int) < d3.2.2.2.2.2.2.2.1.length then
                                        (f_slices_Contains_bool fuel (d3.2.2.2.2.2.1.set 0 true) false).bind fun r454 =>
                                        if (!r454) = true then
                                          (f_deal_Combine fuel d3.2.1 (d3.2.2.2.2.2.2.2.1.set 0 r453)).bind fun r455 =>
                                          if (r455.2 != 0) = true then
                                            (f_gamehallkeep2_fine fuel [0, 0, r455.2]).bind fun r456 =>
                                            if r456 = true then
                                              (f_slices_Equal_int fuel r1.1 [1, 0]).bind fun r457 =>
                                              if r457 = true then
                                                if (d3.2.2.1 == 1) = true then
                                                  (f_slices_Equal_int fuel [] [1, 0]).bind fun r458 =>
                                                  if r458 = true then
                                                    (f_deal_Seal fuel [] 0).bind fun r459 =>
                                                    (f_deal_Seal fuel [] 1).bind fun r460 =>
                                                    some (r459 != r460)
                                                  else
                                                    some false
                                                else
                                                  some false
                                              else
                                                some false
                                            else
                                              some false
                                          else
                                            (f_cards_Fresh fuel d3.2.1).bind fun r461 =>
                                            if (r461.2 != 0) = true then
                                              (f_gamehallkeep2_fine fuel [0, 0, r461.2]).bind fun r462 =>
                                              if r462 = true then
                                                (f_slices_Equal_int fuel r1.1 [1, 0]).bind fun r463 =>
                                                if r463 = true then
                                                  if (d3.2.2.1 == 1) = true then
                                                    (f_slices_Equal_int fuel [] [1, 0]).bind fun r464 =>
                                                    if r464 = true then
                                                      (f_deal_Seal fuel [] 0).bind fun r465 =>
                                                      (f_deal_Seal fuel [] 1).bind fun r466 =>
                                                      some (r465 != r466)
                                                    else
                                                      some false
                                                  else
                                                    some false
                                                else
                                                  some false
                                              else
                                                some false
                                            else
                                              (f_cards_Shuffle fuel r461.1 r455.1).bind fun r467 =>
                                              (f_gamehallkeep2_fine fuel [0, 0, r467.2]).bind fun r468 =>
                                              if r468 = true then
                                                (f_slices_Equal_int fuel r1.1 [1, 0]).bind fun r469 =>
                                                if r469 = true then
                                                  if (d3.2.2.1 == 1) = true then
                                                    (f_slices_Equal_int fuel r467.1 [1, 0]).bind fun r470 =>
                                                    if r470 = true then
                                                      (f_deal_Seal fuel [] 0).bind fun r471 =>
                                                      (f_deal_Seal fuel [] 1).bind fun r472 =>
                                                      some (r471 != r472)
                                                    else
                                                      some false
                                                  else
                                                    some false
                                                else
                                                  some false
                                              else
                                                some false
                                        else
                                          if (d3.2.2.1 != 2) = true then
                                            if (d3.2.2.1 != 3) = true then
                                              (f_gamehallkeep2_fine fuel [0, 0, 10]).bind fun r473 =>
                                              if r473 = true then
                                                (f_slices_Equal_int fuel r1.1 [1, 0]).bind fun r474 =>
                                                if r474 = true then
                                                  if (d3.2.2.1 == 1) = true then
                                                    if (d3.2.2.1 == 2) = true then
                                                      (f_slices_Equal_int fuel [] [1, 0]).bind fun r475 =>
                                                      if r475 = true then
                                                        (f_deal_Seal fuel [] 0).bind fun r476 =>
                                                        (f_deal_Seal fuel [] 1).bind fun r477 =>
                                                        some (r476 != r477)
                                                      else
                                                        some false
                                                    else
                                                      some false
                                                  else
                                                    some false
                                                else
                                                  some false
                                              else
                                                some false
                                            else
                                              (f_gamehallkeep2_fine fuel [0, 0, 10]).bind fun r478 =>
                                              if r478 = true then
                                                (f_slices_Equal_int fuel r1.1 [1, 0]).bind fun r479 =>
                                                if r479 = true then
                                                  if (d3.2.2.1 == 1) = true then
                                                    if (d3.2.2.1 == 2) = true then
                                                      (f_slices_Equal_int fuel [] [1, 0]).bind fun r480 =>
                                                      if r480 = true then
                                                        some false
                                                      else
                                                        some false
                                                    else
                                                      some false
                                                  else
                                                    some false
                                                else
                                                  some false
                                              else
                                                some false
                                          else
                                            (f_deal_Combine fuel d3.2.1 (d3.2.2.2.2.2.2.2.1.set 0 r453)).bind fun r481 =>
                                            if (r481.2 != 0) = true then
                                              if (d3.2.2.1 != 3) = true then
                                                (f_gamehallkeep2_fine fuel [0, 0, r481.2]).bind fun r482 =>
                                                if r482 = true then
                                                  (f_slices_Equal_int fuel r1.1 [1, 0]).bind fun r483 =>
                                                  if r483 = true then
                                                    if (d3.2.2.1 == 1) = true then
                                                      if (d3.2.2.1 == 2) = true then
                                                        (f_slices_Equal_int fuel [] [1, 0]).bind fun r484 =>
                                                        if r484 = true then
                                                          (f_deal_Seal fuel [] 0).bind fun r485 =>
                                                          (f_deal_Seal fuel [] 1).bind fun r486 =>
                                                          some (r485 != r486)
                                                        else
                                                          some false
                                                      else
                                                        some false
                                                    else
                                                      some false
                                                  else
                                                    some false
                                                else
                                                  some false
                                              else
                                                (f_gamehallkeep2_fine fuel [0, 0, r481.2]).bind fun r487 =>
                                                if r487 = true then
                                                  (f_slices_Equal_int fuel r1.1 [1, 0]).bind fun r488 =>
                                                  if r488 = true then
                                                    if (d3.2.2.1 == 1) = true then
                                                      if (d3.2.2.1 == 2) = true then
                                                        (f_slices_Equal_int fuel [] [1, 0]).bind fun r489 =>
                                                        if r489 = true then
                                                          some false
                                                        else
                                                          some false
                                                      else
                                                        some false
                                                    else
                                                      some false
                                                  else
                                                    some false
                                                else
                                                  some false
                                            else
                                              (f_cards_Fresh fuel d3.2.1).bind fun r490 =>
                                              if (r490.2 != 0) = true then
                                                if (d3.2.2.1 != 3) = true then
                                                  (f_gamehallkeep2_fine fuel [0, 0, r490.2]).bind fun r491 =>
                                                  if r491 = true then
                                                    (f_slices_Equal_int fuel r1.1 [1, 0]).bind fun r492 =>
                                                    if r492 = true then
                                                      if (d3.2.2.1 == 1) = true then
                                                        if (d3.2.2.1 == 2) = true then
                                                          (f_slices_Equal_int fuel [] [1, 0]).bind fun r493 =>
                                                          if r493 = true then
                                                            (f_deal_Seal fuel [] 0).bind fun r494 =>
                                                            (f_deal_Seal fuel [] 1).bind fun r495 =>
                                                            some (r494 != r495)
                                                          else
                                                            some false
                                                        else
                                                          some false
                                                      else
                                                        some false
                                                    else
                                                      some false
                                                  else
                                                    some false
                                                else
                                                  (f_gamehallkeep2_fine fuel [0, 0, r490.2]).bind fun r496 =>
                                                  if r496 = true then
                                                    (f_slices_Equal_int fuel r1.1 [1, 0]).bind fun r497 =>
                                                    if r497 = true then
                                                      if (d3.2.2.1 == 1) = true then
                                                        if (d3.2.2.1 == 2) = true then
                                                          (f_slices_Equal_int fuel [] [1, 0]).bind fun r498 =>
                                                          if r498 = true then
                                                            some false
                                                          else
                                                            some false
                                                        else
                                                          some false
                                                      else
                                                        some false
                                                    else
                                                      some false
                                                  else
                                                    some false
                                              else
                                                (f_cards_Shuffle fuel r490.1 r481.1).bind fun r499 =>
                                                if (d3.2.2.1 != 3) = true then
                                                  (f_gamehallkeep2_fine fuel [0, 0, r499.2]).bind fun r500 =>
                                                  if r500 = true then
                                                    (f_slices_Equal_int fuel r1.1 [1, 0]).bind fun r501 =>
                                                    if r501 = true then
                                                      if (d3.2.2.1 == 1) = true then
                                                        if (d3.2.2.1 == 2) = true then
                                                          (f_slices_Equal_int fuel r499.1 [1, 0]).bind fun r502 =>
                                                          if r502 = true then
                                                            (f_deal_Seal fuel [] 0).bind fun r503 =>
                                                            (f_deal_Seal fuel [] 1).bind fun r504 =>
                                                            some (r503 != r504)
                                                          else
                                                            some false
                                                        else
                                                          some false
                                                      else
                                                        some false
                                                    else
                                                      some false
                                                  else
                                                    some false
                                                else
                                                  (f_gamehallkeep2_fine fuel [0, 0, r499.2]).bind fun r505 =>
                                                  if r505 = true then
                                                    (f_slices_Equal_int fuel r1.1 [1, 0]).bind fun r506 =>
                                                    if r506 = true then
                                                      if (d3.2.2.1 == 1) = true then
                                                        if (d3.2.2.1 == 2) = true then
                                                          (f_slices_Equal_int fuel r499.1 [1, 0]).bind fun r507 =>
                                                          if r507 = true then
                                                            some false
                                                          else
                                                            some false
                                                        else
                                                          some false
                                                      else
                                                        some false
                                                    else
                                                      some false
                                                  else
                                                    some false
                                      else none
                                    else none
                                else none
                              else
                                (f_gamehallkeep2_fine fuel [0, 0, 10]).bind fun r508 =>
                                if r508 = true then
                                  (f_slices_Equal_int fuel r1.1 [1, 0]).bind fun r509 =>
                                  if r509 = true then
                                    if (d3.2.2.1 == 1) = true then
                                      some false
                                    else
                                      some false
                                  else
                                    some false
                                else
                                  some false
                          else none
                  else none
                else none
            else none
    | some (.ret d3) =>
      none
  else
    some false
theorem l_deal_Table_Missing__gamehallkeep2_dealFact_6_step (m : Nat) (d : dens l_deal_Table_Missing__gamehallkeep2_dealFact_6H.tys) : l_deal_Table_Missing__gamehallkeep2_dealFact_6L.f (m + 1) d = round E_gamehallkeep2_dealFact LL_gamehallkeep2_dealFact m [20, 6] 42 (loopN (bodyOf Tryd.f20) 0) l_deal_Table_Missing__gamehallkeep2_dealFact_6L (l_deal_Table_Missing__gamehallkeep2_dealFact_6L.f m) d := by kernel_rfl
theorem f_gamehallkeep2_dealFact_run (k : Nat) (x : denL []) : runFn E_gamehallkeep2_dealFact LL_gamehallkeep2_dealFact k 6 Tryd.f6 [] [.imm .bool] x = f_gamehallkeep2_dealFact k := by kernel_rfl
noncomputable def S_gamehallkeep2_dealFact : Vm.Spec := { ps := [], rs := [.imm .bool], f := fun x => f_gamehallkeep2_dealFact fuel }
theorem f_gamehallkeep2_dealFact_holds : Vm.Spec.holds Tryd.prog 6 S_gamehallkeep2_dealFact := by
  have hB : BodiesOk Tryd.prog E_gamehallkeep2_dealFact := bodies_ok (by exact ⟨by kernel_rfl, by kernel_rfl, by kernel_rfl, by kernel_rfl, by kernel_rfl, by kernel_rfl, by kernel_rfl, by kernel_rfl, by kernel_rfl, by kernel_rfl, by kernel_rfl, by kernel_rfl, by kernel_rfl, by kernel_rfl, trivial⟩)
  have hBS : BodiesStepped E_gamehallkeep2_dealFact LL_gamehallkeep2_dealFact := by
    refine bodies_stepped ?_
    exact ⟨(fun _ => stepped_noloop (by kernel_rfl)), (fun _ => stepped_noloop (by kernel_rfl)), (stepped_paths [[6]] (by exact ⟨stepped_of (ls := [(6, l_deal_Table_Missing__gamehallkeep2_dealFact_6L)]) rfl rfl ⟨by kernel_rfl, fun _ => rfl, l_deal_Table_Missing__gamehallkeep2_dealFact_6_step, stepsI_end (by kernel_rfl)⟩,  trivial⟩) rfl), (fun _ => stepped_noloop (by kernel_rfl)), (fun _ => stepped_noloop (by kernel_rfl)), (fun _ => stepped_noloop (by kernel_rfl)), (fun _ => stepped_noloop (by kernel_rfl)),  trivial⟩
  have hS : SpecsOk Tryd.prog E_gamehallkeep2_dealFact := specs_ok (by exact ⟨⟨by kernel_rfl, f_cards_Fits_holds⟩, ⟨by kernel_rfl, f_deal_Combine_holds⟩, ⟨by kernel_rfl, f_cards_Fresh_holds⟩, ⟨by kernel_rfl, f_cards_Shuffle_holds⟩, ⟨by kernel_rfl, f_gamehallkeep2_fine_holds⟩, ⟨by kernel_rfl, f_slices_Equal_int_holds⟩, ⟨by kernel_rfl, f_deal_Seal_holds⟩, ⟨by kernel_rfl, f_slices_Clone_ints_holds⟩, ⟨by kernel_rfl, f_slices_Contains_bool_holds⟩, trivial⟩)
  have hE : EOk Tryd.prog E_gamehallkeep2_dealFact := eok_te ok
  exact fn_sound (L := LL_gamehallkeep2_dealFact) hE hS hB (draws_ok hE hS (by kernel_rfl)) hBS (fn := Tryd.f6) (by kernel_rfl) (c := bodyOf Tryd.f6) (by kernel_rfl) (stepped_none rfl) fun x r h => ⟨fuel, (f_gamehallkeep2_dealFact_run fuel x).trans h⟩

/-! gamehall/gamehallkeep2.DealHonest -/
noncomputable def E_gamehallkeep2_DealHonest : Env := { te := te, spec := [(6, S_gamehallkeep2_dealFact), (7, S_gamehallkeep2_cardsFact), (8, S_gamehallkeep2_pick), (11, S_cards_Fits), (13, S_deal_Combine), (14, S_cards_Fresh), (15, S_cards_Shuffle), (16, S_gamehallkeep2_fine), (18, S_slices_Equal_int), (24, S_deal_Seal), (35, S_slices_Clone_ints), (39, S_slices_Contains_bool)], body := [(9, Tryd.f9), (10, Tryd.f10), (12, Tryd.f12), (17, Tryd.f17), (19, Tryd.f19), (20, Tryd.f20), (23, Tryd.f23), (25, Tryd.f25), (26, Tryd.f26), (34, Tryd.f34)] }
def l_slices_IndexFunc_int__slices_ContainsFunc_int__gamehallkeep2_DealHonest_2H : Ann := { slots := [(0, .one (.val (.slice (.slice (.int .i64))))), (1, .one (.fix (.clos 132))), (7, .one (.val (.int .i64))), (8, .one (.val (.int .i64)))], objs := [(132, .clos 10 [.fix (.pbox 8 0)]), (8, .box [.val (.int .i64)])] }
def l_slices_IndexFunc_int__slices_ContainsFunc_int__gamehallkeep2_DealHonest_2X : Ann := { slots := [], objs := [(132, .clos 10 [.fix (.pbox 8 0)]), (8, .box [.val (.int .i64)])] }
def l_slices_IndexFunc_int__slices_ContainsFunc_int__gamehallkeep2_DealHonest_2R : Ann := { slots := [(4, .one (.val (.int .i64)))], objs := [(132, .clos 10 [.fix (.pbox 8 0)]), (8, .box [.val (.int .i64)])] }
def l_gamehallkeep2_played__gamehallkeep2_DealHonest_5H : Ann := { slots := [(6, .one (.fix (.pbox 8120 0))), (27, .one (.val (.slice (.slice (.int .i64))))), (28, .one (.val (.int .i64))), (29, .one (.val (.int .i64)))], objs := [(8120, .box [.val (.int .i64), .val (.int .i64), .own 8088 .bool, .own 8096 .bool, .own 8104 (.int .u64), .own 8112 (.slice (.int .i64)), .val (.int .i64)]), (8088, .buf .bool), (8096, .buf .bool), (8104, .buf (.int .u64)), (8112, .grid (.int .i64))] }
def l_gamehallkeep2_played__gamehallkeep2_DealHonest_5X : Ann := { slots := [(6, .one (.fix (.pbox 8120 0)))], objs := [(8120, .box [.val (.int .i64), .val (.int .i64), .own 8088 .bool, .own 8096 .bool, .own 8104 (.int .u64), .own 8112 (.slice (.int .i64)), .val (.int .i64)]), (8088, .buf .bool), (8096, .buf .bool), (8104, .buf (.int .u64)), (8112, .grid (.int .i64))] }
def l_gamehallkeep2_played__gamehallkeep2_DealHonest_5R : Ann := { slots := [(4, .one (.fix .nilp)), (5, .one (.val .bool))], objs := [(8120, .box [.val (.int .i64), .val (.int .i64), .own 8088 .bool, .own 8096 .bool, .own 8104 (.int .u64), .own 8112 (.slice (.int .i64)), .val (.int .i64)]), (8088, .buf .bool), (8096, .buf .bool), (8104, .buf (.int .u64)), (8112, .grid (.int .i64))] }
def l_gamehallkeep2_played__gamehallkeep2_DealHonest_11H : Ann := { slots := [(6, .one (.fix (.pbox 8120 0))), (42, .one (.val (.slice (.slice (.int .i64))))), (43, .one (.val (.int .i64))), (44, .one (.val (.int .i64)))], objs := [(8120, .box [.val (.int .i64), .val (.int .i64), .own 8088 .bool, .own 8096 .bool, .own 8104 (.int .u64), .own 8112 (.slice (.int .i64)), .val (.int .i64)]), (8088, .buf .bool), (8096, .buf .bool), (8104, .buf (.int .u64)), (8112, .grid (.int .i64))] }
def l_gamehallkeep2_played__gamehallkeep2_DealHonest_11X : Ann := { slots := [(6, .one (.fix (.pbox 8120 0)))], objs := [(8120, .box [.val (.int .i64), .val (.int .i64), .own 8088 .bool, .own 8096 .bool, .own 8104 (.int .u64), .own 8112 (.slice (.int .i64)), .val (.int .i64)]), (8088, .buf .bool), (8096, .buf .bool), (8104, .buf (.int .u64)), (8112, .grid (.int .i64))] }
def l_gamehallkeep2_played__gamehallkeep2_DealHonest_11R : Ann := { slots := [(4, .one (.fix .nilp)), (5, .one (.val .bool))], objs := [(8120, .box [.val (.int .i64), .val (.int .i64), .own 8088 .bool, .own 8096 .bool, .own 8104 (.int .u64), .own 8112 (.slice (.int .i64)), .val (.int .i64)]), (8088, .buf .bool), (8096, .buf .bool), (8104, .buf (.int .u64)), (8112, .grid (.int .i64))] }
def l_deal_Table_Missing__gamehallkeep2_DealHonest_6H : Ann := { slots := [(0, .one (.fix (.pbox 8120 0))), (4, .one (.own 156 (.int .i64))), (20, .one (.val (.slice .bool))), (21, .one (.val (.int .i64))), (22, .one (.val (.int .i64)))], objs := [(8120, .box [.val (.int .i64), .val (.int .i64), .val (.slice .bool), .val (.slice .bool), .own 8104 (.int .u64), .own 8112 (.slice (.int .i64)), .val (.int .i64)]), (156, .buf (.int .i64)), (8104, .buf (.int .u64)), (8112, .grid (.int .i64))] }
def l_deal_Table_Missing__gamehallkeep2_DealHonest_6X : Ann := { slots := [(4, .one (.own 156 (.int .i64)))], objs := [(156, .buf (.int .i64)), (8120, .box [.val (.int .i64), .val (.int .i64), .val (.slice .bool), .val (.slice .bool), .own 8104 (.int .u64), .own 8112 (.slice (.int .i64)), .val (.int .i64)]), (8104, .buf (.int .u64)), (8112, .grid (.int .i64))] }
def l_deal_Table_Missing__gamehallkeep2_DealHonest_6R : Ann := { slots := [], objs := [] }
def l_slices_IndexFunc_int__slices_ContainsFunc_int__gamehallkeep2_DealHonest_2 : Nat → List (List Int) → Int → Int → Int → Option (LR l_slices_IndexFunc_int__slices_ContainsFunc_int__gamehallkeep2_DealHonest_2X l_slices_IndexFunc_int__slices_ContainsFunc_int__gamehallkeep2_DealHonest_2R)
  | 0, _, _, _, _ => none
  | m + 1, s0, s7, s8, b8_0 =>
    if decide (s8 < s7) = true then
      if (0 : Int) ≤ s8 then
        if s8 < s0.length then
          (f_cards_Fits fuel b8_0 (s0.getD s8.toNat [])).bind fun r1 =>
          if (r1 != 0) = true then
            some (.ret (s8, b8_0, ()))
          else
            l_slices_IndexFunc_int__slices_ContainsFunc_int__gamehallkeep2_DealHonest_2 m s0 s7 (IntKind.i64.wrap (s8 + 1)) b8_0
        else none
      else none
    else
      some (.exit (b8_0, ()))
def l_slices_IndexFunc_int__slices_ContainsFunc_int__gamehallkeep2_DealHonest_2L : LSpec := { h := l_slices_IndexFunc_int__slices_ContainsFunc_int__gamehallkeep2_DealHonest_2H, x := l_slices_IndexFunc_int__slices_ContainsFunc_int__gamehallkeep2_DealHonest_2X, r := l_slices_IndexFunc_int__slices_ContainsFunc_int__gamehallkeep2_DealHonest_2R, xid := 0, rt := true, pins := [132, 8], f := fun k d => l_slices_IndexFunc_int__slices_ContainsFunc_int__gamehallkeep2_DealHonest_2 k d.1 d.2.1 d.2.2.1 d.2.2.2.1 }
def l_gamehallkeep2_played__gamehallkeep2_DealHonest_5 : Nat → List (List Int) → Int → Int → Int → Int → Int → List Bool → List Bool → List Int → List (List Int) → Option (LR l_gamehallkeep2_played__gamehallkeep2_DealHonest_5X l_gamehallkeep2_played__gamehallkeep2_DealHonest_5R)
  | 0, _, _, _, _, _, _, _, _, _, _ => none
  | m + 1, s27, s28, s29, b8120_0, b8120_1, b8120_6, b8088, b8096, b8104, b8112 =>
    if decide (s29 < s28) = true then
      if (0 : Int) ≤ s29 then
        if s29 < s27.length then
          (f_deal_Seal fuel (s27.getD s29.toNat []) s29).bind fun r1 =>
          if decide (s29 < 0) = false then
            if decide (s29 ≥ (b8104.length : Int)) = true then
              some (.ret (false, b8120_0, b8120_1, b8120_6, b8088, b8096, b8104, b8112, ()))
            else
              if (b8120_1 != 0) = true then
                some (.ret (false, b8120_0, b8120_1, b8120_6, b8088, b8096, b8104, b8112, ()))
              else
                if (0 : Int) ≤ s29 then
                  if s29 < b8088.length then
                    if (b8088.getD s29.toNat false) = true then
                      some (.ret (false, b8120_0, b8120_1, b8120_6, b8088, b8096, b8104, b8112, ()))
                    else
                      if (0 : Int) ≤ s29 then
                        if s29 < b8088.length then
                          if (0 : Int) ≤ s29 then
                            if s29 < b8104.length then
                              (f_slices_Contains_bool fuel (b8088.set s29.toNat true) false).bind fun r2 =>
                              if (!r2) = true then
                                l_gamehallkeep2_played__gamehallkeep2_DealHonest_5 m s27 s28 (IntKind.i64.wrap (s29 + 1)) b8120_0 1 b8120_6 (b8088.set s29.toNat true) b8096 (b8104.set s29.toNat r1) b8112
                              else
                                l_gamehallkeep2_played__gamehallkeep2_DealHonest_5 m s27 s28 (IntKind.i64.wrap (s29 + 1)) b8120_0 b8120_1 b8120_6 (b8088.set s29.toNat true) b8096 (b8104.set s29.toNat r1) b8112
                            else none
                          else none
                        else none
                      else none
                  else none
                else none
          else
            some (.ret (false, b8120_0, b8120_1, b8120_6, b8088, b8096, b8104, b8112, ()))
        else none
      else none
    else
      some (.exit (b8120_0, b8120_1, b8120_6, b8088, b8096, b8104, b8112, ()))
def l_gamehallkeep2_played__gamehallkeep2_DealHonest_5L : LSpec := { h := l_gamehallkeep2_played__gamehallkeep2_DealHonest_5H, x := l_gamehallkeep2_played__gamehallkeep2_DealHonest_5X, r := l_gamehallkeep2_played__gamehallkeep2_DealHonest_5R, xid := 0, rt := true, pins := [8120, 8088, 8096, 8104, 8112], f := fun k d => l_gamehallkeep2_played__gamehallkeep2_DealHonest_5 k d.1 d.2.1 d.2.2.1 d.2.2.2.1 d.2.2.2.2.1 d.2.2.2.2.2.1 d.2.2.2.2.2.2.1 d.2.2.2.2.2.2.2.1 d.2.2.2.2.2.2.2.2.1 d.2.2.2.2.2.2.2.2.2.1 }
def l_gamehallkeep2_played__gamehallkeep2_DealHonest_11 : Nat → List (List Int) → Int → Int → Int → Int → Int → List Bool → List Bool → List Int → List (List Int) → Option (LR l_gamehallkeep2_played__gamehallkeep2_DealHonest_11X l_gamehallkeep2_played__gamehallkeep2_DealHonest_11R)
  | 0, _, _, _, _, _, _, _, _, _, _ => none
  | m + 1, s42, s43, s44, b8120_0, b8120_1, b8120_6, b8088, b8096, b8104, b8112 =>
    if decide (s44 < s43) = true then
      if (0 : Int) ≤ s44 then
        if s44 < s42.length then
          if decide (s44 < 0) = false then
            if decide (s44 ≥ (b8104.length : Int)) = true then
              some (.ret (false, b8120_0, b8120_1, b8120_6, b8088, b8096, b8104, b8112, ()))
            else
              if (b8120_1 != 1) = true then
                some (.ret (false, b8120_0, b8120_1, b8120_6, b8088, b8096, b8104, b8112, ()))
              else
                if (0 : Int) ≤ s44 then
                  if s44 < b8096.length then
                    if (b8096.getD s44.toNat false) = true then
                      some (.ret (false, b8120_0, b8120_1, b8120_6, b8088, b8096, b8104, b8112, ()))
                    else
                      (f_cards_Fits fuel b8120_0 (s42.getD s44.toNat [])).bind fun r1 =>
                      if (r1 != 0) = false then
                        if (0 : Int) ≤ s44 then
                          if s44 < b8104.length then
                            (f_deal_Seal fuel (s42.getD s44.toNat []) s44).bind fun r2 =>
                            if (r2 != b8104.getD s44.toNat 0) = true then
                              some (.ret (false, b8120_0, 3, s44, b8088, b8096, b8104, b8112, ()))
                            else
                              (f_slices_Clone_ints (s42.getD s44.toNat [])).bind fun r3 =>
                              if (0 : Int) ≤ s44 then
                                if s44 < b8096.length then
                                  if (0 : Int) ≤ s44 then
                                    if s44 < b8112.length then
                                      (f_slices_Contains_bool fuel (b8096.set s44.toNat true) false).bind fun r4 =>
                                      if (!r4) = true then
                                        l_gamehallkeep2_played__gamehallkeep2_DealHonest_11 m s42 s43 (IntKind.i64.wrap (s44 + 1)) b8120_0 2 b8120_6 b8088 (b8096.set s44.toNat true) b8104 (b8112.set s44.toNat r3)
                                      else
                                        l_gamehallkeep2_played__gamehallkeep2_DealHonest_11 m s42 s43 (IntKind.i64.wrap (s44 + 1)) b8120_0 b8120_1 b8120_6 b8088 (b8096.set s44.toNat true) b8104 (b8112.set s44.toNat r3)
                                    else none
                                  else none
                                else none
                              else none
                          else none
                        else none
                      else
                        some (.ret (false, b8120_0, 3, s44, b8088, b8096, b8104, b8112, ()))
                  else none
                else none
          else
            some (.ret (false, b8120_0, b8120_1, b8120_6, b8088, b8096, b8104, b8112, ()))
        else none
      else none
    else
      some (.exit (b8120_0, b8120_1, b8120_6, b8088, b8096, b8104, b8112, ()))
def l_gamehallkeep2_played__gamehallkeep2_DealHonest_11L : LSpec := { h := l_gamehallkeep2_played__gamehallkeep2_DealHonest_11H, x := l_gamehallkeep2_played__gamehallkeep2_DealHonest_11X, r := l_gamehallkeep2_played__gamehallkeep2_DealHonest_11R, xid := 2, rt := true, pins := [8120, 8088, 8096, 8104, 8112], f := fun k d => l_gamehallkeep2_played__gamehallkeep2_DealHonest_11 k d.1 d.2.1 d.2.2.1 d.2.2.2.1 d.2.2.2.2.1 d.2.2.2.2.2.1 d.2.2.2.2.2.2.1 d.2.2.2.2.2.2.2.1 d.2.2.2.2.2.2.2.2.1 d.2.2.2.2.2.2.2.2.2.1 }
def l_deal_Table_Missing__gamehallkeep2_DealHonest_6 : Nat → List Bool → Int → Int → Int → Int → List Bool → List Bool → Int → List Int → List Int → List (List Int) → Option (LR l_deal_Table_Missing__gamehallkeep2_DealHonest_6X l_deal_Table_Missing__gamehallkeep2_DealHonest_6R)
  | 0, _, _, _, _, _, _, _, _, _, _, _ => none
  | m + 1, s20, s21, s22, b8120_0, b8120_1, b8120_2, b8120_3, b8120_6, b156, b8104, b8112 =>
    if decide (s22 < s21) = true then
      if (0 : Int) ≤ s22 then
        if s22 < s20.length then
          if (!(s20.getD s22.toNat false)) = true then
            if decide (b8120_1 ≤ 1) = true then
              if (b156.length + 1) * 8 ≤ 140737488355328 then
                l_deal_Table_Missing__gamehallkeep2_DealHonest_6 m s20 s21 (IntKind.i64.wrap (s22 + 1)) b8120_0 b8120_1 b8120_2 b8120_3 b8120_6 (b156 ++ [s22]) b8104 b8112
              else none
            else
              l_deal_Table_Missing__gamehallkeep2_DealHonest_6 m s20 s21 (IntKind.i64.wrap (s22 + 1)) b8120_0 b8120_1 b8120_2 b8120_3 b8120_6 b156 b8104 b8112
          else
            l_deal_Table_Missing__gamehallkeep2_DealHonest_6 m s20 s21 (IntKind.i64.wrap (s22 + 1)) b8120_0 b8120_1 b8120_2 b8120_3 b8120_6 b156 b8104 b8112
        else none
      else none
    else
      some (.exit (b156, b8120_0, b8120_1, b8120_2, b8120_3, b8120_6, b8104, b8112, ()))
def l_deal_Table_Missing__gamehallkeep2_DealHonest_6L : LSpec := { h := l_deal_Table_Missing__gamehallkeep2_DealHonest_6H, x := l_deal_Table_Missing__gamehallkeep2_DealHonest_6X, r := l_deal_Table_Missing__gamehallkeep2_DealHonest_6R, xid := 0, rt := false, pins := [8120, 8104, 8112], f := fun k d => l_deal_Table_Missing__gamehallkeep2_DealHonest_6 k d.1 d.2.1 d.2.2.1 d.2.2.2.1 d.2.2.2.2.1 d.2.2.2.2.2.1 d.2.2.2.2.2.2.1 d.2.2.2.2.2.2.2.1 d.2.2.2.2.2.2.2.2.1 d.2.2.2.2.2.2.2.2.2.1 d.2.2.2.2.2.2.2.2.2.2.1 }
def LL_gamehallkeep2_DealHonest : Loops := [([34, 9, 3], [(2, l_slices_IndexFunc_int__slices_ContainsFunc_int__gamehallkeep2_DealHonest_2L)]), ([12, 3], [(5, l_gamehallkeep2_played__gamehallkeep2_DealHonest_5L), (11, l_gamehallkeep2_played__gamehallkeep2_DealHonest_11L)]), ([20, 3], [(6, l_deal_Table_Missing__gamehallkeep2_DealHonest_6L)])]
def f_gamehallkeep2_DealHonest (k : Nat) (a0 : Int) (a1 : List (List Int)) : Option (Bool) :=
  (f_gamehallkeep2_dealFact fuel).bind fun r1 =>
  if (!r1) = false then
    (f_gamehallkeep2_cardsFact fuel).bind fun r2 =>
    if (!r2) = true then
      some false
    else
      (f_gamehallkeep2_pick fuel a0 9).bind fun r3 =>
      if (0 : Int) ≤ (if 6 < (a1.length : Int) then 6 else (a1.length : Int)) then
        if (if 6 < (a1.length : Int) then 6 else (a1.length : Int)) ≤ a1.length then
          if ((((a1.take (if 6 < (a1.length : Int) then 6 else (a1.length : Int)).toNat).drop 0).length : Int) == 0) = false then
            match l_slices_IndexFunc_int__slices_ContainsFunc_int__gamehallkeep2_DealHonest_2 k ((a1.take (if 6 < (a1.length : Int) then 6 else (a1.length : Int)).toNat).drop 0) (((a1.take (if 6 < (a1.length : Int) then 6 else (a1.length : Int)).toNat).drop 0).length : Int) 0 r3 with
            | none => none
            | some (.exit d4) =>
              if decide ((((a1.take (if 6 < (a1.length : Int) then 6 else (a1.length : Int)).toNat).drop 0).length : Int) < 1) = false then
                if decide ((((a1.take (if 6 < (a1.length : Int) then 6 else (a1.length : Int)).toNat).drop 0).length : Int) > 6) = false then
                  if decide (d4.1 < 0) = false then
                    if decide (d4.1 > 52) = true then
                      (f_deal_Combine fuel d4.1 ((a1.take (if 6 < (a1.length : Int) then 6 else (a1.length : Int)).toNat).drop 0)).bind fun r5 =>
                      (f_cards_Fresh fuel d4.1).bind fun r6 =>
                      (f_cards_Shuffle fuel r6.1 r5.1).bind fun r7 =>
                      some false
                    else
                      if (0 : Int) ≤ (((a1.take (if 6 < (a1.length : Int) then 6 else (a1.length : Int)).toNat).drop 0).length : Int) then
                        if (((a1.take (if 6 < (a1.length : Int) then 6 else (a1.length : Int)).toNat).drop 0).length : Int) ≤ (((a1.take (if 6 < (a1.length : Int) then 6 else (a1.length : Int)).toNat).drop 0).length : Int) then
                          if (((a1.take (if 6 < (a1.length : Int) then 6 else (a1.length : Int)).toNat).drop 0).length : Int) * 1 ≤ 281474976710656 then
                            if (0 : Int) ≤ (((a1.take (if 6 < (a1.length : Int) then 6 else (a1.length : Int)).toNat).drop 0).length : Int) then
                              if (((a1.take (if 6 < (a1.length : Int) then 6 else (a1.length : Int)).toNat).drop 0).length : Int) ≤ (((a1.take (if 6 < (a1.length : Int) then 6 else (a1.length : Int)).toNat).drop 0).length : Int) then
                                if (((a1.take (if 6 < (a1.length : Int) then 6 else (a1.length : Int)).toNat).drop 0).length : Int) * 1 ≤ 281474976710656 then
                                  if (0 : Int) ≤ (((a1.take (if 6 < (a1.length : Int) then 6 else (a1.length : Int)).toNat).drop 0).length : Int) then
                                    if (((a1.take (if 6 < (a1.length : Int) then 6 else (a1.length : Int)).toNat).drop 0).length : Int) ≤ (((a1.take (if 6 < (a1.length : Int) then 6 else (a1.length : Int)).toNat).drop 0).length : Int) then
                                      if (((a1.take (if 6 < (a1.length : Int) then 6 else (a1.length : Int)).toNat).drop 0).length : Int) * 8 ≤ 281474976710656 then
                                        if (0 : Int) ≤ (((a1.take (if 6 < (a1.length : Int) then 6 else (a1.length : Int)).toNat).drop 0).length : Int) then
                                          if (((a1.take (if 6 < (a1.length : Int) then 6 else (a1.length : Int)).toNat).drop 0).length : Int) ≤ (((a1.take (if 6 < (a1.length : Int) then 6 else (a1.length : Int)).toNat).drop 0).length : Int) then
                                            if (((a1.take (if 6 < (a1.length : Int) then 6 else (a1.length : Int)).toNat).drop 0).length : Int) * 24 ≤ 281474976710656 then
                                              match l_gamehallkeep2_played__gamehallkeep2_DealHonest_5 k ((a1.take (if 6 < (a1.length : Int) then 6 else (a1.length : Int)).toNat).drop 0) (((a1.take (if 6 < (a1.length : Int) then 6 else (a1.length : Int)).toNat).drop 0).length : Int) 0 d4.1 0 (-1) (List.replicate ((((a1.take (if 6 < (a1.length : Int) then 6 else (a1.length : Int)).toNat).drop 0).length : Int).toNat) false) (List.replicate ((((a1.take (if 6 < (a1.length : Int) then 6 else (a1.length : Int)).toNat).drop 0).length : Int).toNat) false) (List.replicate ((((a1.take (if 6 < (a1.length : Int) then 6 else (a1.length : Int)).toNat).drop 0).length : Int).toNat) 0) (List.replicate ((((a1.take (if 6 < (a1.length : Int) then 6 else (a1.length : Int)).toNat).drop 0).length : Int).toNat) []) with
                                              | none => none
                                              | some (.exit d8) =>
                                                match l_gamehallkeep2_played__gamehallkeep2_DealHonest_11 k ((a1.take (if 6 < (a1.length : Int) then 6 else (a1.length : Int)).toNat).drop 0) (((a1.take (if 6 < (a1.length : Int) then 6 else (a1.length : Int)).toNat).drop 0).length : Int) 0 d8.1 d8.2.1 d8.2.2.1 d8.2.2.2.1 d8.2.2.2.2.1 d8.2.2.2.2.2.1 d8.2.2.2.2.2.2.1 with
                                                | none => none
                                                | some (.exit d9) =>
                                                  (f_deal_Combine fuel d4.1 ((a1.take (if 6 < (a1.length : Int) then 6 else (a1.length : Int)).toNat).drop 0)).bind fun r10 =>
                                                  (f_cards_Fresh fuel d4.1).bind fun r11 =>
                                                  (f_cards_Shuffle fuel r11.1 r10.1).bind fun r12 =>
                                                  (f_gamehallkeep2_fine fuel [r10.2, r11.2, r12.2]).bind fun r13 =>
                                                  if (!r13) = true then
                                                    some false
                                                  else
                                                    if (d9.2.1 != 2) = true then
                                                      some false
                                                    else
                                                      (f_deal_Combine fuel d9.1 d9.2.2.2.2.2.2.1).bind fun r14 =>
                                                      if (r14.2 != 0) = true then
                                                        if (r14.2 == 0) = true then
                                                          (f_slices_Equal_int fuel [] r12.1).bind fun r15 =>
                                                          if r15 = true then
                                                            if (d9.2.1 == 2) = true then
                                                              if (d9.2.1 == 1) = true then
                                                                match l_deal_Table_Missing__gamehallkeep2_DealHonest_6 k d9.2.2.2.2.1 (d9.2.2.2.2.1.length : Int) 0 d9.1 d9.2.1 d9.2.2.2.1 d9.2.2.2.2.1 d9.2.2.1 [] d9.2.2.2.2.2.1 d9.2.2.2.2.2.2.1 with
                                                                | none => none
                                                                | some (.exit d16) =>
                                                                  some ((d16.1.length : Int) == 0)
                                                                | some (.ret d16) =>
                                                                  none
                                                              else
                                                                match l_deal_Table_Missing__gamehallkeep2_DealHonest_6 k d9.2.2.2.1 (d9.2.2.2.1.length : Int) 0 d9.1 d9.2.1 d9.2.2.2.1 d9.2.2.2.2.1 d9.2.2.1 [] d9.2.2.2.2.2.1 d9.2.2.2.2.2.2.1 with
                                                                | none => none
                                                                | some (.exit d17) =>
                                                                  some ((d17.1.length : Int) == 0)
                                                                | some (.ret d17) =>
                                                                  none
                                                            else
                                                              some false
                                                          else
                                                            some false
                                                        else
                                                          some false
                                                      else
                                                        (f_cards_Fresh fuel d9.1).bind fun r18 =>
                                                        if (r18.2 != 0) = true then
                                                          if (r18.2 == 0) = true then
                                                            (f_slices_Equal_int fuel [] r12.1).bind fun r19 =>
                                                            if r19 = true then
                                                              if (d9.2.1 == 2) = true then
                                                                if (d9.2.1 == 1) = true then
                                                                  match l_deal_Table_Missing__gamehallkeep2_DealHonest_6 k d9.2.2.2.2.1 (d9.2.2.2.2.1.length : Int) 0 d9.1 d9.2.1 d9.2.2.2.1 d9.2.2.2.2.1 d9.2.2.1 [] d9.2.2.2.2.2.1 d9.2.2.2.2.2.2.1 with
                                                                  | none => none
                                                                  | some (.exit d20) =>
                                                                    some ((d20.1.length : Int) == 0)
                                                                  | some (.ret d20) =>
                                                                    none
                                                                else
                                                                  match l_deal_Table_Missing__gamehallkeep2_DealHonest_6 k d9.2.2.2.1 (d9.2.2.2.1.length : Int) 0 d9.1 d9.2.1 d9.2.2.2.1 d9.2.2.2.2.1 d9.2.2.1 [] d9.2.2.2.2.2.1 d9.2.2.2.2.2.2.1 with
                                                                  | none => none
                                                                  | some (.exit d21) =>
                                                                    some ((d21.1.length : Int) == 0)
                                                                  | some (.ret d21) =>
                                                                    none
                                                              else
                                                                some false
                                                            else
                                                              some false
                                                          else
                                                            some false
                                                        else
                                                          (f_cards_Shuffle fuel r18.1 r14.1).bind fun r22 =>
                                                          if (r22.2 == 0) = true then
                                                            (f_slices_Equal_int fuel r22.1 r12.1).bind fun r23 =>
                                                            if r23 = true then
                                                              if (d9.2.1 == 2) = true then
                                                                if (d9.2.1 == 1) = true then
                                                                  match l_deal_Table_Missing__gamehallkeep2_DealHonest_6 k d9.2.2.2.2.1 (d9.2.2.2.2.1.length : Int) 0 d9.1 d9.2.1 d9.2.2.2.1 d9.2.2.2.2.1 d9.2.2.1 [] d9.2.2.2.2.2.1 d9.2.2.2.2.2.2.1 with
                                                                  | none => none
                                                                  | some (.exit d24) =>
                                                                    some ((d24.1.length : Int) == 0)
                                                                  | some (.ret d24) =>
                                                                    none
                                                                else
                                                                  match l_deal_Table_Missing__gamehallkeep2_DealHonest_6 k d9.2.2.2.1 (d9.2.2.2.1.length : Int) 0 d9.1 d9.2.1 d9.2.2.2.1 d9.2.2.2.2.1 d9.2.2.1 [] d9.2.2.2.2.2.1 d9.2.2.2.2.2.2.1 with
                                                                  | none => none
                                                                  | some (.exit d25) =>
                                                                    some ((d25.1.length : Int) == 0)
                                                                  | some (.ret d25) =>
                                                                    none
                                                              else
                                                                some false
                                                            else
                                                              some false
                                                          else
                                                            some false
                                                | some (.ret d9) =>
                                                  (f_deal_Combine fuel d4.1 ((a1.take (if 6 < (a1.length : Int) then 6 else (a1.length : Int)).toNat).drop 0)).bind fun r26 =>
                                                  (f_cards_Fresh fuel d4.1).bind fun r27 =>
                                                  (f_cards_Shuffle fuel r27.1 r26.1).bind fun r28 =>
                                                  if (!d9.1) = false then
                                                    (f_gamehallkeep2_fine fuel [r26.2, r27.2, r28.2]).bind fun r29 =>
                                                    if (!r29) = true then
                                                      some false
                                                    else none
                                                  else
                                                    some false
                                              | some (.ret d8) =>
                                                (f_deal_Combine fuel d4.1 ((a1.take (if 6 < (a1.length : Int) then 6 else (a1.length : Int)).toNat).drop 0)).bind fun r30 =>
                                                (f_cards_Fresh fuel d4.1).bind fun r31 =>
                                                (f_cards_Shuffle fuel r31.1 r30.1).bind fun r32 =>
                                                if (!d8.1) = false then
                                                  (f_gamehallkeep2_fine fuel [r30.2, r31.2, r32.2]).bind fun r33 =>
                                                  if (!r33) = true then
                                                    some false
                                                  else none
                                                else
                                                  some false
                                            else none
                                          else none
                                        else none
                                      else none
                                    else none
                                  else none
                                else none
                              else none
                            else none
                          else none
                        else none
                      else none
                  else
                    (f_deal_Combine fuel d4.1 ((a1.take (if 6 < (a1.length : Int) then 6 else (a1.length : Int)).toNat).drop 0)).bind fun r34 =>
                    (f_cards_Fresh fuel d4.1).bind fun r35 =>
                    (f_cards_Shuffle fuel r35.1 r34.1).bind fun r36 =>
                    some false
                else
                  (f_deal_Combine fuel d4.1 ((a1.take (if 6 < (a1.length : Int) then 6 else (a1.length : Int)).toNat).drop 0)).bind fun r37 =>
                  (f_cards_Fresh fuel d4.1).bind fun r38 =>
                  (f_cards_Shuffle fuel r38.1 r37.1).bind fun r39 =>
                  some false
              else
                (f_deal_Combine fuel d4.1 ((a1.take (if 6 < (a1.length : Int) then 6 else (a1.length : Int)).toNat).drop 0)).bind fun r40 =>
                (f_cards_Fresh fuel d4.1).bind fun r41 =>
                (f_cards_Shuffle fuel r41.1 r40.1).bind fun r42 =>
                some false
            | some (.ret d4) =>
              if decide (d4.1 ≥ 0) = true then
                some true
              else
                if decide ((((a1.take (if 6 < (a1.length : Int) then 6 else (a1.length : Int)).toNat).drop 0).length : Int) < 1) = false then
                  if decide ((((a1.take (if 6 < (a1.length : Int) then 6 else (a1.length : Int)).toNat).drop 0).length : Int) > 6) = false then
                    if decide (d4.2.1 < 0) = false then
                      if decide (d4.2.1 > 52) = true then
                        (f_deal_Combine fuel d4.2.1 ((a1.take (if 6 < (a1.length : Int) then 6 else (a1.length : Int)).toNat).drop 0)).bind fun r43 =>
                        (f_cards_Fresh fuel d4.2.1).bind fun r44 =>
                        (f_cards_Shuffle fuel r44.1 r43.1).bind fun r45 =>
                        some false
                      else
                        if (0 : Int) ≤ (((a1.take (if 6 < (a1.length : Int) then 6 else (a1.length : Int)).toNat).drop 0).length : Int) then
                          if (((a1.take (if 6 < (a1.length : Int) then 6 else (a1.length : Int)).toNat).drop 0).length : Int) ≤ (((a1.take (if 6 < (a1.length : Int) then 6 else (a1.length : Int)).toNat).drop 0).length : Int) then
                            if (((a1.take (if 6 < (a1.length : Int) then 6 else (a1.length : Int)).toNat).drop 0).length : Int) * 1 ≤ 281474976710656 then
                              if (0 : Int) ≤ (((a1.take (if 6 < (a1.length : Int) then 6 else (a1.length : Int)).toNat).drop 0).length : Int) then
                                if (((a1.take (if 6 < (a1.length : Int) then 6 else (a1.length : Int)).toNat).drop 0).length : Int) ≤ (((a1.take (if 6 < (a1.length : Int) then 6 else (a1.length : Int)).toNat).drop 0).length : Int) then
                                  if (((a1.take (if 6 < (a1.length : Int) then 6 else (a1.length : Int)).toNat).drop 0).length : Int) * 1 ≤ 281474976710656 then
                                    if (0 : Int) ≤ (((a1.take (if 6 < (a1.length : Int) then 6 else (a1.length : Int)).toNat).drop 0).length : Int) then
                                      if (((a1.take (if 6 < (a1.length : Int) then 6 else (a1.length : Int)).toNat).drop 0).length : Int) ≤ (((a1.take (if 6 < (a1.length : Int) then 6 else (a1.length : Int)).toNat).drop 0).length : Int) then
                                        if (((a1.take (if 6 < (a1.length : Int) then 6 else (a1.length : Int)).toNat).drop 0).length : Int) * 8 ≤ 281474976710656 then
                                          if (0 : Int) ≤ (((a1.take (if 6 < (a1.length : Int) then 6 else (a1.length : Int)).toNat).drop 0).length : Int) then
                                            if (((a1.take (if 6 < (a1.length : Int) then 6 else (a1.length : Int)).toNat).drop 0).length : Int) ≤ (((a1.take (if 6 < (a1.length : Int) then 6 else (a1.length : Int)).toNat).drop 0).length : Int) then
                                              if (((a1.take (if 6 < (a1.length : Int) then 6 else (a1.length : Int)).toNat).drop 0).length : Int) * 24 ≤ 281474976710656 then
                                                match l_gamehallkeep2_played__gamehallkeep2_DealHonest_5 k ((a1.take (if 6 < (a1.length : Int) then 6 else (a1.length : Int)).toNat).drop 0) (((a1.take (if 6 < (a1.length : Int) then 6 else (a1.length : Int)).toNat).drop 0).length : Int) 0 d4.2.1 0 (-1) (List.replicate ((((a1.take (if 6 < (a1.length : Int) then 6 else (a1.length : Int)).toNat).drop 0).length : Int).toNat) false) (List.replicate ((((a1.take (if 6 < (a1.length : Int) then 6 else (a1.length : Int)).toNat).drop 0).length : Int).toNat) false) (List.replicate ((((a1.take (if 6 < (a1.length : Int) then 6 else (a1.length : Int)).toNat).drop 0).length : Int).toNat) 0) (List.replicate ((((a1.take (if 6 < (a1.length : Int) then 6 else (a1.length : Int)).toNat).drop 0).length : Int).toNat) []) with
                                                | none => none
                                                | some (.exit d46) =>
                                                  match l_gamehallkeep2_played__gamehallkeep2_DealHonest_11 k ((a1.take (if 6 < (a1.length : Int) then 6 else (a1.length : Int)).toNat).drop 0) (((a1.take (if 6 < (a1.length : Int) then 6 else (a1.length : Int)).toNat).drop 0).length : Int) 0 d46.1 d46.2.1 d46.2.2.1 d46.2.2.2.1 d46.2.2.2.2.1 d46.2.2.2.2.2.1 d46.2.2.2.2.2.2.1 with
                                                  | none => none
                                                  | some (.exit d47) =>
                                                    (f_deal_Combine fuel d4.2.1 ((a1.take (if 6 < (a1.length : Int) then 6 else (a1.length : Int)).toNat).drop 0)).bind fun r48 =>
                                                    (f_cards_Fresh fuel d4.2.1).bind fun r49 =>
                                                    (f_cards_Shuffle fuel r49.1 r48.1).bind fun r50 =>
                                                    (f_gamehallkeep2_fine fuel [r48.2, r49.2, r50.2]).bind fun r51 =>
                                                    if (!r51) = true then
                                                      some false
                                                    else
                                                      if (d47.2.1 != 2) = true then
                                                        some false
                                                      else
                                                        (f_deal_Combine fuel d47.1 d47.2.2.2.2.2.2.1).bind fun r52 =>
                                                        if (r52.2 != 0) = true then
                                                          if (r52.2 == 0) = true then
                                                            (f_slices_Equal_int fuel [] r50.1).bind fun r53 =>
                                                            if r53 = true then
                                                              if (d47.2.1 == 2) = true then
                                                                if (d47.2.1 == 1) = true then
                                                                  match l_deal_Table_Missing__gamehallkeep2_DealHonest_6 k d47.2.2.2.2.1 (d47.2.2.2.2.1.length : Int) 0 d47.1 d47.2.1 d47.2.2.2.1 d47.2.2.2.2.1 d47.2.2.1 [] d47.2.2.2.2.2.1 d47.2.2.2.2.2.2.1 with
                                                                  | none => none
                                                                  | some (.exit d54) =>
                                                                    some ((d54.1.length : Int) == 0)
                                                                  | some (.ret d54) =>
                                                                    none
                                                                else
                                                                  match l_deal_Table_Missing__gamehallkeep2_DealHonest_6 k d47.2.2.2.1 (d47.2.2.2.1.length : Int) 0 d47.1 d47.2.1 d47.2.2.2.1 d47.2.2.2.2.1 d47.2.2.1 [] d47.2.2.2.2.2.1 d47.2.2.2.2.2.2.1 with
                                                                  | none => none
                                                                  | some (.exit d55) =>
                                                                    some ((d55.1.length : Int) == 0)
                                                                  | some (.ret d55) =>
                                                                    none
                                                              else
                                                                some false
                                                            else
                                                              some false
                                                          else
                                                            some false
                                                        else
                                                          (f_cards_Fresh fuel d47.1).bind fun r56 =>
                                                          if (r56.2 != 0) = true then
                                                            if (r56.2 == 0) = true then
                                                              (f_slices_Equal_int fuel [] r50.1).bind fun r57 =>
                                                              if r57 = true then
                                                                if (d47.2.1 == 2) = true then
                                                                  if (d47.2.1 == 1) = true then
                                                                    match l_deal_Table_Missing__gamehallkeep2_DealHonest_6 k d47.2.2.2.2.1 (d47.2.2.2.2.1.length : Int) 0 d47.1 d47.2.1 d47.2.2.2.1 d47.2.2.2.2.1 d47.2.2.1 [] d47.2.2.2.2.2.1 d47.2.2.2.2.2.2.1 with
                                                                    | none => none
                                                                    | some (.exit d58) =>
                                                                      some ((d58.1.length : Int) == 0)
                                                                    | some (.ret d58) =>
                                                                      none
                                                                  else
                                                                    match l_deal_Table_Missing__gamehallkeep2_DealHonest_6 k d47.2.2.2.1 (d47.2.2.2.1.length : Int) 0 d47.1 d47.2.1 d47.2.2.2.1 d47.2.2.2.2.1 d47.2.2.1 [] d47.2.2.2.2.2.1 d47.2.2.2.2.2.2.1 with
                                                                    | none => none
                                                                    | some (.exit d59) =>
                                                                      some ((d59.1.length : Int) == 0)
                                                                    | some (.ret d59) =>
                                                                      none
                                                                else
                                                                  some false
                                                              else
                                                                some false
                                                            else
                                                              some false
                                                          else
                                                            (f_cards_Shuffle fuel r56.1 r52.1).bind fun r60 =>
                                                            if (r60.2 == 0) = true then
                                                              (f_slices_Equal_int fuel r60.1 r50.1).bind fun r61 =>
                                                              if r61 = true then
                                                                if (d47.2.1 == 2) = true then
                                                                  if (d47.2.1 == 1) = true then
                                                                    match l_deal_Table_Missing__gamehallkeep2_DealHonest_6 k d47.2.2.2.2.1 (d47.2.2.2.2.1.length : Int) 0 d47.1 d47.2.1 d47.2.2.2.1 d47.2.2.2.2.1 d47.2.2.1 [] d47.2.2.2.2.2.1 d47.2.2.2.2.2.2.1 with
                                                                    | none => none
                                                                    | some (.exit d62) =>
                                                                      some ((d62.1.length : Int) == 0)
                                                                    | some (.ret d62) =>
                                                                      none
                                                                  else
                                                                    match l_deal_Table_Missing__gamehallkeep2_DealHonest_6 k d47.2.2.2.1 (d47.2.2.2.1.length : Int) 0 d47.1 d47.2.1 d47.2.2.2.1 d47.2.2.2.2.1 d47.2.2.1 [] d47.2.2.2.2.2.1 d47.2.2.2.2.2.2.1 with
                                                                    | none => none
                                                                    | some (.exit d63) =>
                                                                      some ((d63.1.length : Int) == 0)
                                                                    | some (.ret d63) =>
                                                                      none
                                                                else
                                                                  some false
                                                              else
                                                                some false
                                                            else
                                                              some false
                                                  | some (.ret d47) =>
                                                    (f_deal_Combine fuel d4.2.1 ((a1.take (if 6 < (a1.length : Int) then 6 else (a1.length : Int)).toNat).drop 0)).bind fun r64 =>
                                                    (f_cards_Fresh fuel d4.2.1).bind fun r65 =>
                                                    (f_cards_Shuffle fuel r65.1 r64.1).bind fun r66 =>
                                                    if (!d47.1) = false then
                                                      (f_gamehallkeep2_fine fuel [r64.2, r65.2, r66.2]).bind fun r67 =>
                                                      if (!r67) = true then
                                                        some false
                                                      else none
                                                    else
                                                      some false
                                                | some (.ret d46) =>
                                                  (f_deal_Combine fuel d4.2.1 ((a1.take (if 6 < (a1.length : Int) then 6 else (a1.length : Int)).toNat).drop 0)).bind fun r68 =>
                                                  (f_cards_Fresh fuel d4.2.1).bind fun r69 =>
                                                  (f_cards_Shuffle fuel r69.1 r68.1).bind fun r70 =>
                                                  if (!d46.1) = false then
                                                    (f_gamehallkeep2_fine fuel [r68.2, r69.2, r70.2]).bind fun r71 =>
                                                    if (!r71) = true then
                                                      some false
                                                    else none
                                                  else
                                                    some false
                                              else none
                                            else none
                                          else none
                                        else none
                                      else none
                                    else none
                                  else none
                                else none
                              else none
                            else none
                          else none
                        else none
                    else
                      (f_deal_Combine fuel d4.2.1 ((a1.take (if 6 < (a1.length : Int) then 6 else (a1.length : Int)).toNat).drop 0)).bind fun r72 =>
                      (f_cards_Fresh fuel d4.2.1).bind fun r73 =>
                      (f_cards_Shuffle fuel r73.1 r72.1).bind fun r74 =>
                      some false
                  else
                    (f_deal_Combine fuel d4.2.1 ((a1.take (if 6 < (a1.length : Int) then 6 else (a1.length : Int)).toNat).drop 0)).bind fun r75 =>
                    (f_cards_Fresh fuel d4.2.1).bind fun r76 =>
                    (f_cards_Shuffle fuel r76.1 r75.1).bind fun r77 =>
                    some false
                else
                  (f_deal_Combine fuel d4.2.1 ((a1.take (if 6 < (a1.length : Int) then 6 else (a1.length : Int)).toNat).drop 0)).bind fun r78 =>
                  (f_cards_Fresh fuel d4.2.1).bind fun r79 =>
                  (f_cards_Shuffle fuel r79.1 r78.1).bind fun r80 =>
                  some false
          else
            some true
        else none
      else none
  else
    some false
theorem l_slices_IndexFunc_int__slices_ContainsFunc_int__gamehallkeep2_DealHonest_2_step (m : Nat) (d : dens l_slices_IndexFunc_int__slices_ContainsFunc_int__gamehallkeep2_DealHonest_2H.tys) : l_slices_IndexFunc_int__slices_ContainsFunc_int__gamehallkeep2_DealHonest_2L.f (m + 1) d = round E_gamehallkeep2_DealHonest LL_gamehallkeep2_DealHonest m [34, 9, 3] 19 (loopN (bodyOf Tryd.f34) 0) l_slices_IndexFunc_int__slices_ContainsFunc_int__gamehallkeep2_DealHonest_2L (l_slices_IndexFunc_int__slices_ContainsFunc_int__gamehallkeep2_DealHonest_2L.f m) d := by kernel_rfl
theorem l_gamehallkeep2_played__gamehallkeep2_DealHonest_5_step (m : Nat) (d : dens l_gamehallkeep2_played__gamehallkeep2_DealHonest_5H.tys) : l_gamehallkeep2_played__gamehallkeep2_DealHonest_5L.f (m + 1) d = round E_gamehallkeep2_DealHonest LL_gamehallkeep2_DealHonest m [12, 3] 65 (loopN (bodyOf Tryd.f12) 0) l_gamehallkeep2_played__gamehallkeep2_DealHonest_5L (l_gamehallkeep2_played__gamehallkeep2_DealHonest_5L.f m) d := by kernel_rfl
theorem l_gamehallkeep2_played__gamehallkeep2_DealHonest_11_step (m : Nat) (d : dens l_gamehallkeep2_played__gamehallkeep2_DealHonest_11H.tys) : l_gamehallkeep2_played__gamehallkeep2_DealHonest_11L.f (m + 1) d = round E_gamehallkeep2_DealHonest LL_gamehallkeep2_DealHonest m [12, 3] 65 (loopN (bodyOf Tryd.f12) 1) l_gamehallkeep2_played__gamehallkeep2_DealHonest_11L (l_gamehallkeep2_played__gamehallkeep2_DealHonest_11L.f m) d := by kernel_rfl
theorem l_deal_Table_Missing__gamehallkeep2_DealHonest_6_step (m : Nat) (d : dens l_deal_Table_Missing__gamehallkeep2_DealHonest_6H.tys) : l_deal_Table_Missing__gamehallkeep2_DealHonest_6L.f (m + 1) d = round E_gamehallkeep2_DealHonest LL_gamehallkeep2_DealHonest m [20, 3] 42 (loopN (bodyOf Tryd.f20) 0) l_deal_Table_Missing__gamehallkeep2_DealHonest_6L (l_deal_Table_Missing__gamehallkeep2_DealHonest_6L.f m) d := by kernel_rfl
theorem f_gamehallkeep2_DealHonest_run (k : Nat) (x : denL [.int .i64, .slice (.slice (.int .i64))]) : runFn E_gamehallkeep2_DealHonest LL_gamehallkeep2_DealHonest k 3 Tryd.f3 [.int .i64, .slice (.slice (.int .i64))] [.imm .bool] x = f_gamehallkeep2_DealHonest k x.1 x.2 := by kernel_rfl
noncomputable def S_gamehallkeep2_DealHonest : Vm.Spec := { ps := [.int .i64, .slice (.slice (.int .i64))], rs := [.imm .bool], f := fun x => f_gamehallkeep2_DealHonest fuel x.1 x.2 }
theorem f_gamehallkeep2_DealHonest_holds : Vm.Spec.holds Tryd.prog 3 S_gamehallkeep2_DealHonest := by
  have hB : BodiesOk Tryd.prog E_gamehallkeep2_DealHonest := bodies_ok (by exact ⟨by kernel_rfl, by kernel_rfl, by kernel_rfl, by kernel_rfl, by kernel_rfl, by kernel_rfl, by kernel_rfl, by kernel_rfl, by kernel_rfl, by kernel_rfl, by kernel_rfl, by kernel_rfl, by kernel_rfl, by kernel_rfl, by kernel_rfl, by kernel_rfl, by kernel_rfl, by kernel_rfl, by kernel_rfl, by kernel_rfl, trivial⟩)
  have hBS : BodiesStepped E_gamehallkeep2_DealHonest LL_gamehallkeep2_DealHonest := by
    refine bodies_stepped ?_
    exact ⟨(fun _ => stepped_noloop (by kernel_rfl)), (fun _ => stepped_noloop (by kernel_rfl)), (stepped_paths [[3]] (by exact ⟨stepped_of (ls := [(5, l_gamehallkeep2_played__gamehallkeep2_DealHonest_5L), (11, l_gamehallkeep2_played__gamehallkeep2_DealHonest_11L)]) rfl rfl ⟨by kernel_rfl, fun _ => rfl, l_gamehallkeep2_played__gamehallkeep2_DealHonest_5_step, by kernel_rfl, fun _ => rfl, l_gamehallkeep2_played__gamehallkeep2_DealHonest_11_step, stepsI_end (by kernel_rfl)⟩,  trivial⟩) rfl), (fun _ => stepped_noloop (by kernel_rfl)), (fun _ => stepped_noloop (by kernel_rfl)), (stepped_paths [[3]] (by exact ⟨stepped_of (ls := [(6, l_deal_Table_Missing__gamehallkeep2_DealHonest_6L)]) rfl rfl ⟨by kernel_rfl, fun _ => rfl, l_deal_Table_Missing__gamehallkeep2_DealHonest_6_step, stepsI_end (by kernel_rfl)⟩,  trivial⟩) rfl), (fun _ => stepped_noloop (by kernel_rfl)), (fun _ => stepped_noloop (by kernel_rfl)), (fun _ => stepped_noloop (by kernel_rfl)), (stepped_paths [[9, 3]] (by exact ⟨stepped_of (ls := [(2, l_slices_IndexFunc_int__slices_ContainsFunc_int__gamehallkeep2_DealHonest_2L)]) rfl rfl ⟨by kernel_rfl, fun _ => rfl, l_slices_IndexFunc_int__slices_ContainsFunc_int__gamehallkeep2_DealHonest_2_step, stepsI_end (by kernel_rfl)⟩,  trivial⟩) rfl),  trivial⟩
  have hS : SpecsOk Tryd.prog E_gamehallkeep2_DealHonest := specs_ok (by exact ⟨⟨by kernel_rfl, f_gamehallkeep2_dealFact_holds⟩, ⟨by kernel_rfl, f_gamehallkeep2_cardsFact_holds⟩, ⟨by kernel_rfl, f_gamehallkeep2_pick_holds⟩, ⟨by kernel_rfl, f_cards_Fits_holds⟩, ⟨by kernel_rfl, f_deal_Combine_holds⟩, ⟨by kernel_rfl, f_cards_Fresh_holds⟩, ⟨by kernel_rfl, f_cards_Shuffle_holds⟩, ⟨by kernel_rfl, f_gamehallkeep2_fine_holds⟩, ⟨by kernel_rfl, f_slices_Equal_int_holds⟩, ⟨by kernel_rfl, f_deal_Seal_holds⟩, ⟨by kernel_rfl, f_slices_Clone_ints_holds⟩, ⟨by kernel_rfl, f_slices_Contains_bool_holds⟩, trivial⟩)
  have hE : EOk Tryd.prog E_gamehallkeep2_DealHonest := eok_te ok
  exact fn_sound (L := LL_gamehallkeep2_DealHonest) hE hS hB (draws_ok hE hS (by kernel_rfl)) hBS (fn := Tryd.f3) (by kernel_rfl) (c := bodyOf Tryd.f3) (by kernel_rfl) (stepped_none rfl) fun x r h => ⟨fuel, (f_gamehallkeep2_DealHonest_run fuel x).trans h⟩

end Go.Proofs.YtnlclnheakhncaaDoor
