/- Pure functions, printed by a program of this session out of the program. -/
import Derived.Test.YtkgjejengkmacaaDoorVmD
import Derived.Test.YtkgjejengkmacaaDoorSh
set_option linter.unusedVariables false
namespace Go.Proofs.YtkgjejengkmacaaDoor
open Go Vm Go.Proofs
def te : TE := [(2, ⟨.int .i64, .sc, 8⟩),
  (3, ⟨.int .i64, .sc, 8⟩),
  (4, ⟨.bool, .sc, 1⟩),
  (5, ⟨.int .u8, .sc, 1⟩),
  (9, ⟨.str, .sc, 16⟩),
  (23, ⟨.slice (.slice .str), .slice 36, 24⟩),
  (27, ⟨.slice (.arr 2 (.int .i64)), .slice 32, 24⟩),
  (28, ⟨.int .i64, .sc, 8⟩),
  (32, ⟨.arr 2 (.int .i64), .ar 2 3, 16⟩),
  (35, ⟨.slice .str, .slice 40, 24⟩),
  (36, ⟨.slice .str, .slice 40, 24⟩),
  (40, ⟨.str, .sc, 16⟩),
  (58, ⟨.slice (.slice (.slice .str)), .slice 23, 24⟩),
  (60, ⟨.int .u64, .sc, 8⟩),
  (63, ⟨.slice (.slice (.pair .bool (.pair (.slice (.int .u32)) (.slice (.int .u32))))), .slice 65, 24⟩),
  (65, ⟨.slice (.pair .bool (.pair (.slice (.int .u32)) (.slice (.int .u32)))), .slice 69, 24⟩),
  (67, ⟨.slice (.int .u32), .slice 111, 24⟩),
  (69, ⟨.pair .bool (.pair (.slice (.int .u32)) (.slice (.int .u32))), .st [4, 67, 67], 56⟩),
  (84, ⟨.slice (.int .i64), .slice 28, 24⟩),
  (91, ⟨.slice (.int .i64), .slice 3, 24⟩),
  (111, ⟨.int .u32, .sc, 4⟩),
  (112, ⟨.int .u64, .sc, 8⟩),
  (113, ⟨.slice (.int .u8), .slice 5, 24⟩),
  (117, ⟨.arr 9 (.int .u8), .ar 9 5, 9⟩)]
theorem ok : EOk Tryd.prog { te := te, spec := [], body := [] } := eok_of (by kernel_rfl)
/-! (gamehall/nat.N).Cmp -/
noncomputable def E_nat_N_Cmp : Env := { te := te, spec := [], body := [] }
def l_nat_N_Cmp_6H : Ann := { slots := [(0, .one (.val (.slice (.int .u32)))), (1, .one (.val (.slice (.int .u32)))), (5, .one (.val (.int .i64)))], objs := [] }
def l_nat_N_Cmp_6X : Ann := { slots := [], objs := [] }
def l_nat_N_Cmp_6R : Ann := { slots := [(4, .one (.val (.int .i64)))], objs := [] }
def l_nat_N_Cmp_6 : Nat → List Int → List Int → Int → Option (LR l_nat_N_Cmp_6X l_nat_N_Cmp_6R)
  | 0, _, _, _ => none
  | m + 1, s0, s1, s5 =>
    if decide (s5 ≥ 0) = true then
      if (0 : Int) ≤ s5 then
        if s5 < s0.length then
          if (0 : Int) ≤ s5 then
            if s5 < s1.length then
              if decide (s0.getD s5.toNat 0 < s1.getD s5.toNat 0) = true then
                some (.ret ((-1), ()))
              else
                if (0 : Int) ≤ s5 then
                  if s5 < s0.length then
                    if (0 : Int) ≤ s5 then
                      if s5 < s1.length then
                        if decide (s0.getD s5.toNat 0 > s1.getD s5.toNat 0) = true then
                          some (.ret (1, ()))
                        else
                          l_nat_N_Cmp_6 m s0 s1 (IntKind.i64.wrap (s5 - 1))
                      else none
                    else none
                  else none
                else none
            else none
          else none
        else none
      else none
    else
      some (.exit ())
def l_nat_N_Cmp_6L : LSpec := { h := l_nat_N_Cmp_6H, x := l_nat_N_Cmp_6X, r := l_nat_N_Cmp_6R, xid := 0, rt := true, pins := [], f := fun k d => l_nat_N_Cmp_6 k d.1 d.2.1 d.2.2.1 }
def LL_nat_N_Cmp : Loops := [([62], [(6, l_nat_N_Cmp_6L)])]
def f_nat_N_Cmp (k : Nat) (a0 : List Int) (a1 : List Int) : Option (Int) :=
  if ((a0.length : Int) != (a1.length : Int)) = true then
    if decide ((a0.length : Int) < (a1.length : Int)) = true then
      some (-1)
    else
      some 1
  else
    match l_nat_N_Cmp_6 k a0 a1 (IntKind.i64.wrap ((a0.length : Int) - 1)) with
    | none => none
    | some (.exit d1) =>
      some 0
    | some (.ret d1) =>
      some d1.1
theorem l_nat_N_Cmp_6_step (m : Nat) (d : dens l_nat_N_Cmp_6H.tys) : l_nat_N_Cmp_6L.f (m + 1) d = round E_nat_N_Cmp LL_nat_N_Cmp m [62] 43 (loopN (bodyOf Tryd.f62) 0) l_nat_N_Cmp_6L (l_nat_N_Cmp_6L.f m) d := by kernel_rfl
theorem f_nat_N_Cmp_run (k : Nat) (x : denL [.slice (.int .u32), .slice (.int .u32)]) : runFn E_nat_N_Cmp LL_nat_N_Cmp k 62 Tryd.f62 [.slice (.int .u32), .slice (.int .u32)] [.imm (.int .i64)] x = f_nat_N_Cmp k x.1 x.2 := by kernel_rfl
noncomputable def S_nat_N_Cmp : Vm.Spec := { ps := [.slice (.int .u32), .slice (.int .u32)], rs := [.imm (.int .i64)], f := fun x => f_nat_N_Cmp fuel x.1 x.2 }
theorem f_nat_N_Cmp_holds : Vm.Spec.holds Tryd.prog 62 S_nat_N_Cmp := by
  have hB : BodiesOk Tryd.prog E_nat_N_Cmp := bodies_none rfl
  have hBS : BodiesStepped E_nat_N_Cmp LL_nat_N_Cmp := bodies_stepped_none rfl
  have hS : SpecsOk Tryd.prog E_nat_N_Cmp := specs_ok (by exact trivial)
  have hE : EOk Tryd.prog E_nat_N_Cmp := eok_te ok
  exact fn_sound (L := LL_nat_N_Cmp) hE hS hB (draws_ok hE hS (by kernel_rfl)) hBS (fn := Tryd.f62) (by kernel_rfl) (c := bodyOf Tryd.f62) (by kernel_rfl) (stepped_of (ls := [(6, l_nat_N_Cmp_6L)]) rfl rfl ⟨by kernel_rfl, fun _ => rfl, l_nat_N_Cmp_6_step, stepsI_end (by kernel_rfl)⟩) fun x r h => ⟨fuel, (f_nat_N_Cmp_run fuel x).trans h⟩

/-! gamehall/nat.Of -/
noncomputable def E_nat_Of : Env := { te := te, spec := [], body := [] }
def l_nat_Of_2H : Ann := { slots := [(0, .one (.val (.int .i64))), (3, .one (.own 44 (.int .u32)))], objs := [(44, .buf (.int .u32))] }
def l_nat_Of_2X : Ann := { slots := [(3, .one (.own 44 (.int .u32)))], objs := [(44, .buf (.int .u32))] }
def l_nat_Of_2R : Ann := { slots := [], objs := [] }
def l_nat_Of_2 : Nat → Int → List Int → Option (LR l_nat_Of_2X l_nat_Of_2R)
  | 0, _, _ => none
  | m + 1, s0, b44 =>
    if decide (s0 > 0) = true then
      if (b44.length + 1) * 4 ≤ 140737488355328 then
        l_nat_Of_2 m (IntKind.i64.wrap (s0.tdiv 1000000000)) (b44 ++ [IntKind.u32.wrap (s0.tmod 1000000000)])
      else none
    else
      some (.exit (b44, ()))
def l_nat_Of_2L : LSpec := { h := l_nat_Of_2H, x := l_nat_Of_2X, r := l_nat_Of_2R, xid := 0, rt := false, pins := [], f := fun k d => l_nat_Of_2 k d.1 d.2.1 }
def LL_nat_Of : Loops := [([64], [(2, l_nat_Of_2L)])]
def f_nat_Of (k : Nat) (a0 : Int) : Option (List Int) :=
  match l_nat_Of_2 k a0 [] with
  | none => none
  | some (.exit d1) =>
    some d1.1
  | some (.ret d1) =>
    none
theorem l_nat_Of_2_step (m : Nat) (d : dens l_nat_Of_2H.tys) : l_nat_Of_2L.f (m + 1) d = round E_nat_Of LL_nat_Of m [64] 15 (loopN (bodyOf Tryd.f64) 0) l_nat_Of_2L (l_nat_Of_2L.f m) d := by kernel_rfl
theorem f_nat_Of_run (k : Nat) (x : denL [.int .i64]) : runFn E_nat_Of LL_nat_Of k 64 Tryd.f64 [.int .i64] [.fresh (.int .u32)] x = f_nat_Of k x := by kernel_rfl
noncomputable def S_nat_Of : Vm.Spec := { ps := [.int .i64], rs := [.fresh (.int .u32)], f := fun x => f_nat_Of fuel x }
theorem f_nat_Of_holds : Vm.Spec.holds Tryd.prog 64 S_nat_Of := by
  have hB : BodiesOk Tryd.prog E_nat_Of := bodies_none rfl
  have hBS : BodiesStepped E_nat_Of LL_nat_Of := bodies_stepped_none rfl
  have hS : SpecsOk Tryd.prog E_nat_Of := specs_ok (by exact trivial)
  have hE : EOk Tryd.prog E_nat_Of := eok_te ok
  exact fn_sound (L := LL_nat_Of) hE hS hB (draws_ok hE hS (by kernel_rfl)) hBS (fn := Tryd.f64) (by kernel_rfl) (c := bodyOf Tryd.f64) (by kernel_rfl) (stepped_of (ls := [(2, l_nat_Of_2L)]) rfl rfl ⟨by kernel_rfl, fun _ => rfl, l_nat_Of_2_step, stepsI_end (by kernel_rfl)⟩) fun x r h => ⟨fuel, (f_nat_Of_run fuel x).trans h⟩

/-! internal/stringslite.HasPrefix -/
noncomputable def E_stringslite_HasPrefix : Env := { te := te, spec := [], body := [] }
def LL_stringslite_HasPrefix : Loops := []
def f_stringslite_HasPrefix (k : Nat) (a0 : ByteArray) (a1 : ByteArray) : Option (Bool) :=
  if decide ((a0.size : Int) ≥ (a1.size : Int)) = true then
    if (0 : Int) ≤ (a1.size : Int) then
      if (a1.size : Int) ≤ a0.size then
        some (((a0.extract 0 (a1.size : Int).toNat).toList == a1.toList))
      else none
    else none
  else
    some false
theorem f_stringslite_HasPrefix_run (k : Nat) (x : denL [.str, .str]) : runFn E_stringslite_HasPrefix LL_stringslite_HasPrefix k 83 Tryd.f83 [.str, .str] [.imm .bool] x = f_stringslite_HasPrefix k x.1 x.2 := by kernel_rfl
noncomputable def S_stringslite_HasPrefix : Vm.Spec := { ps := [.str, .str], rs := [.imm .bool], f := fun x => f_stringslite_HasPrefix fuel x.1 x.2 }
theorem f_stringslite_HasPrefix_holds : Vm.Spec.holds Tryd.prog 83 S_stringslite_HasPrefix := by
  have hB : BodiesOk Tryd.prog E_stringslite_HasPrefix := bodies_none rfl
  have hBS : BodiesStepped E_stringslite_HasPrefix LL_stringslite_HasPrefix := bodies_stepped_none rfl
  have hS : SpecsOk Tryd.prog E_stringslite_HasPrefix := specs_ok (by exact trivial)
  have hE : EOk Tryd.prog E_stringslite_HasPrefix := eok_te ok
  exact fn_sound (L := LL_stringslite_HasPrefix) hE hS hB (draws_ok hE hS (by kernel_rfl)) hBS (fn := Tryd.f83) (by kernel_rfl) (c := bodyOf Tryd.f83) (by kernel_rfl) (stepped_none rfl) fun x r h => ⟨fuel, (f_stringslite_HasPrefix_run fuel x).trans h⟩

/-! internal/stringslite.CutPrefix -/
noncomputable def E_stringslite_CutPrefix : Env := { te := te, spec := [(83, S_stringslite_HasPrefix)], body := [] }
def LL_stringslite_CutPrefix : Loops := []
def f_stringslite_CutPrefix (k : Nat) (a0 : ByteArray) (a1 : ByteArray) : Option (ByteArray × Bool) :=
  (f_stringslite_HasPrefix fuel a0 a1).bind fun r1 =>
  if (!r1) = true then
    some (a0, false)
  else
    if (0 : Int) ≤ (a1.size : Int) then
      if (a1.size : Int) ≤ a0.size then
        some (a0.extract (a1.size : Int).toNat a0.size, true)
      else none
    else none
theorem f_stringslite_CutPrefix_run (k : Nat) (x : denL [.str, .str]) : runFn E_stringslite_CutPrefix LL_stringslite_CutPrefix k 77 Tryd.f77 [.str, .str] [.imm .str, .imm .bool] x = f_stringslite_CutPrefix k x.1 x.2 := by kernel_rfl
noncomputable def S_stringslite_CutPrefix : Vm.Spec := { ps := [.str, .str], rs := [.imm .str, .imm .bool], f := fun x => f_stringslite_CutPrefix fuel x.1 x.2 }
theorem f_stringslite_CutPrefix_holds : Vm.Spec.holds Tryd.prog 77 S_stringslite_CutPrefix := by
  have hB : BodiesOk Tryd.prog E_stringslite_CutPrefix := bodies_none rfl
  have hBS : BodiesStepped E_stringslite_CutPrefix LL_stringslite_CutPrefix := bodies_stepped_none rfl
  have hS : SpecsOk Tryd.prog E_stringslite_CutPrefix := specs_ok (by exact ⟨⟨by kernel_rfl, f_stringslite_HasPrefix_holds⟩, trivial⟩)
  have hE : EOk Tryd.prog E_stringslite_CutPrefix := eok_te ok
  exact fn_sound (L := LL_stringslite_CutPrefix) hE hS hB (draws_ok hE hS (by kernel_rfl)) hBS (fn := Tryd.f77) (by kernel_rfl) (c := bodyOf Tryd.f77) (by kernel_rfl) (stepped_none rfl) fun x r h => ⟨fuel, (f_stringslite_CutPrefix_run fuel x).trans h⟩

/-! strings.CutPrefix -/
noncomputable def E_strings_CutPrefix : Env := { te := te, spec := [(77, S_stringslite_CutPrefix)], body := [] }
def LL_strings_CutPrefix : Loops := []
def f_strings_CutPrefix (k : Nat) (a0 : ByteArray) (a1 : ByteArray) : Option (ByteArray × Bool) :=
  (f_stringslite_CutPrefix fuel a0 a1).bind fun r1 =>
  some (r1.1, r1.2)
theorem f_strings_CutPrefix_run (k : Nat) (x : denL [.str, .str]) : runFn E_strings_CutPrefix LL_strings_CutPrefix k 66 Tryd.f66 [.str, .str] [.imm .str, .imm .bool] x = f_strings_CutPrefix k x.1 x.2 := by kernel_rfl
noncomputable def S_strings_CutPrefix : Vm.Spec := { ps := [.str, .str], rs := [.imm .str, .imm .bool], f := fun x => f_strings_CutPrefix fuel x.1 x.2 }
theorem f_strings_CutPrefix_holds : Vm.Spec.holds Tryd.prog 66 S_strings_CutPrefix := by
  have hB : BodiesOk Tryd.prog E_strings_CutPrefix := bodies_none rfl
  have hBS : BodiesStepped E_strings_CutPrefix LL_strings_CutPrefix := bodies_stepped_none rfl
  have hS : SpecsOk Tryd.prog E_strings_CutPrefix := specs_ok (by exact ⟨⟨by kernel_rfl, f_stringslite_CutPrefix_holds⟩, trivial⟩)
  have hE : EOk Tryd.prog E_strings_CutPrefix := eok_te ok
  exact fn_sound (L := LL_strings_CutPrefix) hE hS hB (draws_ok hE hS (by kernel_rfl)) hBS (fn := Tryd.f66) (by kernel_rfl) (c := bodyOf Tryd.f66) (by kernel_rfl) (stepped_none rfl) fun x r h => ⟨fuel, (f_strings_CutPrefix_run fuel x).trans h⟩

/-! internal/stringslite.Cut -/
noncomputable def E_stringslite_Cut : Env := { te := te, spec := [(84, Vm.sIndex)], body := [] }
def LL_stringslite_Cut : Loops := []
def f_stringslite_Cut (k : Nat) (a0 : ByteArray) (a1 : ByteArray) : Option (ByteArray × ByteArray × Bool) :=
  (Vm.stdIndex a0 a1).bind fun r1 =>
  if decide (r1 ≥ 0) = true then
    if (0 : Int) ≤ r1 then
      if r1 ≤ a0.size then
        if (0 : Int) ≤ IntKind.i64.wrap (r1 + (a1.size : Int)) then
          if IntKind.i64.wrap (r1 + (a1.size : Int)) ≤ a0.size then
            some (a0.extract 0 r1.toNat, a0.extract (IntKind.i64.wrap (r1 + (a1.size : Int))).toNat a0.size, true)
          else none
        else none
      else none
    else none
  else
    some (a0, (⟨#[]⟩ : ByteArray), false)
theorem f_stringslite_Cut_run (k : Nat) (x : denL [.str, .str]) : runFn E_stringslite_Cut LL_stringslite_Cut k 78 Tryd.f78 [.str, .str] [.imm .str, .imm .str, .imm .bool] x = f_stringslite_Cut k x.1 x.2 := by kernel_rfl
noncomputable def S_stringslite_Cut : Vm.Spec := { ps := [.str, .str], rs := [.imm .str, .imm .str, .imm .bool], f := fun x => f_stringslite_Cut fuel x.1 x.2 }
theorem f_stringslite_Cut_holds : Vm.Spec.holds Tryd.prog 78 S_stringslite_Cut := by
  have hB : BodiesOk Tryd.prog E_stringslite_Cut := bodies_none rfl
  have hBS : BodiesStepped E_stringslite_Cut LL_stringslite_Cut := bodies_stepped_none rfl
  have hS : SpecsOk Tryd.prog E_stringslite_Cut := specs_ok (by exact ⟨⟨by kernel_rfl, g84_holds⟩, trivial⟩)
  have hE : EOk Tryd.prog E_stringslite_Cut := eok_te ok
  exact fn_sound (L := LL_stringslite_Cut) hE hS hB (draws_ok hE hS (by kernel_rfl)) hBS (fn := Tryd.f78) (by kernel_rfl) (c := bodyOf Tryd.f78) (by kernel_rfl) (stepped_none rfl) fun x r h => ⟨fuel, (f_stringslite_Cut_run fuel x).trans h⟩

/-! strings.Cut -/
noncomputable def E_strings_Cut : Env := { te := te, spec := [(78, S_stringslite_Cut)], body := [] }
def LL_strings_Cut : Loops := []
def f_strings_Cut (k : Nat) (a0 : ByteArray) (a1 : ByteArray) : Option (ByteArray × ByteArray × Bool) :=
  (f_stringslite_Cut fuel a0 a1).bind fun r1 =>
  some (r1.1, r1.2.1, r1.2.2)
theorem f_strings_Cut_run (k : Nat) (x : denL [.str, .str]) : runFn E_strings_Cut LL_strings_Cut k 67 Tryd.f67 [.str, .str] [.imm .str, .imm .str, .imm .bool] x = f_strings_Cut k x.1 x.2 := by kernel_rfl
noncomputable def S_strings_Cut : Vm.Spec := { ps := [.str, .str], rs := [.imm .str, .imm .str, .imm .bool], f := fun x => f_strings_Cut fuel x.1 x.2 }
theorem f_strings_Cut_holds : Vm.Spec.holds Tryd.prog 67 S_strings_Cut := by
  have hB : BodiesOk Tryd.prog E_strings_Cut := bodies_none rfl
  have hBS : BodiesStepped E_strings_Cut LL_strings_Cut := bodies_stepped_none rfl
  have hS : SpecsOk Tryd.prog E_strings_Cut := specs_ok (by exact ⟨⟨by kernel_rfl, f_stringslite_Cut_holds⟩, trivial⟩)
  have hE : EOk Tryd.prog E_strings_Cut := eok_te ok
  exact fn_sound (L := LL_strings_Cut) hE hS hB (draws_ok hE hS (by kernel_rfl)) hBS (fn := Tryd.f67) (by kernel_rfl) (c := bodyOf Tryd.f67) (by kernel_rfl) (stepped_none rfl) fun x r h => ⟨fuel, (f_strings_Cut_run fuel x).trans h⟩

/-! gamehall/nat.Read -/
noncomputable def E_nat_Read : Env := { te := te, spec := [], body := [(75, Tryd.f75)] }
def l_nat_Read_7H : Ann := { slots := [(5, .one (.val (.int .u32))), (20, .one (.val (.slice (.int .u8)))), (21, .one (.val (.int .i64))), (22, .one (.val (.int .i64)))], objs := [] }
def l_nat_Read_7X : Ann := { slots := [(5, .one (.val (.int .u32)))], objs := [] }
def l_nat_Read_7R : Ann := { slots := [], objs := [] }
def l_nat_Read_3H : Ann := { slots := [(0, .one (.val .str)), (3, .one (.own 144 (.int .u32))), (4, .one (.val (.int .i64)))], objs := [(144, .buf (.int .u32))] }
def l_nat_Read_3X : Ann := { slots := [(3, .one (.own 144 (.int .u32)))], objs := [(144, .buf (.int .u32))] }
def l_nat_Read_3R : Ann := { slots := [], objs := [] }
def l_nat_N_trim__nat_Read_1H : Ann := { slots := [(0, .one (.pre 148 (.int .u32)))], objs := [(148, .buf (.int .u32))] }
def l_nat_N_trim__nat_Read_1X : Ann := { slots := [(0, .one (.pre 148 (.int .u32)))], objs := [(148, .buf (.int .u32))] }
def l_nat_N_trim__nat_Read_1R : Ann := { slots := [], objs := [] }
def l_nat_Read_7 : Nat → Int → List Int → Int → Int → Option (LR l_nat_Read_7X l_nat_Read_7R)
  | 0, _, _, _, _ => none
  | m + 1, s5, s20, s21, s22 =>
    if decide (s22 < s21) = true then
      if (0 : Int) ≤ s22 then
        if s22 < s20.length then
          l_nat_Read_7 m (IntKind.u32.wrap ((IntKind.u32.wrap (s5 * 10)) + (IntKind.u32.wrap (IntKind.u8.wrap ((s20.getD s22.toNat 0) - 48))))) s20 s21 (IntKind.i64.wrap (s22 + 1))
        else none
      else none
    else
      some (.exit (s5, ()))
def l_nat_Read_7L : LSpec := { h := l_nat_Read_7H, x := l_nat_Read_7X, r := l_nat_Read_7R, xid := 2, rt := false, pins := [], f := fun k d => l_nat_Read_7 k d.1 d.2.1 d.2.2.1 d.2.2.2.1 }
def l_nat_Read_3 : Nat → ByteArray → Int → List Int → Option (LR l_nat_Read_3X l_nat_Read_3R)
  | 0, _, _, _ => none
  | m + 1, s0, s4, b144 =>
    if decide (s4 > 0) = true then
      if (0 : Int) ≤ s4 then
        if s4 ≤ s0.size then
          if (0 : Int) ≤ (if IntKind.i64.wrap (s4 - 9) > 0 then IntKind.i64.wrap (s4 - 9) else 0) then
            if (if IntKind.i64.wrap (s4 - 9) > 0 then IntKind.i64.wrap (s4 - 9) else 0) ≤ s4 then
              match l_nat_Read_7 m 0 ((s0.extract (if IntKind.i64.wrap (s4 - 9) > 0 then IntKind.i64.wrap (s4 - 9) else 0).toNat s4.toNat).data.toList.map fun c => (c.toNat : Int)) (((s0.extract (if IntKind.i64.wrap (s4 - 9) > 0 then IntKind.i64.wrap (s4 - 9) else 0).toNat s4.toNat).data.toList.map fun c => (c.toNat : Int)).length : Int) 0 with
              | none => none
              | some (.exit d1) =>
                if (b144.length + 1) * 4 ≤ 140737488355328 then
                  l_nat_Read_3 m s0 (IntKind.i64.wrap (s4 - 9)) (b144 ++ [d1.1])
                else none
              | some (.ret d1) =>
                none
            else none
          else none
        else none
      else none
    else
      some (.exit (b144, ()))
def l_nat_Read_3L : LSpec := { h := l_nat_Read_3H, x := l_nat_Read_3X, r := l_nat_Read_3R, xid := 0, rt := false, pins := [], f := fun k d => l_nat_Read_3 k d.1 d.2.1 d.2.2.1 }
def l_nat_N_trim__nat_Read_1 : Nat → Nat → List Int → Option (LR l_nat_N_trim__nat_Read_1X l_nat_N_trim__nat_Read_1R)
  | 0, _, _ => none
  | m + 1, s0, b148 =>
    if decide ((s0 : Int) > 0) = true then
      if (0 : Int) ≤ IntKind.i64.wrap ((s0 : Int) - 1) then
        if IntKind.i64.wrap ((s0 : Int) - 1) < s0 then
          if (b148.getD ((IntKind.i64.wrap ((s0 : Int) - 1)).toNat) 0 == 0) = true then
            if (0 : Int) ≤ IntKind.i64.wrap ((s0 : Int) - 1) then
              if IntKind.i64.wrap ((s0 : Int) - 1) ≤ s0 then
                l_nat_N_trim__nat_Read_1 m ((IntKind.i64.wrap ((s0 : Int) - 1)).toNat) b148
              else none
            else none
          else
            some (.exit (s0, b148, ()))
        else none
      else none
    else
      some (.exit (s0, b148, ()))
def l_nat_N_trim__nat_Read_1L : LSpec := { h := l_nat_N_trim__nat_Read_1H, x := l_nat_N_trim__nat_Read_1X, r := l_nat_N_trim__nat_Read_1R, xid := 0, rt := false, pins := [148], f := fun k d => l_nat_N_trim__nat_Read_1 k d.1 d.2.1 }
def LL_nat_Read : Loops := [([68], [(3, l_nat_Read_3L), (7, l_nat_Read_7L)]), ([75, 68], [(1, l_nat_N_trim__nat_Read_1L)])]
def f_nat_Read (k : Nat) (a0 : ByteArray) : Option (List Int) :=
  match l_nat_Read_3 k a0 (a0.size : Int) [] with
  | none => none
  | some (.exit d1) =>
    match l_nat_N_trim__nat_Read_1 k d1.1.length d1.1 with
    | none => none
    | some (.exit d2) =>
      some (d2.2.1.take d2.1)
    | some (.ret d2) =>
      none
  | some (.ret d1) =>
    none
theorem l_nat_Read_7_step (m : Nat) (d : dens l_nat_Read_7H.tys) : l_nat_Read_7L.f (m + 1) d = round E_nat_Read LL_nat_Read m [68] 39 (loopN (bodyOf Tryd.f68) 1) l_nat_Read_7L (l_nat_Read_7L.f m) d := by kernel_rfl
theorem l_nat_Read_3_step (m : Nat) (d : dens l_nat_Read_3H.tys) : l_nat_Read_3L.f (m + 1) d = round E_nat_Read LL_nat_Read m [68] 39 (loopN (bodyOf Tryd.f68) 0) l_nat_Read_3L (l_nat_Read_3L.f m) d := by kernel_rfl
theorem l_nat_N_trim__nat_Read_1_step (m : Nat) (d : dens l_nat_N_trim__nat_Read_1H.tys) : l_nat_N_trim__nat_Read_1L.f (m + 1) d = round E_nat_Read LL_nat_Read m [75, 68] 21 (loopN (bodyOf Tryd.f75) 0) l_nat_N_trim__nat_Read_1L (l_nat_N_trim__nat_Read_1L.f m) d := by kernel_rfl
theorem f_nat_Read_run (k : Nat) (x : denL [.str]) : runFn E_nat_Read LL_nat_Read k 68 Tryd.f68 [.str] [.fresh (.int .u32)] x = f_nat_Read k x := by kernel_rfl
noncomputable def S_nat_Read : Vm.Spec := { ps := [.str], rs := [.fresh (.int .u32)], f := fun x => f_nat_Read fuel x }
theorem f_nat_Read_holds : Vm.Spec.holds Tryd.prog 68 S_nat_Read := by
  have hB : BodiesOk Tryd.prog E_nat_Read := bodies_ok (by exact ⟨by kernel_rfl, by kernel_rfl, trivial⟩)
  have hBS : BodiesStepped E_nat_Read LL_nat_Read := by
    refine bodies_stepped ?_
    exact ⟨(stepped_paths [[68]] (by exact ⟨stepped_of (ls := [(1, l_nat_N_trim__nat_Read_1L)]) rfl rfl ⟨by kernel_rfl, fun _ => rfl, l_nat_N_trim__nat_Read_1_step, stepsI_end (by kernel_rfl)⟩,  trivial⟩) rfl),  trivial⟩
  have hS : SpecsOk Tryd.prog E_nat_Read := specs_ok (by exact trivial)
  have hE : EOk Tryd.prog E_nat_Read := eok_te ok
  exact fn_sound (L := LL_nat_Read) hE hS hB (draws_ok hE hS (by kernel_rfl)) hBS (fn := Tryd.f68) (by kernel_rfl) (c := bodyOf Tryd.f68) (by kernel_rfl) (stepped_of (ls := [(3, l_nat_Read_3L), (7, l_nat_Read_7L)]) rfl rfl ⟨by kernel_rfl, fun _ => rfl, l_nat_Read_3_step, by kernel_rfl, fun _ => rfl, l_nat_Read_7_step, stepsI_end (by kernel_rfl)⟩) fun x r h => ⟨fuel, (f_nat_Read_run fuel x).trans h⟩

/-! gamehall/nat.Check -/
noncomputable def E_nat_Check : Env := { te := te, spec := [], body := [] }
def l_nat_Check_4H : Ann := { slots := [(18, .one (.val (.slice (.int .u8)))), (19, .one (.val (.int .i64))), (20, .one (.val (.int .i64)))], objs := [] }
def l_nat_Check_4X : Ann := { slots := [], objs := [] }
def l_nat_Check_4R : Ann := { slots := [(2, .one (.val (.int .i64)))], objs := [] }
def l_nat_Check_4 : Nat → List Int → Int → Int → Option (LR l_nat_Check_4X l_nat_Check_4R)
  | 0, _, _, _ => none
  | m + 1, s18, s19, s20 =>
    if decide (s20 < s19) = true then
      if (0 : Int) ≤ s20 then
        if s20 < s18.length then
          if decide (s18.getD s20.toNat 0 < 48) = false then
            if decide (s18.getD s20.toNat 0 > 57) = true then
              some (.ret (5, ()))
            else
              l_nat_Check_4 m s18 s19 (IntKind.i64.wrap (s20 + 1))
          else
            some (.ret (5, ()))
        else none
      else none
    else
      some (.exit ())
def l_nat_Check_4L : LSpec := { h := l_nat_Check_4H, x := l_nat_Check_4X, r := l_nat_Check_4R, xid := 0, rt := true, pins := [], f := fun k d => l_nat_Check_4 k d.1 d.2.1 d.2.2.1 }
def LL_nat_Check : Loops := [([69], [(4, l_nat_Check_4L)])]
def f_nat_Check (k : Nat) (a0 : ByteArray) : Option (Int) :=
  if ((a0.toList == (⟨#[]⟩ : ByteArray).toList)) = false then
    if (0 : Int) < (a0.size : Int) then
      if (((a0.data.getD 0 0).toNat : Int) == 48) = true then
        if decide ((a0.size : Int) > 1) = true then
          some 5
        else
          match l_nat_Check_4 k (a0.data.toList.map fun c => (c.toNat : Int)) ((a0.data.toList.map fun c => (c.toNat : Int)).length : Int) 0 with
          | none => none
          | some (.exit d1) =>
            if decide ((a0.size : Int) > 2000) = true then
              some 2
            else
              some 0
          | some (.ret d1) =>
            some d1.1
      else
        match l_nat_Check_4 k (a0.data.toList.map fun c => (c.toNat : Int)) ((a0.data.toList.map fun c => (c.toNat : Int)).length : Int) 0 with
        | none => none
        | some (.exit d2) =>
          if decide ((a0.size : Int) > 2000) = true then
            some 2
          else
            some 0
        | some (.ret d2) =>
          some d2.1
    else none
  else
    some 5
theorem l_nat_Check_4_step (m : Nat) (d : dens l_nat_Check_4H.tys) : l_nat_Check_4L.f (m + 1) d = round E_nat_Check LL_nat_Check m [69] 34 (loopN (bodyOf Tryd.f69) 0) l_nat_Check_4L (l_nat_Check_4L.f m) d := by kernel_rfl
theorem f_nat_Check_run (k : Nat) (x : denL [.str]) : runFn E_nat_Check LL_nat_Check k 69 Tryd.f69 [.str] [.imm (.int .i64)] x = f_nat_Check k x := by kernel_rfl
noncomputable def S_nat_Check : Vm.Spec := { ps := [.str], rs := [.imm (.int .i64)], f := fun x => f_nat_Check fuel x }
theorem f_nat_Check_holds : Vm.Spec.holds Tryd.prog 69 S_nat_Check := by
  have hB : BodiesOk Tryd.prog E_nat_Check := bodies_none rfl
  have hBS : BodiesStepped E_nat_Check LL_nat_Check := bodies_stepped_none rfl
  have hS : SpecsOk Tryd.prog E_nat_Check := specs_ok (by exact trivial)
  have hE : EOk Tryd.prog E_nat_Check := eok_te ok
  exact fn_sound (L := LL_nat_Check) hE hS hB (draws_ok hE hS (by kernel_rfl)) hBS (fn := Tryd.f69) (by kernel_rfl) (c := bodyOf Tryd.f69) (by kernel_rfl) (stepped_of (ls := [(4, l_nat_Check_4L)]) rfl rfl ⟨by kernel_rfl, fun _ => rfl, l_nat_Check_4_step, stepsI_end (by kernel_rfl)⟩) fun x r h => ⟨fuel, (f_nat_Check_run fuel x).trans h⟩

/-! (gamehall/nat.N).Mul -/
noncomputable def E_nat_N_Mul : Env := { te := te, spec := [], body := [(75, Tryd.f75)] }
def l_nat_N_Mul_7H : Ann := { slots := [(5, .one (.own 68 (.int .u32))), (6, .one (.val (.int .i64))), (7, .one (.val (.int .u32))), (8, .one (.val (.int .u64))), (25, .one (.val (.slice (.int .u32)))), (26, .one (.val (.int .i64))), (27, .one (.val (.int .i64)))], objs := [(68, .buf (.int .u32))] }
def l_nat_N_Mul_7X : Ann := { slots := [(5, .one (.own 68 (.int .u32))), (8, .one (.val (.int .u64)))], objs := [(68, .buf (.int .u32))] }
def l_nat_N_Mul_7R : Ann := { slots := [], objs := [] }
def l_nat_N_Mul_3H : Ann := { slots := [(1, .one (.val (.slice (.int .u32)))), (5, .one (.own 68 (.int .u32))), (18, .one (.val (.slice (.int .u32)))), (19, .one (.val (.int .i64))), (20, .one (.val (.int .i64)))], objs := [(68, .buf (.int .u32))] }
def l_nat_N_Mul_3X : Ann := { slots := [(5, .one (.own 68 (.int .u32)))], objs := [(68, .buf (.int .u32))] }
def l_nat_N_Mul_3R : Ann := { slots := [], objs := [] }
def l_nat_N_trim__nat_N_Mul_1H : Ann := { slots := [(0, .one (.pre 68 (.int .u32)))], objs := [(68, .buf (.int .u32))] }
def l_nat_N_trim__nat_N_Mul_1X : Ann := { slots := [(0, .one (.pre 68 (.int .u32)))], objs := [(68, .buf (.int .u32))] }
def l_nat_N_trim__nat_N_Mul_1R : Ann := { slots := [], objs := [] }
def l_nat_N_Mul_7 : Nat → Int → Int → Int → List Int → Int → Int → List Int → Option (LR l_nat_N_Mul_7X l_nat_N_Mul_7R)
  | 0, _, _, _, _, _, _, _ => none
  | m + 1, s6, s7, s8, s25, s26, s27, b68 =>
    if decide (s27 < s26) = true then
      if (0 : Int) ≤ s27 then
        if s27 < s25.length then
          if (0 : Int) ≤ IntKind.i64.wrap (s6 + s27) then
            if IntKind.i64.wrap (s6 + s27) < b68.length then
              if (0 : Int) ≤ IntKind.i64.wrap (s6 + s27) then
                if IntKind.i64.wrap (s6 + s27) < b68.length then
                  l_nat_N_Mul_7 m s6 s7 (IntKind.u64.wrap ((IntKind.u64.wrap ((IntKind.u64.wrap ((IntKind.u64.wrap ((IntKind.u64.wrap (s7)) * (IntKind.u64.wrap (s25.getD s27.toNat 0)))) + (IntKind.u64.wrap (b68.getD ((IntKind.i64.wrap (s6 + s27)).toNat) 0)))) + s8)).tdiv 1000000000)) s25 s26 (IntKind.i64.wrap (s27 + 1)) (b68.set ((IntKind.i64.wrap (s6 + s27)).toNat) (IntKind.u32.wrap ((IntKind.u64.wrap ((IntKind.u64.wrap ((IntKind.u64.wrap ((IntKind.u64.wrap (s7)) * (IntKind.u64.wrap (s25.getD s27.toNat 0)))) + (IntKind.u64.wrap (b68.getD ((IntKind.i64.wrap (s6 + s27)).toNat) 0)))) + s8)).tmod 1000000000)))
                else none
              else none
            else none
          else none
        else none
      else none
    else
      some (.exit (s8, b68, ()))
def l_nat_N_Mul_7L : LSpec := { h := l_nat_N_Mul_7H, x := l_nat_N_Mul_7X, r := l_nat_N_Mul_7R, xid := 2, rt := false, pins := [68], f := fun k d => l_nat_N_Mul_7 k d.1 d.2.1 d.2.2.1 d.2.2.2.1 d.2.2.2.2.1 d.2.2.2.2.2.1 d.2.2.2.2.2.2.1 }
def l_nat_N_Mul_3 : Nat → List Int → List Int → Int → Int → List Int → Option (LR l_nat_N_Mul_3X l_nat_N_Mul_3R)
  | 0, _, _, _, _, _ => none
  | m + 1, s1, s18, s19, s20, b68 =>
    if decide (s20 < s19) = true then
      if (0 : Int) ≤ s20 then
        if s20 < s18.length then
          match l_nat_N_Mul_7 m s20 (s18.getD s20.toNat 0) 0 s1 (s1.length : Int) 0 b68 with
          | none => none
          | some (.exit d1) =>
            if (0 : Int) ≤ IntKind.i64.wrap (s20 + (s1.length : Int)) then
              if IntKind.i64.wrap (s20 + (s1.length : Int)) < d1.2.1.length then
                l_nat_N_Mul_3 m s1 s18 s19 (IntKind.i64.wrap (s20 + 1)) (d1.2.1.set ((IntKind.i64.wrap (s20 + (s1.length : Int))).toNat) (IntKind.u32.wrap (d1.1)))
              else none
            else none
          | some (.ret d1) =>
            none
        else none
      else none
    else
      some (.exit (b68, ()))
def l_nat_N_Mul_3L : LSpec := { h := l_nat_N_Mul_3H, x := l_nat_N_Mul_3X, r := l_nat_N_Mul_3R, xid := 0, rt := false, pins := [68], f := fun k d => l_nat_N_Mul_3 k d.1 d.2.1 d.2.2.1 d.2.2.2.1 d.2.2.2.2.1 }
def l_nat_N_trim__nat_N_Mul_1 : Nat → Nat → List Int → Option (LR l_nat_N_trim__nat_N_Mul_1X l_nat_N_trim__nat_N_Mul_1R)
  | 0, _, _ => none
  | m + 1, s0, b68 =>
    if decide ((s0 : Int) > 0) = true then
      if (0 : Int) ≤ IntKind.i64.wrap ((s0 : Int) - 1) then
        if IntKind.i64.wrap ((s0 : Int) - 1) < s0 then
          if (b68.getD ((IntKind.i64.wrap ((s0 : Int) - 1)).toNat) 0 == 0) = true then
            if (0 : Int) ≤ IntKind.i64.wrap ((s0 : Int) - 1) then
              if IntKind.i64.wrap ((s0 : Int) - 1) ≤ s0 then
                l_nat_N_trim__nat_N_Mul_1 m ((IntKind.i64.wrap ((s0 : Int) - 1)).toNat) b68
              else none
            else none
          else
            some (.exit (s0, b68, ()))
        else none
      else none
    else
      some (.exit (s0, b68, ()))
def l_nat_N_trim__nat_N_Mul_1L : LSpec := { h := l_nat_N_trim__nat_N_Mul_1H, x := l_nat_N_trim__nat_N_Mul_1X, r := l_nat_N_trim__nat_N_Mul_1R, xid := 0, rt := false, pins := [68], f := fun k d => l_nat_N_trim__nat_N_Mul_1 k d.1 d.2.1 }
def LL_nat_N_Mul : Loops := [([59], [(3, l_nat_N_Mul_3L), (7, l_nat_N_Mul_7L)]), ([75, 59], [(1, l_nat_N_trim__nat_N_Mul_1L)])]
def f_nat_N_Mul (k : Nat) (a0 : List Int) (a1 : List Int) : Option (List Int) :=
  if (0 : Int) ≤ IntKind.i64.wrap ((a0.length : Int) + (a1.length : Int)) then
    if IntKind.i64.wrap ((a0.length : Int) + (a1.length : Int)) ≤ IntKind.i64.wrap ((a0.length : Int) + (a1.length : Int)) then
      if (IntKind.i64.wrap ((a0.length : Int) + (a1.length : Int))) * 4 ≤ 281474976710656 then
        match l_nat_N_Mul_3 k a1 a0 (a0.length : Int) 0 (List.replicate ((IntKind.i64.wrap ((a0.length : Int) + (a1.length : Int))).toNat) 0) with
        | none => none
        | some (.exit d1) =>
          match l_nat_N_trim__nat_N_Mul_1 k d1.1.length d1.1 with
          | none => none
          | some (.exit d2) =>
            some (d2.2.1.take d2.1)
          | some (.ret d2) =>
            none
        | some (.ret d1) =>
          none
      else none
    else none
  else none
theorem l_nat_N_Mul_7_step (m : Nat) (d : dens l_nat_N_Mul_7H.tys) : l_nat_N_Mul_7L.f (m + 1) d = round E_nat_N_Mul LL_nat_N_Mul m [59] 69 (loopN (bodyOf Tryd.f59) 1) l_nat_N_Mul_7L (l_nat_N_Mul_7L.f m) d := by kernel_rfl
theorem l_nat_N_Mul_3_step (m : Nat) (d : dens l_nat_N_Mul_3H.tys) : l_nat_N_Mul_3L.f (m + 1) d = round E_nat_N_Mul LL_nat_N_Mul m [59] 69 (loopN (bodyOf Tryd.f59) 0) l_nat_N_Mul_3L (l_nat_N_Mul_3L.f m) d := by kernel_rfl
theorem l_nat_N_trim__nat_N_Mul_1_step (m : Nat) (d : dens l_nat_N_trim__nat_N_Mul_1H.tys) : l_nat_N_trim__nat_N_Mul_1L.f (m + 1) d = round E_nat_N_Mul LL_nat_N_Mul m [75, 59] 21 (loopN (bodyOf Tryd.f75) 0) l_nat_N_trim__nat_N_Mul_1L (l_nat_N_trim__nat_N_Mul_1L.f m) d := by kernel_rfl
theorem f_nat_N_Mul_run (k : Nat) (x : denL [.slice (.int .u32), .slice (.int .u32)]) : runFn E_nat_N_Mul LL_nat_N_Mul k 59 Tryd.f59 [.slice (.int .u32), .slice (.int .u32)] [.fresh (.int .u32)] x = f_nat_N_Mul k x.1 x.2 := by kernel_rfl
noncomputable def S_nat_N_Mul : Vm.Spec := { ps := [.slice (.int .u32), .slice (.int .u32)], rs := [.fresh (.int .u32)], f := fun x => f_nat_N_Mul fuel x.1 x.2 }
theorem f_nat_N_Mul_holds : Vm.Spec.holds Tryd.prog 59 S_nat_N_Mul := by
  have hB : BodiesOk Tryd.prog E_nat_N_Mul := bodies_ok (by exact ⟨by kernel_rfl, by kernel_rfl, trivial⟩)
  have hBS : BodiesStepped E_nat_N_Mul LL_nat_N_Mul := by
    refine bodies_stepped ?_
    exact ⟨(stepped_paths [[59]] (by exact ⟨stepped_of (ls := [(1, l_nat_N_trim__nat_N_Mul_1L)]) rfl rfl ⟨by kernel_rfl, fun _ => rfl, l_nat_N_trim__nat_N_Mul_1_step, stepsI_end (by kernel_rfl)⟩,  trivial⟩) rfl),  trivial⟩
  have hS : SpecsOk Tryd.prog E_nat_N_Mul := specs_ok (by exact trivial)
  have hE : EOk Tryd.prog E_nat_N_Mul := eok_te ok
  exact fn_sound (L := LL_nat_N_Mul) hE hS hB (draws_ok hE hS (by kernel_rfl)) hBS (fn := Tryd.f59) (by kernel_rfl) (c := bodyOf Tryd.f59) (by kernel_rfl) (stepped_of (ls := [(3, l_nat_N_Mul_3L), (7, l_nat_N_Mul_7L)]) rfl rfl ⟨by kernel_rfl, fun _ => rfl, l_nat_N_Mul_3_step, by kernel_rfl, fun _ => rfl, l_nat_N_Mul_7_step, stepsI_end (by kernel_rfl)⟩) fun x r h => ⟨fuel, (f_nat_N_Mul_run fuel x).trans h⟩

/-! (gamehall/nat.N).Sub -/
noncomputable def E_nat_N_Sub : Env := { te := te, spec := [], body := [(75, Tryd.f75)] }
def l_nat_N_Sub_4H : Ann := { slots := [(0, .one (.val (.slice (.int .u32)))), (1, .one (.val (.slice (.int .u32)))), (5, .one (.own 44 (.int .u32))), (6, .one (.val (.int .i64))), (13, .one (.val (.int .i64))), (14, .one (.val (.int .i64)))], objs := [(44, .buf (.int .u32))] }
def l_nat_N_Sub_4X : Ann := { slots := [(5, .one (.own 44 (.int .u32)))], objs := [(44, .buf (.int .u32))] }
def l_nat_N_Sub_4R : Ann := { slots := [], objs := [] }
def l_nat_N_trim__nat_N_Sub_1H : Ann := { slots := [(0, .one (.pre 44 (.int .u32)))], objs := [(44, .buf (.int .u32))] }
def l_nat_N_trim__nat_N_Sub_1X : Ann := { slots := [(0, .one (.pre 44 (.int .u32)))], objs := [(44, .buf (.int .u32))] }
def l_nat_N_trim__nat_N_Sub_1R : Ann := { slots := [], objs := [] }
def l_nat_N_Sub_4 : Nat → List Int → List Int → Int → Int → Int → List Int → Option (LR l_nat_N_Sub_4X l_nat_N_Sub_4R)
  | 0, _, _, _, _, _, _ => none
  | m + 1, s0, s1, s6, s13, s14, b44 =>
    if decide (s14 < s13) = true then
      if (0 : Int) ≤ s14 then
        if s14 < s0.length then
          if decide (s14 < (s1.length : Int)) = true then
            if (0 : Int) ≤ s14 then
              if s14 < s1.length then
                if decide (IntKind.i64.wrap ((IntKind.i64.wrap ((IntKind.i64.wrap (s0.getD s14.toNat 0)) - s6)) - (IntKind.i64.wrap (s1.getD s14.toNat 0))) < 0) = true then
                  if (0 : Int) ≤ s14 then
                    if s14 < b44.length then
                      l_nat_N_Sub_4 m s0 s1 1 s13 (IntKind.i64.wrap (s14 + 1)) (b44.set s14.toNat (IntKind.u32.wrap (IntKind.i64.wrap ((IntKind.i64.wrap ((IntKind.i64.wrap ((IntKind.i64.wrap (s0.getD s14.toNat 0)) - s6)) - (IntKind.i64.wrap (s1.getD s14.toNat 0)))) + 1000000000))))
                    else none
                  else none
                else
                  if (0 : Int) ≤ s14 then
                    if s14 < b44.length then
                      l_nat_N_Sub_4 m s0 s1 0 s13 (IntKind.i64.wrap (s14 + 1)) (b44.set s14.toNat (IntKind.u32.wrap (IntKind.i64.wrap ((IntKind.i64.wrap ((IntKind.i64.wrap (s0.getD s14.toNat 0)) - s6)) - (IntKind.i64.wrap (s1.getD s14.toNat 0))))))
                    else none
                  else none
              else none
            else none
          else
            if decide (IntKind.i64.wrap ((IntKind.i64.wrap (s0.getD s14.toNat 0)) - s6) < 0) = true then
              if (0 : Int) ≤ s14 then
                if s14 < b44.length then
                  l_nat_N_Sub_4 m s0 s1 1 s13 (IntKind.i64.wrap (s14 + 1)) (b44.set s14.toNat (IntKind.u32.wrap (IntKind.i64.wrap ((IntKind.i64.wrap ((IntKind.i64.wrap (s0.getD s14.toNat 0)) - s6)) + 1000000000))))
                else none
              else none
            else
              if (0 : Int) ≤ s14 then
                if s14 < b44.length then
                  l_nat_N_Sub_4 m s0 s1 0 s13 (IntKind.i64.wrap (s14 + 1)) (b44.set s14.toNat (IntKind.u32.wrap (IntKind.i64.wrap ((IntKind.i64.wrap (s0.getD s14.toNat 0)) - s6))))
                else none
              else none
        else none
      else none
    else
      some (.exit (b44, ()))
def l_nat_N_Sub_4L : LSpec := { h := l_nat_N_Sub_4H, x := l_nat_N_Sub_4X, r := l_nat_N_Sub_4R, xid := 0, rt := false, pins := [44], f := fun k d => l_nat_N_Sub_4 k d.1 d.2.1 d.2.2.1 d.2.2.2.1 d.2.2.2.2.1 d.2.2.2.2.2.1 }
def l_nat_N_trim__nat_N_Sub_1 : Nat → Nat → List Int → Option (LR l_nat_N_trim__nat_N_Sub_1X l_nat_N_trim__nat_N_Sub_1R)
  | 0, _, _ => none
  | m + 1, s0, b44 =>
    if decide ((s0 : Int) > 0) = true then
      if (0 : Int) ≤ IntKind.i64.wrap ((s0 : Int) - 1) then
        if IntKind.i64.wrap ((s0 : Int) - 1) < s0 then
          if (b44.getD ((IntKind.i64.wrap ((s0 : Int) - 1)).toNat) 0 == 0) = true then
            if (0 : Int) ≤ IntKind.i64.wrap ((s0 : Int) - 1) then
              if IntKind.i64.wrap ((s0 : Int) - 1) ≤ s0 then
                l_nat_N_trim__nat_N_Sub_1 m ((IntKind.i64.wrap ((s0 : Int) - 1)).toNat) b44
              else none
            else none
          else
            some (.exit (s0, b44, ()))
        else none
      else none
    else
      some (.exit (s0, b44, ()))
def l_nat_N_trim__nat_N_Sub_1L : LSpec := { h := l_nat_N_trim__nat_N_Sub_1H, x := l_nat_N_trim__nat_N_Sub_1X, r := l_nat_N_trim__nat_N_Sub_1R, xid := 0, rt := false, pins := [44], f := fun k d => l_nat_N_trim__nat_N_Sub_1 k d.1 d.2.1 }
def LL_nat_N_Sub : Loops := [([63], [(4, l_nat_N_Sub_4L)]), ([75, 63], [(1, l_nat_N_trim__nat_N_Sub_1L)])]
def f_nat_N_Sub (k : Nat) (a0 : List Int) (a1 : List Int) : Option (List Int) :=
  if (0 : Int) ≤ (a0.length : Int) then
    if (a0.length : Int) ≤ (a0.length : Int) then
      if (a0.length : Int) * 4 ≤ 281474976710656 then
        match l_nat_N_Sub_4 k a0 a1 0 (a0.length : Int) 0 (List.replicate ((a0.length : Int).toNat) 0) with
        | none => none
        | some (.exit d1) =>
          match l_nat_N_trim__nat_N_Sub_1 k d1.1.length d1.1 with
          | none => none
          | some (.exit d2) =>
            some (d2.2.1.take d2.1)
          | some (.ret d2) =>
            none
        | some (.ret d1) =>
          none
      else none
    else none
  else none
theorem l_nat_N_Sub_4_step (m : Nat) (d : dens l_nat_N_Sub_4H.tys) : l_nat_N_Sub_4L.f (m + 1) d = round E_nat_N_Sub LL_nat_N_Sub m [63] 47 (loopN (bodyOf Tryd.f63) 0) l_nat_N_Sub_4L (l_nat_N_Sub_4L.f m) d := by kernel_rfl
theorem l_nat_N_trim__nat_N_Sub_1_step (m : Nat) (d : dens l_nat_N_trim__nat_N_Sub_1H.tys) : l_nat_N_trim__nat_N_Sub_1L.f (m + 1) d = round E_nat_N_Sub LL_nat_N_Sub m [75, 63] 21 (loopN (bodyOf Tryd.f75) 0) l_nat_N_trim__nat_N_Sub_1L (l_nat_N_trim__nat_N_Sub_1L.f m) d := by kernel_rfl
theorem f_nat_N_Sub_run (k : Nat) (x : denL [.slice (.int .u32), .slice (.int .u32)]) : runFn E_nat_N_Sub LL_nat_N_Sub k 63 Tryd.f63 [.slice (.int .u32), .slice (.int .u32)] [.fresh (.int .u32)] x = f_nat_N_Sub k x.1 x.2 := by kernel_rfl
noncomputable def S_nat_N_Sub : Vm.Spec := { ps := [.slice (.int .u32), .slice (.int .u32)], rs := [.fresh (.int .u32)], f := fun x => f_nat_N_Sub fuel x.1 x.2 }
theorem f_nat_N_Sub_holds : Vm.Spec.holds Tryd.prog 63 S_nat_N_Sub := by
  have hB : BodiesOk Tryd.prog E_nat_N_Sub := bodies_ok (by exact ⟨by kernel_rfl, by kernel_rfl, trivial⟩)
  have hBS : BodiesStepped E_nat_N_Sub LL_nat_N_Sub := by
    refine bodies_stepped ?_
    exact ⟨(stepped_paths [[63]] (by exact ⟨stepped_of (ls := [(1, l_nat_N_trim__nat_N_Sub_1L)]) rfl rfl ⟨by kernel_rfl, fun _ => rfl, l_nat_N_trim__nat_N_Sub_1_step, stepsI_end (by kernel_rfl)⟩,  trivial⟩) rfl),  trivial⟩
  have hS : SpecsOk Tryd.prog E_nat_N_Sub := specs_ok (by exact trivial)
  have hE : EOk Tryd.prog E_nat_N_Sub := eok_te ok
  exact fn_sound (L := LL_nat_N_Sub) hE hS hB (draws_ok hE hS (by kernel_rfl)) hBS (fn := Tryd.f63) (by kernel_rfl) (c := bodyOf Tryd.f63) (by kernel_rfl) (stepped_of (ls := [(4, l_nat_N_Sub_4L)]) rfl rfl ⟨by kernel_rfl, fun _ => rfl, l_nat_N_Sub_4_step, stepsI_end (by kernel_rfl)⟩) fun x r h => ⟨fuel, (f_nat_N_Sub_run fuel x).trans h⟩

/-! (gamehall/nat.N).trim -/
noncomputable def E_nat_N_trim : Env := { te := te, spec := [], body := [] }
def l_nat_N_trim_1H : Ann := { slots := [(0, .one (.val (.slice (.int .u32))))], objs := [] }
def l_nat_N_trim_1X : Ann := { slots := [(0, .one (.val (.slice (.int .u32))))], objs := [] }
def l_nat_N_trim_1R : Ann := { slots := [], objs := [] }
def l_nat_N_trim_1 : Nat → List Int → Option (LR l_nat_N_trim_1X l_nat_N_trim_1R)
  | 0, _ => none
  | m + 1, s0 =>
    if decide ((s0.length : Int) > 0) = true then
      if (0 : Int) ≤ IntKind.i64.wrap ((s0.length : Int) - 1) then
        if IntKind.i64.wrap ((s0.length : Int) - 1) < s0.length then
          if (s0.getD ((IntKind.i64.wrap ((s0.length : Int) - 1)).toNat) 0 == 0) = true then
            if (0 : Int) ≤ IntKind.i64.wrap ((s0.length : Int) - 1) then
              if IntKind.i64.wrap ((s0.length : Int) - 1) ≤ s0.length then
                l_nat_N_trim_1 m ((s0.take (IntKind.i64.wrap ((s0.length : Int) - 1)).toNat).drop 0)
              else none
            else none
          else
            some (.exit (s0, ()))
        else none
      else none
    else
      some (.exit (s0, ()))
def l_nat_N_trim_1L : LSpec := { h := l_nat_N_trim_1H, x := l_nat_N_trim_1X, r := l_nat_N_trim_1R, xid := 0, rt := false, pins := [], f := fun k d => l_nat_N_trim_1 k d.1 }
def LL_nat_N_trim : Loops := [([75], [(1, l_nat_N_trim_1L)])]
def f_nat_N_trim (k : Nat) (a0 : List Int) : Option (List Int) :=
  match l_nat_N_trim_1 k a0 with
  | none => none
  | some (.exit d1) =>
    some d1.1
  | some (.ret d1) =>
    none
theorem l_nat_N_trim_1_step (m : Nat) (d : dens l_nat_N_trim_1H.tys) : l_nat_N_trim_1L.f (m + 1) d = round E_nat_N_trim LL_nat_N_trim m [75] 21 (loopN (bodyOf Tryd.f75) 0) l_nat_N_trim_1L (l_nat_N_trim_1L.f m) d := by kernel_rfl
theorem f_nat_N_trim_run (k : Nat) (x : denL [.slice (.int .u32)]) : runFn E_nat_N_trim LL_nat_N_trim k 75 Tryd.f75 [.slice (.int .u32)] [.imm (.slice (.int .u32))] x = f_nat_N_trim k x := by kernel_rfl
noncomputable def S_nat_N_trim : Vm.Spec := { ps := [.slice (.int .u32)], rs := [.imm (.slice (.int .u32))], f := fun x => f_nat_N_trim fuel x }
theorem f_nat_N_trim_holds : Vm.Spec.holds Tryd.prog 75 S_nat_N_trim := by
  have hB : BodiesOk Tryd.prog E_nat_N_trim := bodies_none rfl
  have hBS : BodiesStepped E_nat_N_trim LL_nat_N_trim := bodies_stepped_none rfl
  have hS : SpecsOk Tryd.prog E_nat_N_trim := specs_ok (by exact trivial)
  have hE : EOk Tryd.prog E_nat_N_trim := eok_te ok
  exact fn_sound (L := LL_nat_N_trim) hE hS hB (draws_ok hE hS (by kernel_rfl)) hBS (fn := Tryd.f75) (by kernel_rfl) (c := bodyOf Tryd.f75) (by kernel_rfl) (stepped_of (ls := [(1, l_nat_N_trim_1L)]) rfl rfl ⟨by kernel_rfl, fun _ => rfl, l_nat_N_trim_1_step, stepsI_end (by kernel_rfl)⟩) fun x r h => ⟨fuel, (f_nat_N_trim_run fuel x).trans h⟩

/-! (gamehall/nat.N).short -/
noncomputable def E_nat_N_short : Env := { te := te, spec := [(75, S_nat_N_trim)], body := [] }
def l_nat_N_short_4H : Ann := { slots := [(0, .one (.val (.slice (.int .u32)))), (1, .one (.val (.int .u32))), (6, .one (.own 44 (.int .u32))), (7, .one (.val (.int .u64))), (8, .one (.val (.int .i64)))], objs := [(44, .buf (.int .u32))] }
def l_nat_N_short_4X : Ann := { slots := [(6, .one (.own 44 (.int .u32))), (7, .one (.val (.int .u64)))], objs := [(44, .buf (.int .u32))] }
def l_nat_N_short_4R : Ann := { slots := [], objs := [] }
def l_nat_N_short_4 : Nat → List Int → Int → Int → Int → List Int → Option (LR l_nat_N_short_4X l_nat_N_short_4R)
  | 0, _, _, _, _, _ => none
  | m + 1, s0, s1, s7, s8, b44 =>
    if decide (s8 ≥ 0) = true then
      if (0 : Int) ≤ s8 then
        if s8 < s0.length then
          if IntKind.u64.wrap (s1) = 0 then
            none
          else
            if (0 : Int) ≤ s8 then
              if s8 < b44.length then
                if IntKind.u64.wrap (s1) = 0 then
                  none
                else
                  l_nat_N_short_4 m s0 s1 ((IntKind.u64.wrap ((IntKind.u64.wrap (s7 * 1000000000)) + (IntKind.u64.wrap (s0.getD s8.toNat 0)))).tmod (IntKind.u64.wrap (s1))) (IntKind.i64.wrap (s8 - 1)) (b44.set s8.toNat (IntKind.u32.wrap (IntKind.u64.wrap ((IntKind.u64.wrap ((IntKind.u64.wrap (s7 * 1000000000)) + (IntKind.u64.wrap (s0.getD s8.toNat 0)))).tdiv (IntKind.u64.wrap (s1))))))
              else none
            else none
        else none
      else none
    else
      some (.exit (s7, b44, ()))
def l_nat_N_short_4L : LSpec := { h := l_nat_N_short_4H, x := l_nat_N_short_4X, r := l_nat_N_short_4R, xid := 0, rt := false, pins := [44], f := fun k d => l_nat_N_short_4 k d.1 d.2.1 d.2.2.1 d.2.2.2.1 d.2.2.2.2.1 }
def LL_nat_N_short : Loops := [([79], [(4, l_nat_N_short_4L)])]
def f_nat_N_short (k : Nat) (a0 : List Int) (a1 : Int) : Option ((List Int) × (List Int)) :=
  if (0 : Int) ≤ (a0.length : Int) then
    if (a0.length : Int) ≤ (a0.length : Int) then
      if (a0.length : Int) * 4 ≤ 281474976710656 then
        match l_nat_N_short_4 k a0 a1 0 (IntKind.i64.wrap ((a0.length : Int) - 1)) (List.replicate ((a0.length : Int).toNat) 0) with
        | none => none
        | some (.exit d1) =>
          (f_nat_N_trim fuel d1.2.1).bind fun r2 =>
          (f_nat_N_trim fuel [IntKind.u32.wrap (d1.1)]).bind fun r3 =>
          some (r2, r3)
        | some (.ret d1) =>
          none
      else none
    else none
  else none
theorem l_nat_N_short_4_step (m : Nat) (d : dens l_nat_N_short_4H.tys) : l_nat_N_short_4L.f (m + 1) d = round E_nat_N_short LL_nat_N_short m [79] 45 (loopN (bodyOf Tryd.f79) 0) l_nat_N_short_4L (l_nat_N_short_4L.f m) d := by kernel_rfl
theorem f_nat_N_short_run (k : Nat) (x : denL [.slice (.int .u32), .int .u32]) : runFn E_nat_N_short LL_nat_N_short k 79 Tryd.f79 [.slice (.int .u32), .int .u32] [.imm (.slice (.int .u32)), .imm (.slice (.int .u32))] x = f_nat_N_short k x.1 x.2 := by kernel_rfl
noncomputable def S_nat_N_short : Vm.Spec := { ps := [.slice (.int .u32), .int .u32], rs := [.imm (.slice (.int .u32)), .imm (.slice (.int .u32))], f := fun x => f_nat_N_short fuel x.1 x.2 }
theorem f_nat_N_short_holds : Vm.Spec.holds Tryd.prog 79 S_nat_N_short := by
  have hB : BodiesOk Tryd.prog E_nat_N_short := bodies_none rfl
  have hBS : BodiesStepped E_nat_N_short LL_nat_N_short := bodies_stepped_none rfl
  have hS : SpecsOk Tryd.prog E_nat_N_short := specs_ok (by exact ⟨⟨by kernel_rfl, f_nat_N_trim_holds⟩, trivial⟩)
  have hE : EOk Tryd.prog E_nat_N_short := eok_te ok
  exact fn_sound (L := LL_nat_N_short) hE hS hB (draws_ok hE hS (by kernel_rfl)) hBS (fn := Tryd.f79) (by kernel_rfl) (c := bodyOf Tryd.f79) (by kernel_rfl) (stepped_of (ls := [(4, l_nat_N_short_4L)]) rfl rfl ⟨by kernel_rfl, fun _ => rfl, l_nat_N_short_4_step, stepsI_end (by kernel_rfl)⟩) fun x r h => ⟨fuel, (f_nat_N_short_run fuel x).trans h⟩

/-! (gamehall/nat.N).Div -/
noncomputable def E_nat_N_Div : Env := { te := te, spec := [(59, S_nat_N_Mul), (62, S_nat_N_Cmp), (75, S_nat_N_trim), (79, S_nat_N_short)], body := [(80, Tryd.f80), (81, Tryd.f81)] }
def l_nat_N_Div_7H : Ann := { slots := [(0, .one (.val (.slice (.int .u32)))), (7, .one (.own 188 (.int .u32)))], objs := [(188, .buf (.int .u32))] }
def l_nat_N_Div_7X : Ann := { slots := [(7, .one (.own 188 (.int .u32)))], objs := [(188, .buf (.int .u32))] }
def l_nat_N_Div_7R : Ann := { slots := [], objs := [] }
def l_nat_N_Div_16H : Ann := { slots := [(7, .one (.own 188 (.int .u32))), (8, .one (.own 204 (.int .u32))), (9, .one (.val (.int .i64))), (11, .one (.val (.int .i64))), (13, .one (.val (.int .u64))), (14, .one (.val (.int .u64)))], objs := [(188, .buf (.int .u32)), (204, .buf (.int .u32))] }
def l_nat_N_Div_16X : Ann := { slots := [(7, .one (.own 188 (.int .u32))), (8, .one (.own 204 (.int .u32))), (13, .one (.val (.int .u64)))], objs := [(188, .buf (.int .u32)), (204, .buf (.int .u32))] }
def l_nat_N_Div_16R : Ann := { slots := [], objs := [] }
def l_nat_N_minus__nat_N_Div_4H : Ann := { slots := [(0, .one (.own 188 (.int .u32))), (1, .one (.own 204 (.int .u32))), (2, .one (.val (.int .i64))), (3, .one (.val (.int .u64))), (9, .one (.val (.int .i64))), (10, .one (.val (.int .u64))), (11, .one (.val (.int .i64)))], objs := [(188, .buf (.int .u32)), (204, .buf (.int .u32))] }
def l_nat_N_minus__nat_N_Div_4X : Ann := { slots := [(9, .one (.val (.int .i64)))], objs := [(188, .buf (.int .u32)), (204, .buf (.int .u32))] }
def l_nat_N_minus__nat_N_Div_4R : Ann := { slots := [], objs := [] }
def l_nat_N_plus__nat_N_Div_2H : Ann := { slots := [(0, .one (.own 188 (.int .u32))), (1, .one (.own 204 (.int .u32))), (2, .one (.val (.int .i64))), (6, .one (.val (.int .u32))), (7, .one (.val (.int .i64)))], objs := [(188, .buf (.int .u32)), (204, .buf (.int .u32))] }
def l_nat_N_plus__nat_N_Div_2X : Ann := { slots := [], objs := [(188, .buf (.int .u32)), (204, .buf (.int .u32))] }
def l_nat_N_plus__nat_N_Div_2R : Ann := { slots := [], objs := [] }
def l_nat_N_Div_12H : Ann := { slots := [(7, .one (.own 188 (.int .u32))), (8, .one (.own 204 (.int .u32))), (9, .one (.val (.int .i64))), (10, .one (.own 264 (.int .u32))), (11, .one (.val (.int .i64)))], objs := [(188, .buf (.int .u32)), (204, .buf (.int .u32)), (264, .buf (.int .u32))] }
def l_nat_N_Div_12X : Ann := { slots := [(7, .one (.own 188 (.int .u32))), (10, .one (.own 264 (.int .u32)))], objs := [(188, .buf (.int .u32)), (264, .buf (.int .u32)), (204, .buf (.int .u32))] }
def l_nat_N_Div_12R : Ann := { slots := [], objs := [] }
def l_nat_N_Div_7 : Nat → List Int → List Int → Option (LR l_nat_N_Div_7X l_nat_N_Div_7R)
  | 0, _, _ => none
  | m + 1, s0, b188 =>
    if decide ((b188.length : Int) ≤ (s0.length : Int)) = true then
      if (b188.length + 1) * 4 ≤ 140737488355328 then
        l_nat_N_Div_7 m s0 (b188 ++ [0])
      else none
    else
      some (.exit (b188, ()))
def l_nat_N_Div_7L : LSpec := { h := l_nat_N_Div_7H, x := l_nat_N_Div_7X, r := l_nat_N_Div_7R, xid := 0, rt := false, pins := [], f := fun k d => l_nat_N_Div_7 k d.1 d.2.1 }
def l_nat_N_Div_16 : Nat → Int → Int → Int → Int → List Int → List Int → Option (LR l_nat_N_Div_16X l_nat_N_Div_16R)
  | 0, _, _, _, _, _, _ => none
  | m + 1, s9, s11, s13, s14, b188, b204 =>
    if decide (s13 ≥ 1000000000) = false then
      if (0 : Int) ≤ IntKind.i64.wrap (s9 - 2) then
        if IntKind.i64.wrap (s9 - 2) < b204.length then
          if (0 : Int) ≤ IntKind.i64.wrap ((IntKind.i64.wrap (s11 + s9)) - 2) then
            if IntKind.i64.wrap ((IntKind.i64.wrap (s11 + s9)) - 2) < b188.length then
              if decide (IntKind.u64.wrap (s13 * (IntKind.u64.wrap (b204.getD ((IntKind.i64.wrap (s9 - 2)).toNat) 0))) > IntKind.u64.wrap ((IntKind.u64.wrap (s14 * 1000000000)) + (IntKind.u64.wrap (b188.getD ((IntKind.i64.wrap ((IntKind.i64.wrap (s11 + s9)) - 2)).toNat) 0)))) = true then
                if (0 : Int) ≤ IntKind.i64.wrap (s9 - 1) then
                  if IntKind.i64.wrap (s9 - 1) < b204.length then
                    if decide (IntKind.u64.wrap (s14 + (IntKind.u64.wrap (b204.getD ((IntKind.i64.wrap (s9 - 1)).toNat) 0))) ≥ 1000000000) = true then
                      some (.exit (IntKind.u64.wrap (s13 - 1), b188, b204, ()))
                    else
                      l_nat_N_Div_16 m s9 s11 (IntKind.u64.wrap (s13 - 1)) (IntKind.u64.wrap (s14 + (IntKind.u64.wrap (b204.getD ((IntKind.i64.wrap (s9 - 1)).toNat) 0)))) b188 b204
                  else none
                else none
              else
                some (.exit (s13, b188, b204, ()))
            else none
          else none
        else none
      else none
    else
      if (0 : Int) ≤ IntKind.i64.wrap (s9 - 1) then
        if IntKind.i64.wrap (s9 - 1) < b204.length then
          if decide (IntKind.u64.wrap (s14 + (IntKind.u64.wrap (b204.getD ((IntKind.i64.wrap (s9 - 1)).toNat) 0))) ≥ 1000000000) = true then
            some (.exit (IntKind.u64.wrap (s13 - 1), b188, b204, ()))
          else
            l_nat_N_Div_16 m s9 s11 (IntKind.u64.wrap (s13 - 1)) (IntKind.u64.wrap (s14 + (IntKind.u64.wrap (b204.getD ((IntKind.i64.wrap (s9 - 1)).toNat) 0)))) b188 b204
        else none
      else none
def l_nat_N_Div_16L : LSpec := { h := l_nat_N_Div_16H, x := l_nat_N_Div_16X, r := l_nat_N_Div_16R, xid := 4, rt := false, pins := [188, 204], f := fun k d => l_nat_N_Div_16 k d.1 d.2.1 d.2.2.1 d.2.2.2.1 d.2.2.2.2.1 d.2.2.2.2.2.1 }
def l_nat_N_minus__nat_N_Div_4 : Nat → Int → Int → Int → Int → Int → List Int → List Int → Option (LR l_nat_N_minus__nat_N_Div_4X l_nat_N_minus__nat_N_Div_4R)
  | 0, _, _, _, _, _, _, _ => none
  | m + 1, s2, s3, s9, s10, s11, b188, b204 =>
    if decide (s11 ≤ (b204.length : Int)) = true then
      if decide (s11 < (b204.length : Int)) = true then
        if (0 : Int) ≤ s11 then
          if s11 < b204.length then
            if (0 : Int) ≤ IntKind.i64.wrap (s2 + s11) then
              if IntKind.i64.wrap (s2 + s11) < b188.length then
                if decide (IntKind.i64.wrap ((IntKind.i64.wrap ((IntKind.i64.wrap (b188.getD ((IntKind.i64.wrap (s2 + s11)).toNat) 0)) - (IntKind.i64.wrap ((IntKind.u64.wrap (s10 + (IntKind.u64.wrap (s3 * (IntKind.u64.wrap (b204.getD s11.toNat 0)))))).tmod 1000000000)))) - s9) < 0) = true then
                  if (0 : Int) ≤ IntKind.i64.wrap (s2 + s11) then
                    if IntKind.i64.wrap (s2 + s11) < b188.length then
                      l_nat_N_minus__nat_N_Div_4 m s2 s3 1 (IntKind.u64.wrap ((IntKind.u64.wrap (s10 + (IntKind.u64.wrap (s3 * (IntKind.u64.wrap (b204.getD s11.toNat 0)))))).tdiv 1000000000)) (IntKind.i64.wrap (s11 + 1)) (b188.set ((IntKind.i64.wrap (s2 + s11)).toNat) (IntKind.u32.wrap (IntKind.i64.wrap ((IntKind.i64.wrap ((IntKind.i64.wrap ((IntKind.i64.wrap (b188.getD ((IntKind.i64.wrap (s2 + s11)).toNat) 0)) - (IntKind.i64.wrap ((IntKind.u64.wrap (s10 + (IntKind.u64.wrap (s3 * (IntKind.u64.wrap (b204.getD s11.toNat 0)))))).tmod 1000000000)))) - s9)) + 1000000000)))) b204
                    else none
                  else none
                else
                  if (0 : Int) ≤ IntKind.i64.wrap (s2 + s11) then
                    if IntKind.i64.wrap (s2 + s11) < b188.length then
                      l_nat_N_minus__nat_N_Div_4 m s2 s3 0 (IntKind.u64.wrap ((IntKind.u64.wrap (s10 + (IntKind.u64.wrap (s3 * (IntKind.u64.wrap (b204.getD s11.toNat 0)))))).tdiv 1000000000)) (IntKind.i64.wrap (s11 + 1)) (b188.set ((IntKind.i64.wrap (s2 + s11)).toNat) (IntKind.u32.wrap (IntKind.i64.wrap ((IntKind.i64.wrap ((IntKind.i64.wrap (b188.getD ((IntKind.i64.wrap (s2 + s11)).toNat) 0)) - (IntKind.i64.wrap ((IntKind.u64.wrap (s10 + (IntKind.u64.wrap (s3 * (IntKind.u64.wrap (b204.getD s11.toNat 0)))))).tmod 1000000000)))) - s9)))) b204
                    else none
                  else none
              else none
            else none
          else none
        else none
      else
        if (0 : Int) ≤ IntKind.i64.wrap (s2 + s11) then
          if IntKind.i64.wrap (s2 + s11) < b188.length then
            if decide (IntKind.i64.wrap ((IntKind.i64.wrap ((IntKind.i64.wrap (b188.getD ((IntKind.i64.wrap (s2 + s11)).toNat) 0)) - (IntKind.i64.wrap (s10.tmod 1000000000)))) - s9) < 0) = true then
              if (0 : Int) ≤ IntKind.i64.wrap (s2 + s11) then
                if IntKind.i64.wrap (s2 + s11) < b188.length then
                  l_nat_N_minus__nat_N_Div_4 m s2 s3 1 (IntKind.u64.wrap (s10.tdiv 1000000000)) (IntKind.i64.wrap (s11 + 1)) (b188.set ((IntKind.i64.wrap (s2 + s11)).toNat) (IntKind.u32.wrap (IntKind.i64.wrap ((IntKind.i64.wrap ((IntKind.i64.wrap ((IntKind.i64.wrap (b188.getD ((IntKind.i64.wrap (s2 + s11)).toNat) 0)) - (IntKind.i64.wrap (s10.tmod 1000000000)))) - s9)) + 1000000000)))) b204
                else none
              else none
            else
              if (0 : Int) ≤ IntKind.i64.wrap (s2 + s11) then
                if IntKind.i64.wrap (s2 + s11) < b188.length then
                  l_nat_N_minus__nat_N_Div_4 m s2 s3 0 (IntKind.u64.wrap (s10.tdiv 1000000000)) (IntKind.i64.wrap (s11 + 1)) (b188.set ((IntKind.i64.wrap (s2 + s11)).toNat) (IntKind.u32.wrap (IntKind.i64.wrap ((IntKind.i64.wrap ((IntKind.i64.wrap (b188.getD ((IntKind.i64.wrap (s2 + s11)).toNat) 0)) - (IntKind.i64.wrap (s10.tmod 1000000000)))) - s9)))) b204
                else none
              else none
          else none
        else none
    else
      some (.exit (s9, b188, b204, ()))
def l_nat_N_minus__nat_N_Div_4L : LSpec := { h := l_nat_N_minus__nat_N_Div_4H, x := l_nat_N_minus__nat_N_Div_4X, r := l_nat_N_minus__nat_N_Div_4R, xid := 0, rt := false, pins := [188, 204], f := fun k d => l_nat_N_minus__nat_N_Div_4 k d.1 d.2.1 d.2.2.1 d.2.2.2.1 d.2.2.2.2.1 d.2.2.2.2.2.1 d.2.2.2.2.2.2.1 }
def l_nat_N_plus__nat_N_Div_2 : Nat → Int → Int → Int → List Int → List Int → Option (LR l_nat_N_plus__nat_N_Div_2X l_nat_N_plus__nat_N_Div_2R)
  | 0, _, _, _, _, _ => none
  | m + 1, s2, s6, s7, b188, b204 =>
    if decide (s7 ≤ (b204.length : Int)) = true then
      if (0 : Int) ≤ IntKind.i64.wrap (s2 + s7) then
        if IntKind.i64.wrap (s2 + s7) < b188.length then
          if decide (s7 < (b204.length : Int)) = true then
            if (0 : Int) ≤ s7 then
              if s7 < b204.length then
                if (0 : Int) ≤ IntKind.i64.wrap (s2 + s7) then
                  if IntKind.i64.wrap (s2 + s7) < b188.length then
                    l_nat_N_plus__nat_N_Div_2 m s2 (IntKind.u32.wrap ((IntKind.u32.wrap ((IntKind.u32.wrap ((b188.getD ((IntKind.i64.wrap (s2 + s7)).toNat) 0) + s6)) + (b204.getD s7.toNat 0))).tdiv 1000000000)) (IntKind.i64.wrap (s7 + 1)) (b188.set ((IntKind.i64.wrap (s2 + s7)).toNat) ((IntKind.u32.wrap ((IntKind.u32.wrap ((b188.getD ((IntKind.i64.wrap (s2 + s7)).toNat) 0) + s6)) + (b204.getD s7.toNat 0))).tmod 1000000000)) b204
                  else none
                else none
              else none
            else none
          else
            if (0 : Int) ≤ IntKind.i64.wrap (s2 + s7) then
              if IntKind.i64.wrap (s2 + s7) < b188.length then
                l_nat_N_plus__nat_N_Div_2 m s2 (IntKind.u32.wrap ((IntKind.u32.wrap ((b188.getD ((IntKind.i64.wrap (s2 + s7)).toNat) 0) + s6)).tdiv 1000000000)) (IntKind.i64.wrap (s7 + 1)) (b188.set ((IntKind.i64.wrap (s2 + s7)).toNat) ((IntKind.u32.wrap ((b188.getD ((IntKind.i64.wrap (s2 + s7)).toNat) 0) + s6)).tmod 1000000000)) b204
              else none
            else none
        else none
      else none
    else
      some (.exit (b188, b204, ()))
def l_nat_N_plus__nat_N_Div_2L : LSpec := { h := l_nat_N_plus__nat_N_Div_2H, x := l_nat_N_plus__nat_N_Div_2X, r := l_nat_N_plus__nat_N_Div_2R, xid := 0, rt := false, pins := [188, 204], f := fun k d => l_nat_N_plus__nat_N_Div_2 k d.1 d.2.1 d.2.2.1 d.2.2.2.1 d.2.2.2.2.1 }
def l_nat_N_Div_12 : Nat → Int → Int → List Int → List Int → List Int → Option (LR l_nat_N_Div_12X l_nat_N_Div_12R)
  | 0, _, _, _, _, _ => none
  | m + 1, s9, s11, b188, b204, b264 =>
    if decide (s11 ≥ 0) = true then
      if (0 : Int) ≤ IntKind.i64.wrap (s11 + s9) then
        if IntKind.i64.wrap (s11 + s9) < b188.length then
          if (0 : Int) ≤ IntKind.i64.wrap ((IntKind.i64.wrap (s11 + s9)) - 1) then
            if IntKind.i64.wrap ((IntKind.i64.wrap (s11 + s9)) - 1) < b188.length then
              if (0 : Int) ≤ IntKind.i64.wrap (s9 - 1) then
                if IntKind.i64.wrap (s9 - 1) < b204.length then
                  if IntKind.u64.wrap (b204.getD ((IntKind.i64.wrap (s9 - 1)).toNat) 0) = 0 then
                    none
                  else
                    if (0 : Int) ≤ IntKind.i64.wrap (s9 - 1) then
                      if IntKind.i64.wrap (s9 - 1) < b204.length then
                        if IntKind.u64.wrap (b204.getD ((IntKind.i64.wrap (s9 - 1)).toNat) 0) = 0 then
                          none
                        else
                          match l_nat_N_Div_16 m s9 s11 (IntKind.u64.wrap ((IntKind.u64.wrap ((IntKind.u64.wrap ((IntKind.u64.wrap (b188.getD ((IntKind.i64.wrap (s11 + s9)).toNat) 0)) * 1000000000)) + (IntKind.u64.wrap (b188.getD ((IntKind.i64.wrap ((IntKind.i64.wrap (s11 + s9)) - 1)).toNat) 0)))).tdiv (IntKind.u64.wrap (b204.getD ((IntKind.i64.wrap (s9 - 1)).toNat) 0)))) ((IntKind.u64.wrap ((IntKind.u64.wrap ((IntKind.u64.wrap (b188.getD ((IntKind.i64.wrap (s11 + s9)).toNat) 0)) * 1000000000)) + (IntKind.u64.wrap (b188.getD ((IntKind.i64.wrap ((IntKind.i64.wrap (s11 + s9)) - 1)).toNat) 0)))).tmod (IntKind.u64.wrap (b204.getD ((IntKind.i64.wrap (s9 - 1)).toNat) 0))) b188 b204 with
                          | none => none
                          | some (.exit d1) =>
                            match l_nat_N_minus__nat_N_Div_4 m s11 d1.1 0 0 0 d1.2.1 d1.2.2.1 with
                            | none => none
                            | some (.exit d2) =>
                              if decide (d2.1 > 0) = true then
                                match l_nat_N_plus__nat_N_Div_2 m s11 0 0 d2.2.1 d2.2.2.1 with
                                | none => none
                                | some (.exit d3) =>
                                  if (0 : Int) ≤ s11 then
                                    if s11 < b264.length then
                                      l_nat_N_Div_12 m s9 (IntKind.i64.wrap (s11 - 1)) d3.1 d3.2.1 (b264.set s11.toNat (IntKind.u32.wrap (IntKind.u64.wrap (d1.1 - 1))))
                                    else none
                                  else none
                                | some (.ret d3) =>
                                  none
                              else
                                if (0 : Int) ≤ s11 then
                                  if s11 < b264.length then
                                    l_nat_N_Div_12 m s9 (IntKind.i64.wrap (s11 - 1)) d2.2.1 d2.2.2.1 (b264.set s11.toNat (IntKind.u32.wrap (d1.1)))
                                  else none
                                else none
                            | some (.ret d2) =>
                              none
                          | some (.ret d1) =>
                            none
                      else none
                    else none
                else none
              else none
            else none
          else none
        else none
      else none
    else
      some (.exit (b188, b264, b204, ()))
def l_nat_N_Div_12L : LSpec := { h := l_nat_N_Div_12H, x := l_nat_N_Div_12X, r := l_nat_N_Div_12R, xid := 2, rt := false, pins := [188, 204, 264], f := fun k d => l_nat_N_Div_12 k d.1 d.2.1 d.2.2.1 d.2.2.2.1 d.2.2.2.2.1 }
def LL_nat_N_Div : Loops := [([73], [(7, l_nat_N_Div_7L), (12, l_nat_N_Div_12L), (16, l_nat_N_Div_16L)]), ([80, 73], [(4, l_nat_N_minus__nat_N_Div_4L)]), ([81, 73], [(2, l_nat_N_plus__nat_N_Div_2L)])]
def f_nat_N_Div (k : Nat) (a0 : List Int) (a1 : List Int) : Option ((List Int) × (List Int)) :=
  (f_nat_N_Cmp fuel a0 a1).bind fun r1 =>
  if decide (r1 < 0) = true then
    some ([], a0)
  else
    if ((a1.length : Int) == 1) = true then
      if (0 : Int) < a1.length then
        (f_nat_N_short fuel a0 (a1.getD 0 0)).bind fun r2 =>
        some (r2.1, r2.2)
      else none
    else
      if (0 : Int) ≤ IntKind.i64.wrap ((a1.length : Int) - 1) then
        if IntKind.i64.wrap ((a1.length : Int) - 1) < a1.length then
          if IntKind.u64.wrap ((IntKind.u64.wrap (a1.getD ((IntKind.i64.wrap ((a1.length : Int) - 1)).toNat) 0)) + 1) = 0 then
            none
          else
            (f_nat_N_Mul fuel a0 [IntKind.u32.wrap (IntKind.u64.wrap ((1000000000 : Int).tdiv (IntKind.u64.wrap ((IntKind.u64.wrap (a1.getD ((IntKind.i64.wrap ((a1.length : Int) - 1)).toNat) 0)) + 1))))]).bind fun r3 =>
            if (r3.length + 1) * 4 ≤ 140737488355328 then
              (f_nat_N_Mul fuel a1 [IntKind.u32.wrap (IntKind.u64.wrap ((1000000000 : Int).tdiv (IntKind.u64.wrap ((IntKind.u64.wrap (a1.getD ((IntKind.i64.wrap ((a1.length : Int) - 1)).toNat) 0)) + 1))))]).bind fun r4 =>
              match l_nat_N_Div_7 k a0 (r3 ++ [0]) with
              | none => none
              | some (.exit d5) =>
                if (0 : Int) ≤ IntKind.i64.wrap ((d5.1.length : Int) - (r4.length : Int)) then
                  if IntKind.i64.wrap ((d5.1.length : Int) - (r4.length : Int)) ≤ IntKind.i64.wrap ((d5.1.length : Int) - (r4.length : Int)) then
                    if (IntKind.i64.wrap ((d5.1.length : Int) - (r4.length : Int))) * 4 ≤ 281474976710656 then
                      match l_nat_N_Div_12 k (r4.length : Int) (IntKind.i64.wrap ((IntKind.i64.wrap ((d5.1.length : Int) - (r4.length : Int))) - 1)) d5.1 r4 (List.replicate ((IntKind.i64.wrap ((d5.1.length : Int) - (r4.length : Int))).toNat) 0) with
                      | none => none
                      | some (.exit d6) =>
                        (f_nat_N_trim fuel d6.1).bind fun r7 =>
                        (f_nat_N_short fuel r7 (IntKind.u32.wrap (IntKind.u64.wrap ((1000000000 : Int).tdiv (IntKind.u64.wrap ((IntKind.u64.wrap (a1.getD ((IntKind.i64.wrap ((a1.length : Int) - 1)).toNat) 0)) + 1)))))).bind fun r8 =>
                        (f_nat_N_trim fuel d6.2.1).bind fun r9 =>
                        some (r9, r8.1)
                      | some (.ret d6) =>
                        none
                    else none
                  else none
                else none
              | some (.ret d5) =>
                none
            else none
        else none
      else none
theorem l_nat_N_Div_7_step (m : Nat) (d : dens l_nat_N_Div_7H.tys) : l_nat_N_Div_7L.f (m + 1) d = round E_nat_N_Div LL_nat_N_Div m [73] 171 (loopN (bodyOf Tryd.f73) 0) l_nat_N_Div_7L (l_nat_N_Div_7L.f m) d := by kernel_rfl
theorem l_nat_N_Div_16_step (m : Nat) (d : dens l_nat_N_Div_16H.tys) : l_nat_N_Div_16L.f (m + 1) d = round E_nat_N_Div LL_nat_N_Div m [73] 171 (loopN (bodyOf Tryd.f73) 2) l_nat_N_Div_16L (l_nat_N_Div_16L.f m) d := by kernel_rfl
theorem l_nat_N_minus__nat_N_Div_4_step (m : Nat) (d : dens l_nat_N_minus__nat_N_Div_4H.tys) : l_nat_N_minus__nat_N_Div_4L.f (m + 1) d = round E_nat_N_Div LL_nat_N_Div m [80, 73] 62 (loopN (bodyOf Tryd.f80) 0) l_nat_N_minus__nat_N_Div_4L (l_nat_N_minus__nat_N_Div_4L.f m) d := by kernel_rfl
theorem l_nat_N_plus__nat_N_Div_2_step (m : Nat) (d : dens l_nat_N_plus__nat_N_Div_2H.tys) : l_nat_N_plus__nat_N_Div_2L.f (m + 1) d = round E_nat_N_Div LL_nat_N_Div m [81, 73] 42 (loopN (bodyOf Tryd.f81) 0) l_nat_N_plus__nat_N_Div_2L (l_nat_N_plus__nat_N_Div_2L.f m) d := by kernel_rfl
theorem l_nat_N_Div_12_step (m : Nat) (d : dens l_nat_N_Div_12H.tys) : l_nat_N_Div_12L.f (m + 1) d = round E_nat_N_Div LL_nat_N_Div m [73] 171 (loopN (bodyOf Tryd.f73) 1) l_nat_N_Div_12L (l_nat_N_Div_12L.f m) d := by kernel_rfl
theorem f_nat_N_Div_run (k : Nat) (x : denL [.slice (.int .u32), .slice (.int .u32)]) : runFn E_nat_N_Div LL_nat_N_Div k 73 Tryd.f73 [.slice (.int .u32), .slice (.int .u32)] [.imm (.slice (.int .u32)), .imm (.slice (.int .u32))] x = f_nat_N_Div k x.1 x.2 := by kernel_rfl
noncomputable def S_nat_N_Div : Vm.Spec := { ps := [.slice (.int .u32), .slice (.int .u32)], rs := [.imm (.slice (.int .u32)), .imm (.slice (.int .u32))], f := fun x => f_nat_N_Div fuel x.1 x.2 }
theorem f_nat_N_Div_holds : Vm.Spec.holds Tryd.prog 73 S_nat_N_Div := by
  have hB : BodiesOk Tryd.prog E_nat_N_Div := bodies_ok (by exact ⟨by kernel_rfl, by kernel_rfl, by kernel_rfl, by kernel_rfl, trivial⟩)
  have hBS : BodiesStepped E_nat_N_Div LL_nat_N_Div := by
    refine bodies_stepped ?_
    exact ⟨(stepped_paths [[73]] (by exact ⟨stepped_of (ls := [(4, l_nat_N_minus__nat_N_Div_4L)]) rfl rfl ⟨by kernel_rfl, fun _ => rfl, l_nat_N_minus__nat_N_Div_4_step, stepsI_end (by kernel_rfl)⟩,  trivial⟩) rfl), (stepped_paths [[73]] (by exact ⟨stepped_of (ls := [(2, l_nat_N_plus__nat_N_Div_2L)]) rfl rfl ⟨by kernel_rfl, fun _ => rfl, l_nat_N_plus__nat_N_Div_2_step, stepsI_end (by kernel_rfl)⟩,  trivial⟩) rfl),  trivial⟩
  have hS : SpecsOk Tryd.prog E_nat_N_Div := specs_ok (by exact ⟨⟨by kernel_rfl, f_nat_N_Mul_holds⟩, ⟨by kernel_rfl, f_nat_N_Cmp_holds⟩, ⟨by kernel_rfl, f_nat_N_trim_holds⟩, ⟨by kernel_rfl, f_nat_N_short_holds⟩, trivial⟩)
  have hE : EOk Tryd.prog E_nat_N_Div := eok_te ok
  exact fn_sound (L := LL_nat_N_Div) hE hS hB (draws_ok hE hS (by kernel_rfl)) hBS (fn := Tryd.f73) (by kernel_rfl) (c := bodyOf Tryd.f73) (by kernel_rfl) (stepped_of (ls := [(7, l_nat_N_Div_7L), (12, l_nat_N_Div_12L), (16, l_nat_N_Div_16L)]) rfl rfl ⟨by kernel_rfl, fun _ => rfl, l_nat_N_Div_7_step, by kernel_rfl, fun _ => rfl, l_nat_N_Div_12_step, by kernel_rfl, fun _ => rfl, l_nat_N_Div_16_step, stepsI_end (by kernel_rfl)⟩) fun x r h => ⟨fuel, (f_nat_N_Div_run fuel x).trans h⟩

/-! (gamehall/nat.N).Gcd -/
noncomputable def E_nat_N_Gcd : Env := { te := te, spec := [(73, S_nat_N_Div)], body := [] }
def l_nat_N_Gcd_1H : Ann := { slots := [(0, .one (.val (.slice (.int .u32)))), (1, .one (.val (.slice (.int .u32))))], objs := [] }
def l_nat_N_Gcd_1X : Ann := { slots := [(0, .one (.val (.slice (.int .u32))))], objs := [] }
def l_nat_N_Gcd_1R : Ann := { slots := [], objs := [] }
def l_nat_N_Gcd_1 : Nat → List Int → List Int → Option (LR l_nat_N_Gcd_1X l_nat_N_Gcd_1R)
  | 0, _, _ => none
  | m + 1, s0, s1 =>
    if decide ((s1.length : Int) > 0) = true then
      (f_nat_N_Div fuel s0 s1).bind fun r1 =>
      l_nat_N_Gcd_1 m s1 r1.2
    else
      some (.exit (s0, ()))
def l_nat_N_Gcd_1L : LSpec := { h := l_nat_N_Gcd_1H, x := l_nat_N_Gcd_1X, r := l_nat_N_Gcd_1R, xid := 0, rt := false, pins := [], f := fun k d => l_nat_N_Gcd_1 k d.1 d.2.1 }
def LL_nat_N_Gcd : Loops := [([70], [(1, l_nat_N_Gcd_1L)])]
def f_nat_N_Gcd (k : Nat) (a0 : List Int) (a1 : List Int) : Option (List Int) :=
  match l_nat_N_Gcd_1 k a0 a1 with
  | none => none
  | some (.exit d1) =>
    some d1.1
  | some (.ret d1) =>
    none
theorem l_nat_N_Gcd_1_step (m : Nat) (d : dens l_nat_N_Gcd_1H.tys) : l_nat_N_Gcd_1L.f (m + 1) d = round E_nat_N_Gcd LL_nat_N_Gcd m [70] 19 (loopN (bodyOf Tryd.f70) 0) l_nat_N_Gcd_1L (l_nat_N_Gcd_1L.f m) d := by kernel_rfl
theorem f_nat_N_Gcd_run (k : Nat) (x : denL [.slice (.int .u32), .slice (.int .u32)]) : runFn E_nat_N_Gcd LL_nat_N_Gcd k 70 Tryd.f70 [.slice (.int .u32), .slice (.int .u32)] [.imm (.slice (.int .u32))] x = f_nat_N_Gcd k x.1 x.2 := by kernel_rfl
noncomputable def S_nat_N_Gcd : Vm.Spec := { ps := [.slice (.int .u32), .slice (.int .u32)], rs := [.imm (.slice (.int .u32))], f := fun x => f_nat_N_Gcd fuel x.1 x.2 }
theorem f_nat_N_Gcd_holds : Vm.Spec.holds Tryd.prog 70 S_nat_N_Gcd := by
  have hB : BodiesOk Tryd.prog E_nat_N_Gcd := bodies_none rfl
  have hBS : BodiesStepped E_nat_N_Gcd LL_nat_N_Gcd := bodies_stepped_none rfl
  have hS : SpecsOk Tryd.prog E_nat_N_Gcd := specs_ok (by exact ⟨⟨by kernel_rfl, f_nat_N_Div_holds⟩, trivial⟩)
  have hE : EOk Tryd.prog E_nat_N_Gcd := eok_te ok
  exact fn_sound (L := LL_nat_N_Gcd) hE hS hB (draws_ok hE hS (by kernel_rfl)) hBS (fn := Tryd.f70) (by kernel_rfl) (c := bodyOf Tryd.f70) (by kernel_rfl) (stepped_of (ls := [(1, l_nat_N_Gcd_1L)]) rfl rfl ⟨by kernel_rfl, fun _ => rfl, l_nat_N_Gcd_1_step, stepsI_end (by kernel_rfl)⟩) fun x r h => ⟨fuel, (f_nat_N_Gcd_run fuel x).trans h⟩

/-! gamehall/rat.Check -/
noncomputable def E_rat_Check : Env := { te := te, spec := [(62, S_nat_N_Cmp), (64, S_nat_Of), (66, S_strings_CutPrefix), (67, S_strings_Cut), (68, S_nat_Read), (69, S_nat_Check), (70, S_nat_N_Gcd)], body := [] }
def LL_rat_Check : Loops := []
def f_rat_Check (k : Nat) (a0 : ByteArray) : Option (Int) :=
  (f_strings_CutPrefix fuel a0 (⟨#[45]⟩ : ByteArray)).bind fun r1 =>
  (f_strings_Cut fuel r1.1 (⟨#[47]⟩ : ByteArray)).bind fun r2 =>
  (f_nat_Check fuel r2.1).bind fun r3 =>
  if r2.2.2 = true then
    (f_nat_Check fuel r2.2.1).bind fun r4 =>
    if (r3 == 5) = false then
      if (r4 == 5) = false then
        if r1.2 = true then
          if ((r2.1.toList == (⟨#[48]⟩ : ByteArray).toList)) = true then
            some 5
          else
            if (r3 != 0) = false then
              if (r4 != 0) = true then
                some 2
              else
                if r2.2.2 = true then
                  if ((r2.2.1.toList == (⟨#[48]⟩ : ByteArray).toList)) = false then
                    if ((r2.2.1.toList == (⟨#[49]⟩ : ByteArray).toList)) = false then
                      (f_nat_Read fuel r2.1).bind fun r5 =>
                      (f_nat_Read fuel r2.2.1).bind fun r6 =>
                      (f_nat_N_Gcd fuel r5 r6).bind fun r7 =>
                      (f_nat_Of fuel 1).bind fun r8 =>
                      (f_nat_N_Cmp fuel r7 r8).bind fun r9 =>
                      if (r9 != 0) = true then
                        some 3
                      else
                        some 0
                    else
                      some 3
                  else
                    some 3
                else
                  some 0
            else
              some 2
        else
          if (r3 != 0) = false then
            if (r4 != 0) = true then
              some 2
            else
              if r2.2.2 = true then
                if ((r2.2.1.toList == (⟨#[48]⟩ : ByteArray).toList)) = false then
                  if ((r2.2.1.toList == (⟨#[49]⟩ : ByteArray).toList)) = false then
                    (f_nat_Read fuel r2.1).bind fun r10 =>
                    (f_nat_Read fuel r2.2.1).bind fun r11 =>
                    (f_nat_N_Gcd fuel r10 r11).bind fun r12 =>
                    (f_nat_Of fuel 1).bind fun r13 =>
                    (f_nat_N_Cmp fuel r12 r13).bind fun r14 =>
                    if (r14 != 0) = true then
                      some 3
                    else
                      some 0
                  else
                    some 3
                else
                  some 3
              else
                some 0
          else
            some 2
      else
        some 5
    else
      some 5
  else
    if (r3 == 5) = false then
      if r1.2 = true then
        if ((r2.1.toList == (⟨#[48]⟩ : ByteArray).toList)) = true then
          some 5
        else
          if (r3 != 0) = false then
            if r2.2.2 = true then
              if ((r2.2.1.toList == (⟨#[48]⟩ : ByteArray).toList)) = false then
                if ((r2.2.1.toList == (⟨#[49]⟩ : ByteArray).toList)) = false then
                  (f_nat_Read fuel r2.1).bind fun r15 =>
                  (f_nat_Read fuel r2.2.1).bind fun r16 =>
                  (f_nat_N_Gcd fuel r15 r16).bind fun r17 =>
                  (f_nat_Of fuel 1).bind fun r18 =>
                  (f_nat_N_Cmp fuel r17 r18).bind fun r19 =>
                  if (r19 != 0) = true then
                    some 3
                  else
                    some 0
                else
                  some 3
              else
                some 3
            else
              some 0
          else
            some 2
      else
        if (r3 != 0) = false then
          if r2.2.2 = true then
            if ((r2.2.1.toList == (⟨#[48]⟩ : ByteArray).toList)) = false then
              if ((r2.2.1.toList == (⟨#[49]⟩ : ByteArray).toList)) = false then
                (f_nat_Read fuel r2.1).bind fun r20 =>
                (f_nat_Read fuel r2.2.1).bind fun r21 =>
                (f_nat_N_Gcd fuel r20 r21).bind fun r22 =>
                (f_nat_Of fuel 1).bind fun r23 =>
                (f_nat_N_Cmp fuel r22 r23).bind fun r24 =>
                if (r24 != 0) = true then
                  some 3
                else
                  some 0
              else
                some 3
            else
              some 3
          else
            some 0
        else
          some 2
    else
      some 5
theorem f_rat_Check_run (k : Nat) (x : denL [.str]) : runFn E_rat_Check LL_rat_Check k 44 Tryd.f44 [.str] [.imm (.int .i64)] x = f_rat_Check k x := by kernel_rfl
noncomputable def S_rat_Check : Vm.Spec := { ps := [.str], rs := [.imm (.int .i64)], f := fun x => f_rat_Check fuel x }
theorem f_rat_Check_holds : Vm.Spec.holds Tryd.prog 44 S_rat_Check := by
  have hB : BodiesOk Tryd.prog E_rat_Check := bodies_none rfl
  have hBS : BodiesStepped E_rat_Check LL_rat_Check := bodies_stepped_none rfl
  have hS : SpecsOk Tryd.prog E_rat_Check := specs_ok (by exact ⟨⟨by kernel_rfl, f_nat_N_Cmp_holds⟩, ⟨by kernel_rfl, f_nat_Of_holds⟩, ⟨by kernel_rfl, f_strings_CutPrefix_holds⟩, ⟨by kernel_rfl, f_strings_Cut_holds⟩, ⟨by kernel_rfl, f_nat_Read_holds⟩, ⟨by kernel_rfl, f_nat_Check_holds⟩, ⟨by kernel_rfl, f_nat_N_Gcd_holds⟩, trivial⟩)
  have hE : EOk Tryd.prog E_rat_Check := eok_te ok
  exact fn_sound (L := LL_rat_Check) hE hS hB (draws_ok hE hS (by kernel_rfl)) hBS (fn := Tryd.f44) (by kernel_rfl) (c := bodyOf Tryd.f44) (by kernel_rfl) (stepped_none rfl) fun x r h => ⟨fuel, (f_rat_Check_run fuel x).trans h⟩

/-! gamehall/rat.CheckAll -/
noncomputable def E_rat_CheckAll : Env := { te := te, spec := [(44, S_rat_Check)], body := [] }
def l_rat_CheckAll_2H : Ann := { slots := [(6, .one (.val (.slice .str))), (7, .one (.val (.int .i64))), (8, .one (.val (.int .i64)))], objs := [] }
def l_rat_CheckAll_2X : Ann := { slots := [], objs := [] }
def l_rat_CheckAll_2R : Ann := { slots := [(2, .one (.val (.int .i64)))], objs := [] }
def l_rat_CheckAll_2 : Nat → List ByteArray → Int → Int → Option (LR l_rat_CheckAll_2X l_rat_CheckAll_2R)
  | 0, _, _, _ => none
  | m + 1, s6, s7, s8 =>
    if decide (s8 < s7) = true then
      if (0 : Int) ≤ s8 then
        if s8 < s6.length then
          (f_rat_Check fuel (s6.getD s8.toNat ByteArray.empty)).bind fun r1 =>
          if (r1 != 0) = true then
            some (.ret (r1, ()))
          else
            l_rat_CheckAll_2 m s6 s7 (IntKind.i64.wrap (s8 + 1))
        else none
      else none
    else
      some (.exit ())
def l_rat_CheckAll_2L : LSpec := { h := l_rat_CheckAll_2H, x := l_rat_CheckAll_2X, r := l_rat_CheckAll_2R, xid := 0, rt := true, pins := [], f := fun k d => l_rat_CheckAll_2 k d.1 d.2.1 d.2.2.1 }
def LL_rat_CheckAll : Loops := [([48], [(2, l_rat_CheckAll_2L)])]
def f_rat_CheckAll (k : Nat) (a0 : List ByteArray) : Option (Int) :=
  match l_rat_CheckAll_2 k a0 (a0.length : Int) 0 with
  | none => none
  | some (.exit d1) =>
    some 0
  | some (.ret d1) =>
    some d1.1
theorem l_rat_CheckAll_2_step (m : Nat) (d : dens l_rat_CheckAll_2H.tys) : l_rat_CheckAll_2L.f (m + 1) d = round E_rat_CheckAll LL_rat_CheckAll m [48] 18 (loopN (bodyOf Tryd.f48) 0) l_rat_CheckAll_2L (l_rat_CheckAll_2L.f m) d := by kernel_rfl
theorem f_rat_CheckAll_run (k : Nat) (x : denL [.slice .str]) : runFn E_rat_CheckAll LL_rat_CheckAll k 48 Tryd.f48 [.slice .str] [.imm (.int .i64)] x = f_rat_CheckAll k x := by kernel_rfl
noncomputable def S_rat_CheckAll : Vm.Spec := { ps := [.slice .str], rs := [.imm (.int .i64)], f := fun x => f_rat_CheckAll fuel x }
theorem f_rat_CheckAll_holds : Vm.Spec.holds Tryd.prog 48 S_rat_CheckAll := by
  have hB : BodiesOk Tryd.prog E_rat_CheckAll := bodies_none rfl
  have hBS : BodiesStepped E_rat_CheckAll LL_rat_CheckAll := bodies_stepped_none rfl
  have hS : SpecsOk Tryd.prog E_rat_CheckAll := specs_ok (by exact ⟨⟨by kernel_rfl, f_rat_Check_holds⟩, trivial⟩)
  have hE : EOk Tryd.prog E_rat_CheckAll := eok_te ok
  exact fn_sound (L := LL_rat_CheckAll) hE hS hB (draws_ok hE hS (by kernel_rfl)) hBS (fn := Tryd.f48) (by kernel_rfl) (c := bodyOf Tryd.f48) (by kernel_rfl) (stepped_of (ls := [(2, l_rat_CheckAll_2L)]) rfl rfl ⟨by kernel_rfl, fun _ => rfl, l_rat_CheckAll_2_step, stepsI_end (by kernel_rfl)⟩) fun x r h => ⟨fuel, (f_rat_CheckAll_run fuel x).trans h⟩

/-! gamehall/matrix.CheckVec -/
noncomputable def E_matrix_CheckVec : Env := { te := te, spec := [(48, S_rat_CheckAll)], body := [] }
def LL_matrix_CheckVec : Loops := []
def f_matrix_CheckVec (k : Nat) (a0 : List ByteArray) : Option (Int) :=
  if decide ((a0.length : Int) > 40) = true then
    some 2
  else
    (f_rat_CheckAll fuel a0).bind fun r1 =>
    some r1
theorem f_matrix_CheckVec_run (k : Nat) (x : denL [.slice .str]) : runFn E_matrix_CheckVec LL_matrix_CheckVec k 35 Tryd.f35 [.slice .str] [.imm (.int .i64)] x = f_matrix_CheckVec k x := by kernel_rfl
noncomputable def S_matrix_CheckVec : Vm.Spec := { ps := [.slice .str], rs := [.imm (.int .i64)], f := fun x => f_matrix_CheckVec fuel x }
theorem f_matrix_CheckVec_holds : Vm.Spec.holds Tryd.prog 35 S_matrix_CheckVec := by
  have hB : BodiesOk Tryd.prog E_matrix_CheckVec := bodies_none rfl
  have hBS : BodiesStepped E_matrix_CheckVec LL_matrix_CheckVec := bodies_stepped_none rfl
  have hS : SpecsOk Tryd.prog E_matrix_CheckVec := specs_ok (by exact ⟨⟨by kernel_rfl, f_rat_CheckAll_holds⟩, trivial⟩)
  have hE : EOk Tryd.prog E_matrix_CheckVec := eok_te ok
  exact fn_sound (L := LL_matrix_CheckVec) hE hS hB (draws_ok hE hS (by kernel_rfl)) hBS (fn := Tryd.f35) (by kernel_rfl) (c := bodyOf Tryd.f35) (by kernel_rfl) (stepped_none rfl) fun x r h => ⟨fuel, (f_matrix_CheckVec_run fuel x).trans h⟩

/-! gamehall/matrix.Check -/
noncomputable def E_matrix_Check : Env := { te := te, spec := [(35, S_matrix_CheckVec)], body := [] }
def l_matrix_Check_4H : Ann := { slots := [(0, .one (.val (.slice (.slice .str)))), (9, .one (.val (.slice (.slice .str)))), (10, .one (.val (.int .i64))), (11, .one (.val (.int .i64)))], objs := [] }
def l_matrix_Check_4X : Ann := { slots := [], objs := [] }
def l_matrix_Check_4R : Ann := { slots := [(2, .one (.val (.int .i64)))], objs := [] }
def l_matrix_Check_4 : Nat → List (List ByteArray) → List (List ByteArray) → Int → Int → Option (LR l_matrix_Check_4X l_matrix_Check_4R)
  | 0, _, _, _, _ => none
  | m + 1, s0, s9, s10, s11 =>
    if decide (s11 < s10) = true then
      if (0 : Int) ≤ s11 then
        if s11 < s9.length then
          if (0 : Int) < s0.length then
            if (((s9.getD s11.toNat []).length : Int) != ((s0.getD 0 []).length : Int)) = true then
              some (.ret (3, ()))
            else
              (f_matrix_CheckVec fuel (s9.getD s11.toNat [])).bind fun r1 =>
              if (r1 != 0) = true then
                some (.ret (r1, ()))
              else
                l_matrix_Check_4 m s0 s9 s10 (IntKind.i64.wrap (s11 + 1))
          else none
        else none
      else none
    else
      some (.exit ())
def l_matrix_Check_4L : LSpec := { h := l_matrix_Check_4H, x := l_matrix_Check_4X, r := l_matrix_Check_4R, xid := 0, rt := true, pins := [], f := fun k d => l_matrix_Check_4 k d.1 d.2.1 d.2.2.1 d.2.2.2.1 }
def LL_matrix_Check : Loops := [([57], [(4, l_matrix_Check_4L)])]
def f_matrix_Check (k : Nat) (a0 : List (List ByteArray)) : Option (Int) :=
  if decide ((a0.length : Int) > 40) = true then
    some 2
  else
    match l_matrix_Check_4 k a0 a0 (a0.length : Int) 0 with
    | none => none
    | some (.exit d1) =>
      some 0
    | some (.ret d1) =>
      some d1.1
theorem l_matrix_Check_4_step (m : Nat) (d : dens l_matrix_Check_4H.tys) : l_matrix_Check_4L.f (m + 1) d = round E_matrix_Check LL_matrix_Check m [57] 28 (loopN (bodyOf Tryd.f57) 0) l_matrix_Check_4L (l_matrix_Check_4L.f m) d := by kernel_rfl
theorem f_matrix_Check_run (k : Nat) (x : denL [.slice (.slice .str)]) : runFn E_matrix_Check LL_matrix_Check k 57 Tryd.f57 [.slice (.slice .str)] [.imm (.int .i64)] x = f_matrix_Check k x := by kernel_rfl
noncomputable def S_matrix_Check : Vm.Spec := { ps := [.slice (.slice .str)], rs := [.imm (.int .i64)], f := fun x => f_matrix_Check fuel x }
theorem f_matrix_Check_holds : Vm.Spec.holds Tryd.prog 57 S_matrix_Check := by
  have hB : BodiesOk Tryd.prog E_matrix_Check := bodies_none rfl
  have hBS : BodiesStepped E_matrix_Check LL_matrix_Check := bodies_stepped_none rfl
  have hS : SpecsOk Tryd.prog E_matrix_Check := specs_ok (by exact ⟨⟨by kernel_rfl, f_matrix_CheckVec_holds⟩, trivial⟩)
  have hE : EOk Tryd.prog E_matrix_Check := eok_te ok
  exact fn_sound (L := LL_matrix_Check) hE hS hB (draws_ok hE hS (by kernel_rfl)) hBS (fn := Tryd.f57) (by kernel_rfl) (c := bodyOf Tryd.f57) (by kernel_rfl) (stepped_of (ls := [(4, l_matrix_Check_4L)]) rfl rfl ⟨by kernel_rfl, fun _ => rfl, l_matrix_Check_4_step, stepsI_end (by kernel_rfl)⟩) fun x r h => ⟨fuel, (f_matrix_Check_run fuel x).trans h⟩

/-! gamehall/matrix.Width -/
noncomputable def E_matrix_Width : Env := { te := te, spec := [], body := [] }
def LL_matrix_Width : Loops := []
def f_matrix_Width (k : Nat) (a0 : List (List ByteArray)) : Option (Int) :=
  if ((a0.length : Int) == 0) = true then
    some 0
  else
    if (0 : Int) < a0.length then
      some ((a0.getD 0 []).length : Int)
    else none
theorem f_matrix_Width_run (k : Nat) (x : denL [.slice (.slice .str)]) : runFn E_matrix_Width LL_matrix_Width k 58 Tryd.f58 [.slice (.slice .str)] [.imm (.int .i64)] x = f_matrix_Width k x := by kernel_rfl
noncomputable def S_matrix_Width : Vm.Spec := { ps := [.slice (.slice .str)], rs := [.imm (.int .i64)], f := fun x => f_matrix_Width fuel x }
theorem f_matrix_Width_holds : Vm.Spec.holds Tryd.prog 58 S_matrix_Width := by
  have hB : BodiesOk Tryd.prog E_matrix_Width := bodies_none rfl
  have hBS : BodiesStepped E_matrix_Width LL_matrix_Width := bodies_stepped_none rfl
  have hS : SpecsOk Tryd.prog E_matrix_Width := specs_ok (by exact trivial)
  have hE : EOk Tryd.prog E_matrix_Width := eok_te ok
  exact fn_sound (L := LL_matrix_Width) hE hS hB (draws_ok hE hS (by kernel_rfl)) hBS (fn := Tryd.f58) (by kernel_rfl) (c := bodyOf Tryd.f58) (by kernel_rfl) (stepped_none rfl) fun x r h => ⟨fuel, (f_matrix_Width_run fuel x).trans h⟩

/-! gamehall/matgame.Check -/
noncomputable def E_matgame_Check : Env := { te := te, spec := [(57, S_matrix_Check), (58, S_matrix_Width)], body := [] }
def LL_matgame_Check : Loops := []
def f_matgame_Check (k : Nat) (a0 : List (List ByteArray)) : Option (Int) :=
  if decide ((a0.length : Int) > 12) = true then
    some 2
  else
    (f_matrix_Check fuel a0).bind fun r1 =>
    if (r1 != 0) = true then
      some r1
    else
      (f_matrix_Width fuel a0).bind fun r2 =>
      if (r2 == 0) = true then
        some 8
      else
        if (0 : Int) < a0.length then
          if decide (((a0.getD 0 []).length : Int) > 12) = true then
            some 2
          else
            some 0
        else none
theorem f_matgame_Check_run (k : Nat) (x : denL [.slice (.slice .str)]) : runFn E_matgame_Check LL_matgame_Check k 31 Tryd.f31 [.slice (.slice .str)] [.imm (.int .i64)] x = f_matgame_Check k x := by kernel_rfl
noncomputable def S_matgame_Check : Vm.Spec := { ps := [.slice (.slice .str)], rs := [.imm (.int .i64)], f := fun x => f_matgame_Check fuel x }
theorem f_matgame_Check_holds : Vm.Spec.holds Tryd.prog 31 S_matgame_Check := by
  have hB : BodiesOk Tryd.prog E_matgame_Check := bodies_none rfl
  have hBS : BodiesStepped E_matgame_Check LL_matgame_Check := bodies_stepped_none rfl
  have hS : SpecsOk Tryd.prog E_matgame_Check := specs_ok (by exact ⟨⟨by kernel_rfl, f_matrix_Check_holds⟩, ⟨by kernel_rfl, f_matrix_Width_holds⟩, trivial⟩)
  have hE : EOk Tryd.prog E_matgame_Check := eok_te ok
  exact fn_sound (L := LL_matgame_Check) hE hS hB (draws_ok hE hS (by kernel_rfl)) hBS (fn := Tryd.f31) (by kernel_rfl) (c := bodyOf Tryd.f31) (by kernel_rfl) (stepped_none rfl) fun x r h => ⟨fuel, (f_matgame_Check_run fuel x).trans h⟩

/-! gamehall/rat.In -/
noncomputable def E_rat_In : Env := { te := te, spec := [(64, S_nat_Of), (66, S_strings_CutPrefix), (67, S_strings_Cut), (68, S_nat_Read)], body := [] }
def LL_rat_In : Loops := []
def f_rat_In (k : Nat) (a0 : ByteArray) : Option (Bool × ((List Int) × (List Int))) :=
  (f_strings_CutPrefix fuel a0 (⟨#[45]⟩ : ByteArray)).bind fun r1 =>
  (f_strings_Cut fuel r1.1 (⟨#[47]⟩ : ByteArray)).bind fun r2 =>
  (f_nat_Read fuel r2.1).bind fun r3 =>
  (f_nat_Of fuel 1).bind fun r4 =>
  if r2.2.2 = true then
    (f_nat_Read fuel r2.2.1).bind fun r5 =>
    some (r1.2, (r3, r5))
  else
    some (r1.2, (r3, r4))
theorem f_rat_In_run (k : Nat) (x : denL [.str]) : runFn E_rat_In LL_rat_In k 43 Tryd.f43 [.str] [.imm (.pair .bool (.pair (.slice (.int .u32)) (.slice (.int .u32))))] x = f_rat_In k x := by kernel_rfl
noncomputable def S_rat_In : Vm.Spec := { ps := [.str], rs := [.imm (.pair .bool (.pair (.slice (.int .u32)) (.slice (.int .u32))))], f := fun x => f_rat_In fuel x }
theorem f_rat_In_holds : Vm.Spec.holds Tryd.prog 43 S_rat_In := by
  have hB : BodiesOk Tryd.prog E_rat_In := bodies_none rfl
  have hBS : BodiesStepped E_rat_In LL_rat_In := bodies_stepped_none rfl
  have hS : SpecsOk Tryd.prog E_rat_In := specs_ok (by exact ⟨⟨by kernel_rfl, f_nat_Of_holds⟩, ⟨by kernel_rfl, f_strings_CutPrefix_holds⟩, ⟨by kernel_rfl, f_strings_Cut_holds⟩, ⟨by kernel_rfl, f_nat_Read_holds⟩, trivial⟩)
  have hE : EOk Tryd.prog E_rat_In := eok_te ok
  exact fn_sound (L := LL_rat_In) hE hS hB (draws_ok hE hS (by kernel_rfl)) hBS (fn := Tryd.f43) (by kernel_rfl) (c := bodyOf Tryd.f43) (by kernel_rfl) (stepped_none rfl) fun x r h => ⟨fuel, (f_rat_In_run fuel x).trans h⟩

/-! gamehall/matrix.Row -/
noncomputable def E_matrix_Row : Env := { te := te, spec := [(43, S_rat_In)], body := [] }
def l_matrix_Row_3H : Ann := { slots := [(3, .one (.own 64 (.pair .bool (.pair (.slice (.int .u32)) (.slice (.int .u32)))))), (6, .one (.val (.slice .str))), (7, .one (.val (.int .i64))), (8, .one (.val (.int .i64)))], objs := [(64, .buf (.pair .bool (.pair (.slice (.int .u32)) (.slice (.int .u32)))))] }
def l_matrix_Row_3X : Ann := { slots := [(3, .one (.own 64 (.pair .bool (.pair (.slice (.int .u32)) (.slice (.int .u32))))))], objs := [(64, .buf (.pair .bool (.pair (.slice (.int .u32)) (.slice (.int .u32)))))] }
def l_matrix_Row_3R : Ann := { slots := [], objs := [] }
def l_matrix_Row_3 : Nat → List ByteArray → Int → Int → List (Bool × ((List Int) × (List Int))) → Option (LR l_matrix_Row_3X l_matrix_Row_3R)
  | 0, _, _, _, _ => none
  | m + 1, s6, s7, s8, b64 =>
    if decide (s8 < s7) = true then
      if (0 : Int) ≤ s8 then
        if s8 < s6.length then
          (f_rat_In fuel (s6.getD s8.toNat ByteArray.empty)).bind fun r1 =>
          if (b64.length + 1) * 56 ≤ 140737488355328 then
            l_matrix_Row_3 m s6 s7 (IntKind.i64.wrap (s8 + 1)) (b64 ++ [r1])
          else none
        else none
      else none
    else
      some (.exit (b64, ()))
def l_matrix_Row_3L : LSpec := { h := l_matrix_Row_3H, x := l_matrix_Row_3X, r := l_matrix_Row_3R, xid := 0, rt := false, pins := [], f := fun k d => l_matrix_Row_3 k d.1 d.2.1 d.2.2.1 d.2.2.2.1 }
def LL_matrix_Row : Loops := [([36], [(3, l_matrix_Row_3L)])]
def f_matrix_Row (k : Nat) (a0 : List ByteArray) : Option (List (Bool × ((List Int) × (List Int)))) :=
  match l_matrix_Row_3 k a0 (a0.length : Int) 0 [] with
  | none => none
  | some (.exit d1) =>
    some d1.1
  | some (.ret d1) =>
    none
theorem l_matrix_Row_3_step (m : Nat) (d : dens l_matrix_Row_3H.tys) : l_matrix_Row_3L.f (m + 1) d = round E_matrix_Row LL_matrix_Row m [36] 19 (loopN (bodyOf Tryd.f36) 0) l_matrix_Row_3L (l_matrix_Row_3L.f m) d := by kernel_rfl
theorem f_matrix_Row_run (k : Nat) (x : denL [.slice .str]) : runFn E_matrix_Row LL_matrix_Row k 36 Tryd.f36 [.slice .str] [.fresh (.pair .bool (.pair (.slice (.int .u32)) (.slice (.int .u32))))] x = f_matrix_Row k x := by kernel_rfl
noncomputable def S_matrix_Row : Vm.Spec := { ps := [.slice .str], rs := [.fresh (.pair .bool (.pair (.slice (.int .u32)) (.slice (.int .u32))))], f := fun x => f_matrix_Row fuel x }
theorem f_matrix_Row_holds : Vm.Spec.holds Tryd.prog 36 S_matrix_Row := by
  have hB : BodiesOk Tryd.prog E_matrix_Row := bodies_none rfl
  have hBS : BodiesStepped E_matrix_Row LL_matrix_Row := bodies_stepped_none rfl
  have hS : SpecsOk Tryd.prog E_matrix_Row := specs_ok (by exact ⟨⟨by kernel_rfl, f_rat_In_holds⟩, trivial⟩)
  have hE : EOk Tryd.prog E_matrix_Row := eok_te ok
  exact fn_sound (L := LL_matrix_Row) hE hS hB (draws_ok hE hS (by kernel_rfl)) hBS (fn := Tryd.f36) (by kernel_rfl) (c := bodyOf Tryd.f36) (by kernel_rfl) (stepped_of (ls := [(3, l_matrix_Row_3L)]) rfl rfl ⟨by kernel_rfl, fun _ => rfl, l_matrix_Row_3_step, stepsI_end (by kernel_rfl)⟩) fun x r h => ⟨fuel, (f_matrix_Row_run fuel x).trans h⟩

/-! gamehall/matrix.In -/
noncomputable def E_matrix_In : Env := { te := te, spec := [(36, S_matrix_Row)], body := [] }
def l_matrix_In_3H : Ann := { slots := [(3, .one (.own 64 (.slice (.pair .bool (.pair (.slice (.int .u32)) (.slice (.int .u32))))))), (6, .one (.val (.slice (.slice .str)))), (7, .one (.val (.int .i64))), (8, .one (.val (.int .i64)))], objs := [(64, .buf (.slice (.pair .bool (.pair (.slice (.int .u32)) (.slice (.int .u32))))))] }
def l_matrix_In_3X : Ann := { slots := [(3, .one (.own 64 (.slice (.pair .bool (.pair (.slice (.int .u32)) (.slice (.int .u32)))))))], objs := [(64, .buf (.slice (.pair .bool (.pair (.slice (.int .u32)) (.slice (.int .u32))))))] }
def l_matrix_In_3R : Ann := { slots := [], objs := [] }
def l_matrix_In_3 : Nat → List (List ByteArray) → Int → Int → List (List (Bool × ((List Int) × (List Int)))) → Option (LR l_matrix_In_3X l_matrix_In_3R)
  | 0, _, _, _, _ => none
  | m + 1, s6, s7, s8, b64 =>
    if decide (s8 < s7) = true then
      if (0 : Int) ≤ s8 then
        if s8 < s6.length then
          (f_matrix_Row fuel (s6.getD s8.toNat [])).bind fun r1 =>
          if (b64.length + 1) * 24 ≤ 140737488355328 then
            l_matrix_In_3 m s6 s7 (IntKind.i64.wrap (s8 + 1)) (b64 ++ [r1])
          else none
        else none
      else none
    else
      some (.exit (b64, ()))
def l_matrix_In_3L : LSpec := { h := l_matrix_In_3H, x := l_matrix_In_3X, r := l_matrix_In_3R, xid := 0, rt := false, pins := [], f := fun k d => l_matrix_In_3 k d.1 d.2.1 d.2.2.1 d.2.2.2.1 }
def LL_matrix_In : Loops := [([32], [(3, l_matrix_In_3L)])]
def f_matrix_In (k : Nat) (a0 : List (List ByteArray)) : Option (List (List (Bool × ((List Int) × (List Int))))) :=
  match l_matrix_In_3 k a0 (a0.length : Int) 0 [] with
  | none => none
  | some (.exit d1) =>
    some d1.1
  | some (.ret d1) =>
    none
theorem l_matrix_In_3_step (m : Nat) (d : dens l_matrix_In_3H.tys) : l_matrix_In_3L.f (m + 1) d = round E_matrix_In LL_matrix_In m [32] 19 (loopN (bodyOf Tryd.f32) 0) l_matrix_In_3L (l_matrix_In_3L.f m) d := by kernel_rfl
theorem f_matrix_In_run (k : Nat) (x : denL [.slice (.slice .str)]) : runFn E_matrix_In LL_matrix_In k 32 Tryd.f32 [.slice (.slice .str)] [.fresh (.slice (.pair .bool (.pair (.slice (.int .u32)) (.slice (.int .u32)))))] x = f_matrix_In k x := by kernel_rfl
noncomputable def S_matrix_In : Vm.Spec := { ps := [.slice (.slice .str)], rs := [.fresh (.slice (.pair .bool (.pair (.slice (.int .u32)) (.slice (.int .u32)))))], f := fun x => f_matrix_In fuel x }
theorem f_matrix_In_holds : Vm.Spec.holds Tryd.prog 32 S_matrix_In := by
  have hB : BodiesOk Tryd.prog E_matrix_In := bodies_none rfl
  have hBS : BodiesStepped E_matrix_In LL_matrix_In := bodies_stepped_none rfl
  have hS : SpecsOk Tryd.prog E_matrix_In := specs_ok (by exact ⟨⟨by kernel_rfl, f_matrix_Row_holds⟩, trivial⟩)
  have hE : EOk Tryd.prog E_matrix_In := eok_te ok
  exact fn_sound (L := LL_matrix_In) hE hS hB (draws_ok hE hS (by kernel_rfl)) hBS (fn := Tryd.f32) (by kernel_rfl) (c := bodyOf Tryd.f32) (by kernel_rfl) (stepped_of (ls := [(3, l_matrix_In_3L)]) rfl rfl ⟨by kernel_rfl, fun _ => rfl, l_matrix_In_3_step, stepsI_end (by kernel_rfl)⟩) fun x r h => ⟨fuel, (f_matrix_In_run fuel x).trans h⟩

/-! (gamehall/rat.Q).Sign -/
noncomputable def E_rat_Q_Sign : Env := { te := te, spec := [], body := [] }
def LL_rat_Q_Sign : Loops := []
def f_rat_Q_Sign (k : Nat) (a0 : Bool × ((List Int) × (List Int))) : Option (Int) :=
  if ((a0.2.1.length : Int) == 0) = true then
    some 0
  else
    if a0.1 = true then
      some (-1)
    else
      some 1
theorem f_rat_Q_Sign_run (k : Nat) (x : denL [.pair .bool (.pair (.slice (.int .u32)) (.slice (.int .u32)))]) : runFn E_rat_Q_Sign LL_rat_Q_Sign k 37 Tryd.f37 [.pair .bool (.pair (.slice (.int .u32)) (.slice (.int .u32)))] [.imm (.int .i64)] x = f_rat_Q_Sign k x := by kernel_rfl
noncomputable def S_rat_Q_Sign : Vm.Spec := { ps := [.pair .bool (.pair (.slice (.int .u32)) (.slice (.int .u32)))], rs := [.imm (.int .i64)], f := fun x => f_rat_Q_Sign fuel x }
theorem f_rat_Q_Sign_holds : Vm.Spec.holds Tryd.prog 37 S_rat_Q_Sign := by
  have hB : BodiesOk Tryd.prog E_rat_Q_Sign := bodies_none rfl
  have hBS : BodiesStepped E_rat_Q_Sign LL_rat_Q_Sign := bodies_stepped_none rfl
  have hS : SpecsOk Tryd.prog E_rat_Q_Sign := specs_ok (by exact trivial)
  have hE : EOk Tryd.prog E_rat_Q_Sign := eok_te ok
  exact fn_sound (L := LL_rat_Q_Sign) hE hS hB (draws_ok hE hS (by kernel_rfl)) hBS (fn := Tryd.f37) (by kernel_rfl) (c := bodyOf Tryd.f37) (by kernel_rfl) (stepped_none rfl) fun x r h => ⟨fuel, (f_rat_Q_Sign_run fuel x).trans h⟩

/-! gamehall/rat.low -/
noncomputable def E_rat_low : Env := { te := te, spec := [(62, S_nat_N_Cmp), (64, S_nat_Of), (70, S_nat_N_Gcd), (73, S_nat_N_Div)], body := [] }
def LL_rat_low : Loops := []
def f_rat_low (k : Nat) (a0 : Bool) (a1 : List Int) (a2 : List Int) : Option (Bool × ((List Int) × (List Int))) :=
  if ((a1.length : Int) == 0) = true then
    some (false, ([], []))
  else
    (f_nat_N_Gcd fuel a1 a2).bind fun r1 =>
    (f_nat_Of fuel 1).bind fun r2 =>
    (f_nat_N_Cmp fuel r1 r2).bind fun r3 =>
    if decide (r3 > 0) = true then
      (f_nat_N_Div fuel a1 r1).bind fun r4 =>
      (f_nat_N_Div fuel a2 r1).bind fun r5 =>
      some (a0, (r4.1, r5.1))
    else
      some (a0, (a1, a2))
theorem f_rat_low_run (k : Nat) (x : denL [.bool, .slice (.int .u32), .slice (.int .u32)]) : runFn E_rat_low LL_rat_low k 52 Tryd.f52 [.bool, .slice (.int .u32), .slice (.int .u32)] [.imm (.pair .bool (.pair (.slice (.int .u32)) (.slice (.int .u32))))] x = f_rat_low k x.1 x.2.1 x.2.2 := by kernel_rfl
noncomputable def S_rat_low : Vm.Spec := { ps := [.bool, .slice (.int .u32), .slice (.int .u32)], rs := [.imm (.pair .bool (.pair (.slice (.int .u32)) (.slice (.int .u32))))], f := fun x => f_rat_low fuel x.1 x.2.1 x.2.2 }
theorem f_rat_low_holds : Vm.Spec.holds Tryd.prog 52 S_rat_low := by
  have hB : BodiesOk Tryd.prog E_rat_low := bodies_none rfl
  have hBS : BodiesStepped E_rat_low LL_rat_low := bodies_stepped_none rfl
  have hS : SpecsOk Tryd.prog E_rat_low := specs_ok (by exact ⟨⟨by kernel_rfl, f_nat_N_Cmp_holds⟩, ⟨by kernel_rfl, f_nat_Of_holds⟩, ⟨by kernel_rfl, f_nat_N_Gcd_holds⟩, ⟨by kernel_rfl, f_nat_N_Div_holds⟩, trivial⟩)
  have hE : EOk Tryd.prog E_rat_low := eok_te ok
  exact fn_sound (L := LL_rat_low) hE hS hB (draws_ok hE hS (by kernel_rfl)) hBS (fn := Tryd.f52) (by kernel_rfl) (c := bodyOf Tryd.f52) (by kernel_rfl) (stepped_none rfl) fun x r h => ⟨fuel, (f_rat_low_run fuel x).trans h⟩

/-! (gamehall/rat.Q).whole -/
noncomputable def E_rat_Q_whole : Env := { te := te, spec := [(64, S_nat_Of)], body := [] }
def LL_rat_Q_whole : Loops := []
def f_rat_Q_whole (k : Nat) (a0 : Bool × ((List Int) × (List Int))) : Option (List Int) :=
  if ((a0.2.2.length : Int) == 0) = true then
    (f_nat_Of fuel 1).bind fun r1 =>
    some r1
  else
    some a0.2.2
theorem f_rat_Q_whole_run (k : Nat) (x : denL [.pair .bool (.pair (.slice (.int .u32)) (.slice (.int .u32)))]) : runFn E_rat_Q_whole LL_rat_Q_whole k 60 Tryd.f60 [.pair .bool (.pair (.slice (.int .u32)) (.slice (.int .u32)))] [.imm (.slice (.int .u32))] x = f_rat_Q_whole k x := by kernel_rfl
noncomputable def S_rat_Q_whole : Vm.Spec := { ps := [.pair .bool (.pair (.slice (.int .u32)) (.slice (.int .u32)))], rs := [.imm (.slice (.int .u32))], f := fun x => f_rat_Q_whole fuel x }
theorem f_rat_Q_whole_holds : Vm.Spec.holds Tryd.prog 60 S_rat_Q_whole := by
  have hB : BodiesOk Tryd.prog E_rat_Q_whole := bodies_none rfl
  have hBS : BodiesStepped E_rat_Q_whole LL_rat_Q_whole := bodies_stepped_none rfl
  have hS : SpecsOk Tryd.prog E_rat_Q_whole := specs_ok (by exact ⟨⟨by kernel_rfl, f_nat_Of_holds⟩, trivial⟩)
  have hE : EOk Tryd.prog E_rat_Q_whole := eok_te ok
  exact fn_sound (L := LL_rat_Q_whole) hE hS hB (draws_ok hE hS (by kernel_rfl)) hBS (fn := Tryd.f60) (by kernel_rfl) (c := bodyOf Tryd.f60) (by kernel_rfl) (stepped_none rfl) fun x r h => ⟨fuel, (f_rat_Q_whole_run fuel x).trans h⟩

/-! (gamehall/nat.N).Add -/
noncomputable def E_nat_N_Add : Env := { te := te, spec := [], body := [] }
def l_nat_N_Add_6H : Ann := { slots := [(1, .one (.val (.slice (.int .u32)))), (5, .one (.own 76 (.int .u32))), (6, .one (.val (.int .u32))), (20, .one (.val (.slice (.int .u32)))), (21, .one (.val (.int .i64))), (22, .one (.val (.int .i64)))], objs := [(76, .buf (.int .u32))] }
def l_nat_N_Add_6X : Ann := { slots := [(5, .one (.own 76 (.int .u32))), (6, .one (.val (.int .u32)))], objs := [(76, .buf (.int .u32))] }
def l_nat_N_Add_6R : Ann := { slots := [], objs := [] }
def l_nat_N_Add_6 : Nat → List Int → Int → List Int → Int → Int → List Int → Option (LR l_nat_N_Add_6X l_nat_N_Add_6R)
  | 0, _, _, _, _, _, _ => none
  | m + 1, s1, s6, s20, s21, s22, b76 =>
    if decide (s22 < s21) = true then
      if (0 : Int) ≤ s22 then
        if s22 < s20.length then
          if decide (s22 < (s1.length : Int)) = true then
            if (0 : Int) ≤ s22 then
              if s22 < s1.length then
                if (b76.length + 1) * 4 ≤ 140737488355328 then
                  l_nat_N_Add_6 m s1 (IntKind.u32.wrap ((IntKind.u32.wrap ((IntKind.u32.wrap ((s20.getD s22.toNat 0) + s6)) + (s1.getD s22.toNat 0))).tdiv 1000000000)) s20 s21 (IntKind.i64.wrap (s22 + 1)) (b76 ++ [(IntKind.u32.wrap ((IntKind.u32.wrap ((s20.getD s22.toNat 0) + s6)) + (s1.getD s22.toNat 0))).tmod 1000000000])
                else none
              else none
            else none
          else
            if (b76.length + 1) * 4 ≤ 140737488355328 then
              l_nat_N_Add_6 m s1 (IntKind.u32.wrap ((IntKind.u32.wrap ((s20.getD s22.toNat 0) + s6)).tdiv 1000000000)) s20 s21 (IntKind.i64.wrap (s22 + 1)) (b76 ++ [(IntKind.u32.wrap ((s20.getD s22.toNat 0) + s6)).tmod 1000000000])
            else none
        else none
      else none
    else
      some (.exit (s6, b76, ()))
def l_nat_N_Add_6L : LSpec := { h := l_nat_N_Add_6H, x := l_nat_N_Add_6X, r := l_nat_N_Add_6R, xid := 0, rt := false, pins := [], f := fun k d => l_nat_N_Add_6 k d.1 d.2.1 d.2.2.1 d.2.2.2.1 d.2.2.2.2.1 d.2.2.2.2.2.1 }
def LL_nat_N_Add : Loops := [([61], [(6, l_nat_N_Add_6L)])]
def f_nat_N_Add (k : Nat) (a0 : List Int) (a1 : List Int) : Option (List Int) :=
  if decide ((a0.length : Int) < (a1.length : Int)) = true then
    if (0 : Int) ≤ IntKind.i64.wrap ((a1.length : Int) + 1) then
      if (IntKind.i64.wrap ((a1.length : Int) + 1)) * 4 ≤ 281474976710656 then
        match l_nat_N_Add_6 k a0 0 a1 (a1.length : Int) 0 (List.replicate 0 0) with
        | none => none
        | some (.exit d1) =>
          if decide (d1.1 > 0) = true then
            if (d1.2.1.length + 1) * 4 ≤ 140737488355328 then
              some (d1.2.1 ++ [d1.1])
            else none
          else
            some d1.2.1
        | some (.ret d1) =>
          none
      else none
    else none
  else
    if (0 : Int) ≤ IntKind.i64.wrap ((a0.length : Int) + 1) then
      if (IntKind.i64.wrap ((a0.length : Int) + 1)) * 4 ≤ 281474976710656 then
        match l_nat_N_Add_6 k a1 0 a0 (a0.length : Int) 0 (List.replicate 0 0) with
        | none => none
        | some (.exit d2) =>
          if decide (d2.1 > 0) = true then
            if (d2.2.1.length + 1) * 4 ≤ 140737488355328 then
              some (d2.2.1 ++ [d2.1])
            else none
          else
            some d2.2.1
        | some (.ret d2) =>
          none
      else none
    else none
theorem l_nat_N_Add_6_step (m : Nat) (d : dens l_nat_N_Add_6H.tys) : l_nat_N_Add_6L.f (m + 1) d = round E_nat_N_Add LL_nat_N_Add m [61] 55 (loopN (bodyOf Tryd.f61) 0) l_nat_N_Add_6L (l_nat_N_Add_6L.f m) d := by kernel_rfl
theorem f_nat_N_Add_run (k : Nat) (x : denL [.slice (.int .u32), .slice (.int .u32)]) : runFn E_nat_N_Add LL_nat_N_Add k 61 Tryd.f61 [.slice (.int .u32), .slice (.int .u32)] [.fresh (.int .u32)] x = f_nat_N_Add k x.1 x.2 := by kernel_rfl
noncomputable def S_nat_N_Add : Vm.Spec := { ps := [.slice (.int .u32), .slice (.int .u32)], rs := [.fresh (.int .u32)], f := fun x => f_nat_N_Add fuel x.1 x.2 }
theorem f_nat_N_Add_holds : Vm.Spec.holds Tryd.prog 61 S_nat_N_Add := by
  have hB : BodiesOk Tryd.prog E_nat_N_Add := bodies_none rfl
  have hBS : BodiesStepped E_nat_N_Add LL_nat_N_Add := bodies_stepped_none rfl
  have hS : SpecsOk Tryd.prog E_nat_N_Add := specs_ok (by exact trivial)
  have hE : EOk Tryd.prog E_nat_N_Add := eok_te ok
  exact fn_sound (L := LL_nat_N_Add) hE hS hB (draws_ok hE hS (by kernel_rfl)) hBS (fn := Tryd.f61) (by kernel_rfl) (c := bodyOf Tryd.f61) (by kernel_rfl) (stepped_of (ls := [(6, l_nat_N_Add_6L)]) rfl rfl ⟨by kernel_rfl, fun _ => rfl, l_nat_N_Add_6_step, stepsI_end (by kernel_rfl)⟩) fun x r h => ⟨fuel, (f_nat_N_Add_run fuel x).trans h⟩

/-! (gamehall/rat.Q).Add -/
noncomputable def E_rat_Q_Add : Env := { te := te, spec := [(52, S_rat_low), (59, S_nat_N_Mul), (60, S_rat_Q_whole), (61, S_nat_N_Add), (62, S_nat_N_Cmp), (63, S_nat_N_Sub)], body := [] }
def LL_rat_Q_Add : Loops := []
def f_rat_Q_Add (k : Nat) (a0 : Bool × ((List Int) × (List Int))) (a1 : Bool × ((List Int) × (List Int))) : Option (Bool × ((List Int) × (List Int))) :=
  if ((a0.2.1.length : Int) == 0) = true then
    some a1
  else
    if ((a1.2.1.length : Int) == 0) = true then
      some a0
    else
      (f_rat_Q_whole fuel a1).bind fun r1 =>
      (f_nat_N_Mul fuel a0.2.1 r1).bind fun r2 =>
      (f_rat_Q_whole fuel a0).bind fun r3 =>
      (f_nat_N_Mul fuel a1.2.1 r3).bind fun r4 =>
      (f_rat_Q_whole fuel a0).bind fun r5 =>
      (f_rat_Q_whole fuel a1).bind fun r6 =>
      (f_nat_N_Mul fuel r5 r6).bind fun r7 =>
      if (a0.1 == a1.1) = true then
        (f_nat_N_Add fuel r2 r4).bind fun r8 =>
        (f_rat_low fuel a0.1 r8 r7).bind fun r9 =>
        some r9
      else
        (f_nat_N_Cmp fuel r2 r4).bind fun r10 =>
        if decide (r10 ≥ 0) = true then
          (f_nat_N_Sub fuel r2 r4).bind fun r11 =>
          (f_rat_low fuel a0.1 r11 r7).bind fun r12 =>
          some r12
        else
          (f_nat_N_Sub fuel r4 r2).bind fun r13 =>
          (f_rat_low fuel a1.1 r13 r7).bind fun r14 =>
          some r14
theorem f_rat_Q_Add_run (k : Nat) (x : denL [.pair .bool (.pair (.slice (.int .u32)) (.slice (.int .u32))), .pair .bool (.pair (.slice (.int .u32)) (.slice (.int .u32)))]) : runFn E_rat_Q_Add LL_rat_Q_Add k 34 Tryd.f34 [.pair .bool (.pair (.slice (.int .u32)) (.slice (.int .u32))), .pair .bool (.pair (.slice (.int .u32)) (.slice (.int .u32)))] [.imm (.pair .bool (.pair (.slice (.int .u32)) (.slice (.int .u32))))] x = f_rat_Q_Add k x.1 x.2 := by kernel_rfl
noncomputable def S_rat_Q_Add : Vm.Spec := { ps := [.pair .bool (.pair (.slice (.int .u32)) (.slice (.int .u32))), .pair .bool (.pair (.slice (.int .u32)) (.slice (.int .u32)))], rs := [.imm (.pair .bool (.pair (.slice (.int .u32)) (.slice (.int .u32))))], f := fun x => f_rat_Q_Add fuel x.1 x.2 }
theorem f_rat_Q_Add_holds : Vm.Spec.holds Tryd.prog 34 S_rat_Q_Add := by
  have hB : BodiesOk Tryd.prog E_rat_Q_Add := bodies_none rfl
  have hBS : BodiesStepped E_rat_Q_Add LL_rat_Q_Add := bodies_stepped_none rfl
  have hS : SpecsOk Tryd.prog E_rat_Q_Add := specs_ok (by exact ⟨⟨by kernel_rfl, f_rat_low_holds⟩, ⟨by kernel_rfl, f_nat_N_Mul_holds⟩, ⟨by kernel_rfl, f_rat_Q_whole_holds⟩, ⟨by kernel_rfl, f_nat_N_Add_holds⟩, ⟨by kernel_rfl, f_nat_N_Cmp_holds⟩, ⟨by kernel_rfl, f_nat_N_Sub_holds⟩, trivial⟩)
  have hE : EOk Tryd.prog E_rat_Q_Add := eok_te ok
  exact fn_sound (L := LL_rat_Q_Add) hE hS hB (draws_ok hE hS (by kernel_rfl)) hBS (fn := Tryd.f34) (by kernel_rfl) (c := bodyOf Tryd.f34) (by kernel_rfl) (stepped_none rfl) fun x r h => ⟨fuel, (f_rat_Q_Add_run fuel x).trans h⟩

/-! (gamehall/rat.Q).Neg -/
noncomputable def E_rat_Q_Neg : Env := { te := te, spec := [], body := [] }
def LL_rat_Q_Neg : Loops := []
def f_rat_Q_Neg (k : Nat) (a0 : Bool × ((List Int) × (List Int))) : Option (Bool × ((List Int) × (List Int))) :=
  if ((a0.2.1.length : Int) == 0) = true then
    some a0
  else
    some (!a0.1, a0.2)
theorem f_rat_Q_Neg_run (k : Nat) (x : denL [.pair .bool (.pair (.slice (.int .u32)) (.slice (.int .u32)))]) : runFn E_rat_Q_Neg LL_rat_Q_Neg k 71 Tryd.f71 [.pair .bool (.pair (.slice (.int .u32)) (.slice (.int .u32)))] [.imm (.pair .bool (.pair (.slice (.int .u32)) (.slice (.int .u32))))] x = f_rat_Q_Neg k x := by kernel_rfl
noncomputable def S_rat_Q_Neg : Vm.Spec := { ps := [.pair .bool (.pair (.slice (.int .u32)) (.slice (.int .u32)))], rs := [.imm (.pair .bool (.pair (.slice (.int .u32)) (.slice (.int .u32))))], f := fun x => f_rat_Q_Neg fuel x }
theorem f_rat_Q_Neg_holds : Vm.Spec.holds Tryd.prog 71 S_rat_Q_Neg := by
  have hB : BodiesOk Tryd.prog E_rat_Q_Neg := bodies_none rfl
  have hBS : BodiesStepped E_rat_Q_Neg LL_rat_Q_Neg := bodies_stepped_none rfl
  have hS : SpecsOk Tryd.prog E_rat_Q_Neg := specs_ok (by exact trivial)
  have hE : EOk Tryd.prog E_rat_Q_Neg := eok_te ok
  exact fn_sound (L := LL_rat_Q_Neg) hE hS hB (draws_ok hE hS (by kernel_rfl)) hBS (fn := Tryd.f71) (by kernel_rfl) (c := bodyOf Tryd.f71) (by kernel_rfl) (stepped_none rfl) fun x r h => ⟨fuel, (f_rat_Q_Neg_run fuel x).trans h⟩

/-! (gamehall/rat.Q).Sub -/
noncomputable def E_rat_Q_Sub : Env := { te := te, spec := [(34, S_rat_Q_Add), (71, S_rat_Q_Neg)], body := [] }
def LL_rat_Q_Sub : Loops := []
def f_rat_Q_Sub (k : Nat) (a0 : Bool × ((List Int) × (List Int))) (a1 : Bool × ((List Int) × (List Int))) : Option (Bool × ((List Int) × (List Int))) :=
  (f_rat_Q_Neg fuel a1).bind fun r1 =>
  (f_rat_Q_Add fuel a0 r1).bind fun r2 =>
  some r2
theorem f_rat_Q_Sub_run (k : Nat) (x : denL [.pair .bool (.pair (.slice (.int .u32)) (.slice (.int .u32))), .pair .bool (.pair (.slice (.int .u32)) (.slice (.int .u32)))]) : runFn E_rat_Q_Sub LL_rat_Q_Sub k 46 Tryd.f46 [.pair .bool (.pair (.slice (.int .u32)) (.slice (.int .u32))), .pair .bool (.pair (.slice (.int .u32)) (.slice (.int .u32)))] [.imm (.pair .bool (.pair (.slice (.int .u32)) (.slice (.int .u32))))] x = f_rat_Q_Sub k x.1 x.2 := by kernel_rfl
noncomputable def S_rat_Q_Sub : Vm.Spec := { ps := [.pair .bool (.pair (.slice (.int .u32)) (.slice (.int .u32))), .pair .bool (.pair (.slice (.int .u32)) (.slice (.int .u32)))], rs := [.imm (.pair .bool (.pair (.slice (.int .u32)) (.slice (.int .u32))))], f := fun x => f_rat_Q_Sub fuel x.1 x.2 }
theorem f_rat_Q_Sub_holds : Vm.Spec.holds Tryd.prog 46 S_rat_Q_Sub := by
  have hB : BodiesOk Tryd.prog E_rat_Q_Sub := bodies_none rfl
  have hBS : BodiesStepped E_rat_Q_Sub LL_rat_Q_Sub := bodies_stepped_none rfl
  have hS : SpecsOk Tryd.prog E_rat_Q_Sub := specs_ok (by exact ⟨⟨by kernel_rfl, f_rat_Q_Add_holds⟩, ⟨by kernel_rfl, f_rat_Q_Neg_holds⟩, trivial⟩)
  have hE : EOk Tryd.prog E_rat_Q_Sub := eok_te ok
  exact fn_sound (L := LL_rat_Q_Sub) hE hS hB (draws_ok hE hS (by kernel_rfl)) hBS (fn := Tryd.f46) (by kernel_rfl) (c := bodyOf Tryd.f46) (by kernel_rfl) (stepped_none rfl) fun x r h => ⟨fuel, (f_rat_Q_Sub_run fuel x).trans h⟩

/-! (gamehall/rat.Q).Cmp -/
noncomputable def E_rat_Q_Cmp : Env := { te := te, spec := [(37, S_rat_Q_Sign), (46, S_rat_Q_Sub)], body := [] }
def LL_rat_Q_Cmp : Loops := []
def f_rat_Q_Cmp (k : Nat) (a0 : Bool × ((List Int) × (List Int))) (a1 : Bool × ((List Int) × (List Int))) : Option (Int) :=
  (f_rat_Q_Sub fuel a0 a1).bind fun r1 =>
  (f_rat_Q_Sign fuel r1).bind fun r2 =>
  some r2
theorem f_rat_Q_Cmp_run (k : Nat) (x : denL [.pair .bool (.pair (.slice (.int .u32)) (.slice (.int .u32))), .pair .bool (.pair (.slice (.int .u32)) (.slice (.int .u32)))]) : runFn E_rat_Q_Cmp LL_rat_Q_Cmp k 33 Tryd.f33 [.pair .bool (.pair (.slice (.int .u32)) (.slice (.int .u32))), .pair .bool (.pair (.slice (.int .u32)) (.slice (.int .u32)))] [.imm (.int .i64)] x = f_rat_Q_Cmp k x.1 x.2 := by kernel_rfl
noncomputable def S_rat_Q_Cmp : Vm.Spec := { ps := [.pair .bool (.pair (.slice (.int .u32)) (.slice (.int .u32))), .pair .bool (.pair (.slice (.int .u32)) (.slice (.int .u32)))], rs := [.imm (.int .i64)], f := fun x => f_rat_Q_Cmp fuel x.1 x.2 }
theorem f_rat_Q_Cmp_holds : Vm.Spec.holds Tryd.prog 33 S_rat_Q_Cmp := by
  have hB : BodiesOk Tryd.prog E_rat_Q_Cmp := bodies_none rfl
  have hBS : BodiesStepped E_rat_Q_Cmp LL_rat_Q_Cmp := bodies_stepped_none rfl
  have hS : SpecsOk Tryd.prog E_rat_Q_Cmp := specs_ok (by exact ⟨⟨by kernel_rfl, f_rat_Q_Sign_holds⟩, ⟨by kernel_rfl, f_rat_Q_Sub_holds⟩, trivial⟩)
  have hE : EOk Tryd.prog E_rat_Q_Cmp := eok_te ok
  exact fn_sound (L := LL_rat_Q_Cmp) hE hS hB (draws_ok hE hS (by kernel_rfl)) hBS (fn := Tryd.f33) (by kernel_rfl) (c := bodyOf Tryd.f33) (by kernel_rfl) (stepped_none rfl) fun x r h => ⟨fuel, (f_rat_Q_Cmp_run fuel x).trans h⟩

/-! gamehall/regret.Play -/
noncomputable def E_regret_Play : Env := { te := te, spec := [(31, S_matgame_Check), (32, S_matrix_In), (33, S_rat_Q_Cmp), (34, S_rat_Q_Add)], body := [] }
def l_regret_Play_13H : Ann := { slots := [(8, .one (.own 132 (.pair .bool (.pair (.slice (.int .u32)) (.slice (.int .u32)))))), (11, .one (.fix (.pbox 44 0))), (42, .one (.own 132 (.pair .bool (.pair (.slice (.int .u32)) (.slice (.int .u32)))))), (43, .one (.val (.int .i64))), (44, .one (.val (.int .i64)))], objs := [(132, .buf (.pair .bool (.pair (.slice (.int .u32)) (.slice (.int .u32))))), (44, .box [.val (.arr 2 (.int .i64))])] }
def l_regret_Play_13X : Ann := { slots := [(8, .one (.own 132 (.pair .bool (.pair (.slice (.int .u32)) (.slice (.int .u32)))))), (11, .one (.fix (.pbox 44 0)))], objs := [(132, .buf (.pair .bool (.pair (.slice (.int .u32)) (.slice (.int .u32))))), (44, .box [.val (.arr 2 (.int .i64))])] }
def l_regret_Play_13R : Ann := { slots := [], objs := [] }
def l_regret_Play_19H : Ann := { slots := [(9, .one (.own 152 (.pair .bool (.pair (.slice (.int .u32)) (.slice (.int .u32)))))), (11, .one (.fix (.pbox 44 0))), (60, .one (.own 152 (.pair .bool (.pair (.slice (.int .u32)) (.slice (.int .u32)))))), (61, .one (.val (.int .i64))), (62, .one (.val (.int .i64)))], objs := [(152, .buf (.pair .bool (.pair (.slice (.int .u32)) (.slice (.int .u32))))), (44, .box [.val (.arr 2 (.int .i64))])] }
def l_regret_Play_19X : Ann := { slots := [(9, .one (.own 152 (.pair .bool (.pair (.slice (.int .u32)) (.slice (.int .u32)))))), (11, .one (.fix (.pbox 44 0)))], objs := [(152, .buf (.pair .bool (.pair (.slice (.int .u32)) (.slice (.int .u32))))), (44, .box [.val (.arr 2 (.int .i64))])] }
def l_regret_Play_19R : Ann := { slots := [], objs := [] }
def l_regret_Play_25H : Ann := { slots := [(7, .one (.own 120 (.slice (.pair .bool (.pair (.slice (.int .u32)) (.slice (.int .u32))))))), (8, .one (.own 132 (.pair .bool (.pair (.slice (.int .u32)) (.slice (.int .u32)))))), (11, .one (.fix (.pbox 44 0))), (79, .one (.val (.int .i64))), (80, .one (.val (.int .i64)))], objs := [(120, .buf (.slice (.pair .bool (.pair (.slice (.int .u32)) (.slice (.int .u32)))))), (132, .buf (.pair .bool (.pair (.slice (.int .u32)) (.slice (.int .u32))))), (44, .box [.val (.arr 2 (.int .i64))])] }
def l_regret_Play_25X : Ann := { slots := [(7, .one (.own 120 (.slice (.pair .bool (.pair (.slice (.int .u32)) (.slice (.int .u32))))))), (8, .one (.own 132 (.pair .bool (.pair (.slice (.int .u32)) (.slice (.int .u32)))))), (11, .one (.fix (.pbox 44 0)))], objs := [(120, .buf (.slice (.pair .bool (.pair (.slice (.int .u32)) (.slice (.int .u32)))))), (132, .buf (.pair .bool (.pair (.slice (.int .u32)) (.slice (.int .u32))))), (44, .box [.val (.arr 2 (.int .i64))])] }
def l_regret_Play_25R : Ann := { slots := [], objs := [] }
def l_regret_Play_30H : Ann := { slots := [(7, .one (.own 120 (.slice (.pair .bool (.pair (.slice (.int .u32)) (.slice (.int .u32))))))), (9, .one (.own 152 (.pair .bool (.pair (.slice (.int .u32)) (.slice (.int .u32)))))), (11, .one (.fix (.pbox 44 0))), (101, .one (.val (.int .i64))), (102, .one (.val (.int .i64)))], objs := [(120, .buf (.slice (.pair .bool (.pair (.slice (.int .u32)) (.slice (.int .u32)))))), (152, .buf (.pair .bool (.pair (.slice (.int .u32)) (.slice (.int .u32))))), (44, .box [.val (.arr 2 (.int .i64))])] }
def l_regret_Play_30X : Ann := { slots := [(7, .one (.own 120 (.slice (.pair .bool (.pair (.slice (.int .u32)) (.slice (.int .u32))))))), (9, .one (.own 152 (.pair .bool (.pair (.slice (.int .u32)) (.slice (.int .u32)))))), (11, .one (.fix (.pbox 44 0)))], objs := [(120, .buf (.slice (.pair .bool (.pair (.slice (.int .u32)) (.slice (.int .u32)))))), (152, .buf (.pair .bool (.pair (.slice (.int .u32)) (.slice (.int .u32))))), (44, .box [.val (.arr 2 (.int .i64))])] }
def l_regret_Play_30R : Ann := { slots := [], objs := [] }
def l_regret_Play_10H : Ann := { slots := [(7, .one (.own 120 (.slice (.pair .bool (.pair (.slice (.int .u32)) (.slice (.int .u32))))))), (8, .one (.own 132 (.pair .bool (.pair (.slice (.int .u32)) (.slice (.int .u32)))))), (9, .one (.own 152 (.pair .bool (.pair (.slice (.int .u32)) (.slice (.int .u32)))))), (10, .one (.own 500 (.arr 2 (.int .i64)))), (39, .one (.val (.int .i64))), (40, .one (.val (.int .i64)))], objs := [(120, .buf (.slice (.pair .bool (.pair (.slice (.int .u32)) (.slice (.int .u32)))))), (132, .buf (.pair .bool (.pair (.slice (.int .u32)) (.slice (.int .u32))))), (152, .buf (.pair .bool (.pair (.slice (.int .u32)) (.slice (.int .u32))))), (500, .buf (.arr 2 (.int .i64)))] }
def l_regret_Play_10X : Ann := { slots := [(10, .one (.own 500 (.arr 2 (.int .i64))))], objs := [(500, .buf (.arr 2 (.int .i64))), (120, .buf (.slice (.pair .bool (.pair (.slice (.int .u32)) (.slice (.int .u32)))))), (132, .buf (.pair .bool (.pair (.slice (.int .u32)) (.slice (.int .u32))))), (152, .buf (.pair .bool (.pair (.slice (.int .u32)) (.slice (.int .u32)))))] }
def l_regret_Play_10R : Ann := { slots := [], objs := [] }
def l_regret_Play_13 : Nat → Int → Int → List (Bool × ((List Int) × (List Int))) → List Int → Option (LR l_regret_Play_13X l_regret_Play_13R)
  | 0, _, _, _, _ => none
  | m + 1, s43, s44, b132, b44_0 =>
    if decide (s44 < s43) = true then
      if (0 : Int) ≤ s44 then
        if s44 < b132.length then
          if (0 : Int) ≤ b44_0.getD 0 0 then
            if b44_0.getD 0 0 < b132.length then
              (f_rat_Q_Cmp fuel ((b132.getD s44.toNat (false, ([], []))).1, ((b132.getD s44.toNat (false, ([], []))).2)) ((b132.getD ((b44_0.getD 0 0).toNat) (false, ([], []))).1, ((b132.getD ((b44_0.getD 0 0).toNat) (false, ([], []))).2))).bind fun r1 =>
              if decide (r1 > 0) = true then
                l_regret_Play_13 m s43 (IntKind.i64.wrap (s44 + 1)) b132 (b44_0.set 0 s44)
              else
                l_regret_Play_13 m s43 (IntKind.i64.wrap (s44 + 1)) b132 b44_0
            else none
          else none
        else none
      else none
    else
      some (.exit (b132, b44_0, ()))
def l_regret_Play_13L : LSpec := { h := l_regret_Play_13H, x := l_regret_Play_13X, r := l_regret_Play_13R, xid := 2, rt := false, pins := [132, 44], f := fun k d => l_regret_Play_13 k d.1 d.2.1 d.2.2.1 d.2.2.2.1 }
def l_regret_Play_19 : Nat → Int → Int → List (Bool × ((List Int) × (List Int))) → List Int → Option (LR l_regret_Play_19X l_regret_Play_19R)
  | 0, _, _, _, _ => none
  | m + 1, s61, s62, b152, b44_0 =>
    if decide (s62 < s61) = true then
      if (0 : Int) ≤ s62 then
        if s62 < b152.length then
          if (0 : Int) ≤ b44_0.getD 1 0 then
            if b44_0.getD 1 0 < b152.length then
              (f_rat_Q_Cmp fuel ((b152.getD s62.toNat (false, ([], []))).1, ((b152.getD s62.toNat (false, ([], []))).2)) ((b152.getD ((b44_0.getD 1 0).toNat) (false, ([], []))).1, ((b152.getD ((b44_0.getD 1 0).toNat) (false, ([], []))).2))).bind fun r1 =>
              if decide (r1 < 0) = true then
                l_regret_Play_19 m s61 (IntKind.i64.wrap (s62 + 1)) b152 (b44_0.set 1 s62)
              else
                l_regret_Play_19 m s61 (IntKind.i64.wrap (s62 + 1)) b152 b44_0
            else none
          else none
        else none
      else none
    else
      some (.exit (b152, b44_0, ()))
def l_regret_Play_19L : LSpec := { h := l_regret_Play_19H, x := l_regret_Play_19X, r := l_regret_Play_19R, xid := 4, rt := false, pins := [152, 44], f := fun k d => l_regret_Play_19 k d.1 d.2.1 d.2.2.1 d.2.2.2.1 }
def l_regret_Play_25 : Nat → Int → Int → List (List (Bool × ((List Int) × (List Int)))) → List (Bool × ((List Int) × (List Int))) → List Int → Option (LR l_regret_Play_25X l_regret_Play_25R)
  | 0, _, _, _, _, _ => none
  | m + 1, s79, s80, b120, b132, b44_0 =>
    if decide (s80 < s79) = true then
      if (0 : Int) ≤ s80 then
        if s80 < b132.length then
          if (0 : Int) ≤ s80 then
            if s80 < b120.length then
              if (0 : Int) ≤ b44_0.getD 1 0 then
                if b44_0.getD 1 0 < (b120.getD s80.toNat []).length then
                  (f_rat_Q_Add fuel ((b132.getD s80.toNat (false, ([], []))).1, ((b132.getD s80.toNat (false, ([], []))).2)) (((b120.getD s80.toNat []).getD ((b44_0.getD 1 0).toNat) (false, ([], []))).1, (((b120.getD s80.toNat []).getD ((b44_0.getD 1 0).toNat) (false, ([], []))).2))).bind fun r1 =>
                  if (0 : Int) ≤ s80 then
                    if s80 < b132.length then
                      l_regret_Play_25 m s79 (IntKind.i64.wrap (s80 + 1)) b120 (b132.set s80.toNat r1) b44_0
                    else none
                  else none
                else none
              else none
            else none
          else none
        else none
      else none
    else
      some (.exit (b120, b132, b44_0, ()))
def l_regret_Play_25L : LSpec := { h := l_regret_Play_25H, x := l_regret_Play_25X, r := l_regret_Play_25R, xid := 6, rt := false, pins := [120, 132, 44], f := fun k d => l_regret_Play_25 k d.1 d.2.1 d.2.2.1 d.2.2.2.1 d.2.2.2.2.1 }
def l_regret_Play_30 : Nat → Int → Int → List (List (Bool × ((List Int) × (List Int)))) → List (Bool × ((List Int) × (List Int))) → List Int → Option (LR l_regret_Play_30X l_regret_Play_30R)
  | 0, _, _, _, _, _ => none
  | m + 1, s101, s102, b120, b152, b44_0 =>
    if decide (s102 < s101) = true then
      if (0 : Int) ≤ s102 then
        if s102 < b152.length then
          if (0 : Int) ≤ b44_0.getD 0 0 then
            if b44_0.getD 0 0 < b120.length then
              if (0 : Int) ≤ s102 then
                if s102 < (b120.getD ((b44_0.getD 0 0).toNat) []).length then
                  (f_rat_Q_Add fuel ((b152.getD s102.toNat (false, ([], []))).1, ((b152.getD s102.toNat (false, ([], []))).2)) (((b120.getD ((b44_0.getD 0 0).toNat) []).getD s102.toNat (false, ([], []))).1, (((b120.getD ((b44_0.getD 0 0).toNat) []).getD s102.toNat (false, ([], []))).2))).bind fun r1 =>
                  if (0 : Int) ≤ s102 then
                    if s102 < b152.length then
                      l_regret_Play_30 m s101 (IntKind.i64.wrap (s102 + 1)) b120 (b152.set s102.toNat r1) b44_0
                    else none
                  else none
                else none
              else none
            else none
          else none
        else none
      else none
    else
      some (.exit (b120, b152, b44_0, ()))
def l_regret_Play_30L : LSpec := { h := l_regret_Play_30H, x := l_regret_Play_30X, r := l_regret_Play_30R, xid := 8, rt := false, pins := [120, 152, 44], f := fun k d => l_regret_Play_30 k d.1 d.2.1 d.2.2.1 d.2.2.2.1 d.2.2.2.2.1 }
def l_regret_Play_10 : Nat → Int → Int → List (List (Bool × ((List Int) × (List Int)))) → List (Bool × ((List Int) × (List Int))) → List (Bool × ((List Int) × (List Int))) → List (List Int) → Option (LR l_regret_Play_10X l_regret_Play_10R)
  | 0, _, _, _, _, _, _ => none
  | m + 1, s39, s40, b120, b132, b152, b500 =>
    if decide (s40 < s39) = true then
      match l_regret_Play_13 m (b132.length : Int) 0 b132 (List.replicate 2 0) with
      | none => none
      | some (.exit d1) =>
        match l_regret_Play_19 m (b152.length : Int) 0 b152 d1.2.1 with
        | none => none
        | some (.exit d2) =>
          match l_regret_Play_25 m (d1.1.length : Int) 0 b120 d1.1 d2.2.1 with
          | none => none
          | some (.exit d3) =>
            match l_regret_Play_30 m (d2.1.length : Int) 0 d3.1 d2.1 d3.2.2.1 with
            | none => none
            | some (.exit d4) =>
              if (b500.length + 1) * 16 ≤ 140737488355328 then
                l_regret_Play_10 m s39 (IntKind.i64.wrap (s40 + 1)) d4.1 d3.2.1 d4.2.1 (b500 ++ [d4.2.2.1])
              else none
            | some (.ret d4) =>
              none
          | some (.ret d3) =>
            none
        | some (.ret d2) =>
          none
      | some (.ret d1) =>
        none
    else
      some (.exit (b500, b120, b132, b152, ()))
def l_regret_Play_10L : LSpec := { h := l_regret_Play_10H, x := l_regret_Play_10X, r := l_regret_Play_10R, xid := 0, rt := false, pins := [120, 132, 152], f := fun k d => l_regret_Play_10 k d.1 d.2.1 d.2.2.1 d.2.2.2.1 d.2.2.2.2.1 d.2.2.2.2.2.1 }
def LL_regret_Play : Loops := [([9], [(10, l_regret_Play_10L), (13, l_regret_Play_13L), (19, l_regret_Play_19L), (25, l_regret_Play_25L), (30, l_regret_Play_30L)])]
def f_regret_Play (k : Nat) (a0 : List (List ByteArray)) (a1 : Int) : Option (List (List Int) × Int) :=
  (f_matgame_Check fuel a0).bind fun r1 =>
  if (r1 != 0) = true then
    some ([], r1)
  else
    if decide (a1 < 0) = false then
      if decide (a1 > 200) = true then
        some ([], 4)
      else
        (f_matrix_In fuel a0).bind fun r2 =>
        if (0 : Int) < r2.length then
          if decide (0 ≤ (r2.length : Int) ∧ (r2.length : Int) ≤ (r2.length : Int) ∧ (r2.length : Int) * 56 ≤ 281474976710656) = true then
            if decide (0 ≤ ((r2.getD 0 []).length : Int) ∧ ((r2.getD 0 []).length : Int) ≤ ((r2.getD 0 []).length : Int) ∧ ((r2.getD 0 []).length : Int) * 56 ≤ 281474976710656) = true then
              if decide (0 ≤ (r2.length : Int) ∧ (r2.length : Int) ≤ (r2.length : Int) ∧ (r2.length : Int) * 56 ≤ 281474976710656) = true then
                if decide (0 ≤ ((r2.getD 0 []).length : Int) ∧ ((r2.getD 0 []).length : Int) ≤ ((r2.getD 0 []).length : Int) ∧ ((r2.getD 0 []).length : Int) * 56 ≤ 281474976710656) = true then
                  if decide (0 ≤ ((r2.getD 0 []).length : Int) ∧ ((r2.getD 0 []).length : Int) ≤ ((r2.getD 0 []).length : Int) ∧ ((r2.getD 0 []).length : Int) * 56 ≤ 281474976710656) = true then
                    match l_regret_Play_10 k a1 0 r2 (List.replicate ((r2.length : Int).toNat) ((false, ([], [])) : Bool × ((List Int) × (List Int)))) (List.replicate (((r2.getD 0 []).length : Int).toNat) ((false, ([], [])) : Bool × ((List Int) × (List Int)))) [] with
                    | none => none
                    | some (.exit d3) =>
                      some (d3.1, 0)
                    | some (.ret d3) =>
                      none
                  else none
                else none
              else none
            else none
          else none
        else none
    else
      some ([], 4)
theorem l_regret_Play_13_step (m : Nat) (d : dens l_regret_Play_13H.tys) : l_regret_Play_13L.f (m + 1) d = round E_regret_Play LL_regret_Play m [9] 128 (loopN (bodyOf Tryd.f9) 1) l_regret_Play_13L (l_regret_Play_13L.f m) d := by kernel_rfl
theorem l_regret_Play_19_step (m : Nat) (d : dens l_regret_Play_19H.tys) : l_regret_Play_19L.f (m + 1) d = round E_regret_Play LL_regret_Play m [9] 128 (loopN (bodyOf Tryd.f9) 2) l_regret_Play_19L (l_regret_Play_19L.f m) d := by kernel_rfl
theorem l_regret_Play_25_step (m : Nat) (d : dens l_regret_Play_25H.tys) : l_regret_Play_25L.f (m + 1) d = round E_regret_Play LL_regret_Play m [9] 128 (loopN (bodyOf Tryd.f9) 3) l_regret_Play_25L (l_regret_Play_25L.f m) d := by kernel_rfl
theorem l_regret_Play_30_step (m : Nat) (d : dens l_regret_Play_30H.tys) : l_regret_Play_30L.f (m + 1) d = round E_regret_Play LL_regret_Play m [9] 128 (loopN (bodyOf Tryd.f9) 4) l_regret_Play_30L (l_regret_Play_30L.f m) d := by kernel_rfl
theorem l_regret_Play_10_step (m : Nat) (d : dens l_regret_Play_10H.tys) : l_regret_Play_10L.f (m + 1) d = round E_regret_Play LL_regret_Play m [9] 128 (loopN (bodyOf Tryd.f9) 0) l_regret_Play_10L (l_regret_Play_10L.f m) d := by kernel_rfl
theorem f_regret_Play_run (k : Nat) (x : denL [.slice (.slice .str), .int .i64]) : runFn E_regret_Play LL_regret_Play k 9 Tryd.f9 [.slice (.slice .str), .int .i64] [.fresh (.arr 2 (.int .i64)), .imm (.int .i64)] x = f_regret_Play k x.1 x.2 := by kernel_rfl
noncomputable def S_regret_Play : Vm.Spec := { ps := [.slice (.slice .str), .int .i64], rs := [.fresh (.arr 2 (.int .i64)), .imm (.int .i64)], f := fun x => f_regret_Play fuel x.1 x.2 }
theorem f_regret_Play_holds : Vm.Spec.holds Tryd.prog 9 S_regret_Play := by
  have hB : BodiesOk Tryd.prog E_regret_Play := bodies_none rfl
  have hBS : BodiesStepped E_regret_Play LL_regret_Play := bodies_stepped_none rfl
  have hS : SpecsOk Tryd.prog E_regret_Play := specs_ok (by exact ⟨⟨by kernel_rfl, f_matgame_Check_holds⟩, ⟨by kernel_rfl, f_matrix_In_holds⟩, ⟨by kernel_rfl, f_rat_Q_Cmp_holds⟩, ⟨by kernel_rfl, f_rat_Q_Add_holds⟩, trivial⟩)
  have hE : EOk Tryd.prog E_regret_Play := eok_te ok
  exact fn_sound (L := LL_regret_Play) hE hS hB (draws_ok hE hS (by kernel_rfl)) hBS (fn := Tryd.f9) (by kernel_rfl) (c := bodyOf Tryd.f9) (by kernel_rfl) (stepped_of (ls := [(10, l_regret_Play_10L), (13, l_regret_Play_13L), (19, l_regret_Play_19L), (25, l_regret_Play_25L), (30, l_regret_Play_30L)]) rfl rfl ⟨by kernel_rfl, fun _ => rfl, l_regret_Play_10_step, by kernel_rfl, fun _ => rfl, l_regret_Play_13_step, by kernel_rfl, fun _ => rfl, l_regret_Play_19_step, by kernel_rfl, fun _ => rfl, l_regret_Play_25_step, by kernel_rfl, fun _ => rfl, l_regret_Play_30_step, stepsI_end (by kernel_rfl)⟩) fun x r h => ⟨fuel, (f_regret_Play_run fuel x).trans h⟩

/-! slices.Equal[[][2]int,[2]int] -/
noncomputable def E_slices_Equal_2int : Env := { te := te, spec := [], body := [] }
def l_slices_Equal_2int_4H : Ann := { slots := [(0, .one (.val (.slice (.arr 2 (.int .i64))))), (1, .one (.val (.slice (.arr 2 (.int .i64))))), (12, .one (.val (.int .i64))), (13, .one (.val (.int .i64)))], objs := [] }
def l_slices_Equal_2int_4X : Ann := { slots := [], objs := [] }
def l_slices_Equal_2int_4R : Ann := { slots := [(4, .one (.val .bool))], objs := [] }
def l_slices_Equal_2int_4 : Nat → List (List Int) → List (List Int) → Int → Int → Option (LR l_slices_Equal_2int_4X l_slices_Equal_2int_4R)
  | 0, _, _, _, _ => none
  | m + 1, s0, s1, s12, s13 =>
    if decide (s13 < s12) = true then
      if (0 : Int) ≤ s13 then
        if s13 < s0.length then
          if (0 : Int) ≤ s13 then
            if s13 < s1.length then
              if (!(s0.getD s13.toNat (List.replicate 2 0) == s1.getD s13.toNat (List.replicate 2 0))) = true then
                some (.ret (false, ()))
              else
                l_slices_Equal_2int_4 m s0 s1 s12 (IntKind.i64.wrap (s13 + 1))
            else none
          else none
        else none
      else none
    else
      some (.exit ())
def l_slices_Equal_2int_4L : LSpec := { h := l_slices_Equal_2int_4H, x := l_slices_Equal_2int_4X, r := l_slices_Equal_2int_4R, xid := 0, rt := true, pins := [], f := fun k d => l_slices_Equal_2int_4 k d.1 d.2.1 d.2.2.1 d.2.2.2.1 }
def LL_slices_Equal_2int : Loops := [([10], [(4, l_slices_Equal_2int_4L)])]
def f_slices_Equal_2int (k : Nat) (a0 : List (List Int)) (a1 : List (List Int)) : Option (Bool) :=
  if ((a0.length : Int) != (a1.length : Int)) = true then
    some false
  else
    match l_slices_Equal_2int_4 k a0 a1 (a0.length : Int) 0 with
    | none => none
    | some (.exit d1) =>
      some true
    | some (.ret d1) =>
      some d1.1
theorem l_slices_Equal_2int_4_step (m : Nat) (d : dens l_slices_Equal_2int_4H.tys) : l_slices_Equal_2int_4L.f (m + 1) d = round E_slices_Equal_2int LL_slices_Equal_2int m [10] 26 (loopN (bodyOf Tryd.f10) 0) l_slices_Equal_2int_4L (l_slices_Equal_2int_4L.f m) d := by kernel_rfl
theorem f_slices_Equal_2int_run (k : Nat) (x : denL [.slice (.arr 2 (.int .i64)), .slice (.arr 2 (.int .i64))]) : runFn E_slices_Equal_2int LL_slices_Equal_2int k 10 Tryd.f10 [.slice (.arr 2 (.int .i64)), .slice (.arr 2 (.int .i64))] [.imm .bool] x = f_slices_Equal_2int k x.1 x.2 := by kernel_rfl
noncomputable def S_slices_Equal_2int : Vm.Spec := { ps := [.slice (.arr 2 (.int .i64)), .slice (.arr 2 (.int .i64))], rs := [.imm .bool], f := fun x => f_slices_Equal_2int fuel x.1 x.2 }
theorem f_slices_Equal_2int_holds : Vm.Spec.holds Tryd.prog 10 S_slices_Equal_2int := by
  have hB : BodiesOk Tryd.prog E_slices_Equal_2int := bodies_none rfl
  have hBS : BodiesStepped E_slices_Equal_2int LL_slices_Equal_2int := bodies_stepped_none rfl
  have hS : SpecsOk Tryd.prog E_slices_Equal_2int := specs_ok (by exact trivial)
  have hE : EOk Tryd.prog E_slices_Equal_2int := eok_te ok
  exact fn_sound (L := LL_slices_Equal_2int) hE hS hB (draws_ok hE hS (by kernel_rfl)) hBS (fn := Tryd.f10) (by kernel_rfl) (c := bodyOf Tryd.f10) (by kernel_rfl) (stepped_of (ls := [(4, l_slices_Equal_2int_4L)]) rfl rfl ⟨by kernel_rfl, fun _ => rfl, l_slices_Equal_2int_4_step, stepsI_end (by kernel_rfl)⟩) fun x r h => ⟨fuel, (f_slices_Equal_2int_run fuel x).trans h⟩

/-! gamehall/regret.Check -/
noncomputable def E_regret_Check : Env := { te := te, spec := [(31, S_matgame_Check)], body := [] }
def l_regret_Check_7H : Ann := { slots := [(0, .one (.val (.slice (.slice .str)))), (16, .one (.val (.slice (.arr 2 (.int .i64))))), (17, .one (.val (.int .i64))), (18, .one (.val (.int .i64)))], objs := [] }
def l_regret_Check_7X : Ann := { slots := [], objs := [] }
def l_regret_Check_7R : Ann := { slots := [(4, .one (.val (.int .i64)))], objs := [] }
def l_regret_Check_7 : Nat → List (List ByteArray) → List (List Int) → Int → Int → Option (LR l_regret_Check_7X l_regret_Check_7R)
  | 0, _, _, _, _ => none
  | m + 1, s0, s16, s17, s18 =>
    if decide (s18 < s17) = true then
      if (0 : Int) ≤ s18 then
        if s18 < s16.length then
          if decide ((s16.getD s18.toNat (List.replicate 2 0)).getD 0 0 < 0) = false then
            if decide ((s16.getD s18.toNat (List.replicate 2 0)).getD 0 0 ≥ (s0.length : Int)) = false then
              if decide ((s16.getD s18.toNat (List.replicate 2 0)).getD 1 0 < 0) = false then
                if (0 : Int) < s0.length then
                  if decide ((s16.getD s18.toNat (List.replicate 2 0)).getD 1 0 ≥ ((s0.getD 0 []).length : Int)) = true then
                    some (.ret (4, ()))
                  else
                    l_regret_Check_7 m s0 s16 s17 (IntKind.i64.wrap (s18 + 1))
                else none
              else
                some (.ret (4, ()))
            else
              some (.ret (4, ()))
          else
            some (.ret (4, ()))
        else none
      else none
    else
      some (.exit ())
def l_regret_Check_7L : LSpec := { h := l_regret_Check_7H, x := l_regret_Check_7X, r := l_regret_Check_7R, xid := 0, rt := true, pins := [], f := fun k d => l_regret_Check_7 k d.1 d.2.1 d.2.2.1 d.2.2.2.1 }
def LL_regret_Check : Loops := [([11], [(7, l_regret_Check_7L)])]
def f_regret_Check (k : Nat) (a0 : List (List ByteArray)) (a1 : List (List Int)) : Option (Int) :=
  (f_matgame_Check fuel a0).bind fun r1 =>
  if (r1 != 0) = true then
    some r1
  else
    if decide ((a1.length : Int) > 200) = true then
      some 2
    else
      match l_regret_Check_7 k a0 a1 (a1.length : Int) 0 with
      | none => none
      | some (.exit d2) =>
        some 0
      | some (.ret d2) =>
        some d2.1
theorem l_regret_Check_7_step (m : Nat) (d : dens l_regret_Check_7H.tys) : l_regret_Check_7L.f (m + 1) d = round E_regret_Check LL_regret_Check m [11] 47 (loopN (bodyOf Tryd.f11) 0) l_regret_Check_7L (l_regret_Check_7L.f m) d := by kernel_rfl
theorem f_regret_Check_run (k : Nat) (x : denL [.slice (.slice .str), .slice (.arr 2 (.int .i64))]) : runFn E_regret_Check LL_regret_Check k 11 Tryd.f11 [.slice (.slice .str), .slice (.arr 2 (.int .i64))] [.imm (.int .i64)] x = f_regret_Check k x.1 x.2 := by kernel_rfl
noncomputable def S_regret_Check : Vm.Spec := { ps := [.slice (.slice .str), .slice (.arr 2 (.int .i64))], rs := [.imm (.int .i64)], f := fun x => f_regret_Check fuel x.1 x.2 }
theorem f_regret_Check_holds : Vm.Spec.holds Tryd.prog 11 S_regret_Check := by
  have hB : BodiesOk Tryd.prog E_regret_Check := bodies_none rfl
  have hBS : BodiesStepped E_regret_Check LL_regret_Check := bodies_stepped_none rfl
  have hS : SpecsOk Tryd.prog E_regret_Check := specs_ok (by exact ⟨⟨by kernel_rfl, f_matgame_Check_holds⟩, trivial⟩)
  have hE : EOk Tryd.prog E_regret_Check := eok_te ok
  exact fn_sound (L := LL_regret_Check) hE hS hB (draws_ok hE hS (by kernel_rfl)) hBS (fn := Tryd.f11) (by kernel_rfl) (c := bodyOf Tryd.f11) (by kernel_rfl) (stepped_of (ls := [(7, l_regret_Check_7L)]) rfl rfl ⟨by kernel_rfl, fun _ => rfl, l_regret_Check_7_step, stepsI_end (by kernel_rfl)⟩) fun x r h => ⟨fuel, (f_regret_Check_run fuel x).trans h⟩

/-! gamehall/rat.Int -/
noncomputable def E_rat_Int : Env := { te := te, spec := [(64, S_nat_Of)], body := [] }
def LL_rat_Int : Loops := []
def f_rat_Int (k : Nat) (a0 : Int) : Option (Bool × ((List Int) × (List Int))) :=
  if decide (a0 < 0) = true then
    (f_nat_Of fuel (IntKind.i64.wrap (0 - a0))).bind fun r1 =>
    (f_nat_Of fuel 1).bind fun r2 =>
    some (true, (r1, r2))
  else
    (f_nat_Of fuel a0).bind fun r3 =>
    (f_nat_Of fuel 1).bind fun r4 =>
    some (false, (r3, r4))
theorem f_rat_Int_run (k : Nat) (x : denL [.int .i64]) : runFn E_rat_Int LL_rat_Int k 38 Tryd.f38 [.int .i64] [.imm (.pair .bool (.pair (.slice (.int .u32)) (.slice (.int .u32))))] x = f_rat_Int k x := by kernel_rfl
noncomputable def S_rat_Int : Vm.Spec := { ps := [.int .i64], rs := [.imm (.pair .bool (.pair (.slice (.int .u32)) (.slice (.int .u32))))], f := fun x => f_rat_Int fuel x }
theorem f_rat_Int_holds : Vm.Spec.holds Tryd.prog 38 S_rat_Int := by
  have hB : BodiesOk Tryd.prog E_rat_Int := bodies_none rfl
  have hBS : BodiesStepped E_rat_Int LL_rat_Int := bodies_stepped_none rfl
  have hS : SpecsOk Tryd.prog E_rat_Int := specs_ok (by exact ⟨⟨by kernel_rfl, f_nat_Of_holds⟩, trivial⟩)
  have hE : EOk Tryd.prog E_rat_Int := eok_te ok
  exact fn_sound (L := LL_rat_Int) hE hS hB (draws_ok hE hS (by kernel_rfl)) hBS (fn := Tryd.f38) (by kernel_rfl) (c := bodyOf Tryd.f38) (by kernel_rfl) (stepped_none rfl) fun x r h => ⟨fuel, (f_rat_Int_run fuel x).trans h⟩

/-! (gamehall/rat.Q).Quo -/
noncomputable def E_rat_Q_Quo : Env := { te := te, spec := [(52, S_rat_low), (59, S_nat_N_Mul), (60, S_rat_Q_whole)], body := [] }
def LL_rat_Q_Quo : Loops := []
def f_rat_Q_Quo (k : Nat) (a0 : Bool × ((List Int) × (List Int))) (a1 : Bool × ((List Int) × (List Int))) : Option (Bool × ((List Int) × (List Int))) :=
  if ((a0.2.1.length : Int) == 0) = false then
    if ((a1.2.1.length : Int) == 0) = true then
      some (false, ([], []))
    else
      (f_rat_Q_whole fuel a1).bind fun r1 =>
      (f_nat_N_Mul fuel a0.2.1 r1).bind fun r2 =>
      (f_rat_Q_whole fuel a0).bind fun r3 =>
      (f_nat_N_Mul fuel r3 a1.2.1).bind fun r4 =>
      (f_rat_low fuel (!(a0.1 == a1.1)) r2 r4).bind fun r5 =>
      some r5
  else
    some (false, ([], []))
theorem f_rat_Q_Quo_run (k : Nat) (x : denL [.pair .bool (.pair (.slice (.int .u32)) (.slice (.int .u32))), .pair .bool (.pair (.slice (.int .u32)) (.slice (.int .u32)))]) : runFn E_rat_Q_Quo LL_rat_Q_Quo k 39 Tryd.f39 [.pair .bool (.pair (.slice (.int .u32)) (.slice (.int .u32))), .pair .bool (.pair (.slice (.int .u32)) (.slice (.int .u32)))] [.imm (.pair .bool (.pair (.slice (.int .u32)) (.slice (.int .u32))))] x = f_rat_Q_Quo k x.1 x.2 := by kernel_rfl
noncomputable def S_rat_Q_Quo : Vm.Spec := { ps := [.pair .bool (.pair (.slice (.int .u32)) (.slice (.int .u32))), .pair .bool (.pair (.slice (.int .u32)) (.slice (.int .u32)))], rs := [.imm (.pair .bool (.pair (.slice (.int .u32)) (.slice (.int .u32))))], f := fun x => f_rat_Q_Quo fuel x.1 x.2 }
theorem f_rat_Q_Quo_holds : Vm.Spec.holds Tryd.prog 39 S_rat_Q_Quo := by
  have hB : BodiesOk Tryd.prog E_rat_Q_Quo := bodies_none rfl
  have hBS : BodiesStepped E_rat_Q_Quo LL_rat_Q_Quo := bodies_stepped_none rfl
  have hS : SpecsOk Tryd.prog E_rat_Q_Quo := specs_ok (by exact ⟨⟨by kernel_rfl, f_rat_low_holds⟩, ⟨by kernel_rfl, f_nat_N_Mul_holds⟩, ⟨by kernel_rfl, f_rat_Q_whole_holds⟩, trivial⟩)
  have hE : EOk Tryd.prog E_rat_Q_Quo := eok_te ok
  exact fn_sound (L := LL_rat_Q_Quo) hE hS hB (draws_ok hE hS (by kernel_rfl)) hBS (fn := Tryd.f39) (by kernel_rfl) (c := bodyOf Tryd.f39) (by kernel_rfl) (stepped_none rfl) fun x r h => ⟨fuel, (f_rat_Q_Quo_run fuel x).trans h⟩

/-! strings.trimLeftByte -/
noncomputable def E_strings_trimLeftByte : Env := { te := te, spec := [], body := [] }
def l_strings_trimLeftByte_1H : Ann := { slots := [(0, .one (.val .str)), (1, .one (.val (.int .u8)))], objs := [] }
def l_strings_trimLeftByte_1X : Ann := { slots := [(0, .one (.val .str))], objs := [] }
def l_strings_trimLeftByte_1R : Ann := { slots := [], objs := [] }
def l_strings_trimLeftByte_1 : Nat → ByteArray → Int → Option (LR l_strings_trimLeftByte_1X l_strings_trimLeftByte_1R)
  | 0, _, _ => none
  | m + 1, s0, s1 =>
    if decide ((s0.size : Int) > 0) = true then
      if (0 : Int) < (s0.size : Int) then
        if (((s0.data.getD 0 0).toNat : Int) == s1) = true then
          if (1 : Int) ≤ s0.size then
            l_strings_trimLeftByte_1 m (s0.extract 1 s0.size) s1
          else none
        else
          some (.exit (s0, ()))
      else none
    else
      some (.exit (s0, ()))
def l_strings_trimLeftByte_1L : LSpec := { h := l_strings_trimLeftByte_1H, x := l_strings_trimLeftByte_1X, r := l_strings_trimLeftByte_1R, xid := 0, rt := false, pins := [], f := fun k d => l_strings_trimLeftByte_1 k d.1 d.2.1 }
def LL_strings_trimLeftByte : Loops := [([85], [(1, l_strings_trimLeftByte_1L)])]
def f_strings_trimLeftByte (k : Nat) (a0 : ByteArray) (a1 : Int) : Option (ByteArray) :=
  match l_strings_trimLeftByte_1 k a0 a1 with
  | none => none
  | some (.exit d1) =>
    some d1.1
  | some (.ret d1) =>
    none
theorem l_strings_trimLeftByte_1_step (m : Nat) (d : dens l_strings_trimLeftByte_1H.tys) : l_strings_trimLeftByte_1L.f (m + 1) d = round E_strings_trimLeftByte LL_strings_trimLeftByte m [85] 17 (loopN (bodyOf Tryd.f85) 0) l_strings_trimLeftByte_1L (l_strings_trimLeftByte_1L.f m) d := by kernel_rfl
theorem f_strings_trimLeftByte_run (k : Nat) (x : denL [.str, .int .u8]) : runFn E_strings_trimLeftByte LL_strings_trimLeftByte k 85 Tryd.f85 [.str, .int .u8] [.imm .str] x = f_strings_trimLeftByte k x.1 x.2 := by kernel_rfl
noncomputable def S_strings_trimLeftByte : Vm.Spec := { ps := [.str, .int .u8], rs := [.imm .str], f := fun x => f_strings_trimLeftByte fuel x.1 x.2 }
theorem f_strings_trimLeftByte_holds : Vm.Spec.holds Tryd.prog 85 S_strings_trimLeftByte := by
  have hB : BodiesOk Tryd.prog E_strings_trimLeftByte := bodies_none rfl
  have hBS : BodiesStepped E_strings_trimLeftByte LL_strings_trimLeftByte := bodies_stepped_none rfl
  have hS : SpecsOk Tryd.prog E_strings_trimLeftByte := specs_ok (by exact trivial)
  have hE : EOk Tryd.prog E_strings_trimLeftByte := eok_te ok
  exact fn_sound (L := LL_strings_trimLeftByte) hE hS hB (draws_ok hE hS (by kernel_rfl)) hBS (fn := Tryd.f85) (by kernel_rfl) (c := bodyOf Tryd.f85) (by kernel_rfl) (stepped_of (ls := [(1, l_strings_trimLeftByte_1L)]) rfl rfl ⟨by kernel_rfl, fun _ => rfl, l_strings_trimLeftByte_1_step, stepsI_end (by kernel_rfl)⟩) fun x r h => ⟨fuel, (f_strings_trimLeftByte_run fuel x).trans h⟩

/-! strings.TrimLeft -/
noncomputable def E_strings_TrimLeft : Env := { te := te, spec := [(85, S_strings_trimLeftByte)], body := [] }
def LL_strings_TrimLeft : Loops := []
def f_strings_TrimLeft (k : Nat) (a0 : ByteArray) (a1 : ByteArray) : Option (ByteArray) :=
  if ((a0.toList == (⟨#[]⟩ : ByteArray).toList)) = false then
    if ((a1.toList == (⟨#[]⟩ : ByteArray).toList)) = true then
      some a0
    else
      if ((a1.size : Int) == 1) = true then
        if (0 : Int) < (a1.size : Int) then
          if decide (((a1.data.getD 0 0).toNat : Int) < 128) = true then
            if (0 : Int) < (a1.size : Int) then
              (f_strings_trimLeftByte fuel a0 ((a1.data.getD 0 0).toNat : Int)).bind fun r1 =>
              some r1
            else none
          else none
        else none
      else none
  else
    some a0
theorem f_strings_TrimLeft_run (k : Nat) (x : denL [.str, .str]) : runFn E_strings_TrimLeft LL_strings_TrimLeft k 82 Tryd.f82 [.str, .str] [.imm .str] x = f_strings_TrimLeft k x.1 x.2 := by kernel_rfl
noncomputable def S_strings_TrimLeft : Vm.Spec := { ps := [.str, .str], rs := [.imm .str], f := fun x => f_strings_TrimLeft fuel x.1 x.2 }
theorem f_strings_TrimLeft_holds : Vm.Spec.holds Tryd.prog 82 S_strings_TrimLeft := by
  have hB : BodiesOk Tryd.prog E_strings_TrimLeft := bodies_none rfl
  have hBS : BodiesStepped E_strings_TrimLeft LL_strings_TrimLeft := bodies_stepped_none rfl
  have hS : SpecsOk Tryd.prog E_strings_TrimLeft := specs_ok (by exact ⟨⟨by kernel_rfl, f_strings_trimLeftByte_holds⟩, trivial⟩)
  have hE : EOk Tryd.prog E_strings_TrimLeft := eok_te ok
  exact fn_sound (L := LL_strings_TrimLeft) hE hS hB (draws_ok hE hS (by kernel_rfl)) hBS (fn := Tryd.f82) (by kernel_rfl) (c := bodyOf Tryd.f82) (by kernel_rfl) (stepped_none rfl) fun x r h => ⟨fuel, (f_strings_TrimLeft_run fuel x).trans h⟩

/-! (gamehall/nat.N).Text -/
noncomputable def E_nat_N_Text : Env := { te := te, spec := [(82, S_strings_TrimLeft)], body := [] }
def l_nat_N_Text_10H : Ann := { slots := [(5, .one (.val (.int .u32))), (6, .one (.fix (.pbox 24 0))), (7, .one (.val (.int .i64)))], objs := [(24, .box [.val (.arr 9 (.int .u8))])] }
def l_nat_N_Text_10X : Ann := { slots := [(6, .one (.fix (.pbox 24 0)))], objs := [(24, .box [.val (.arr 9 (.int .u8))])] }
def l_nat_N_Text_10R : Ann := { slots := [], objs := [] }
def l_nat_N_Text_5H : Ann := { slots := [(0, .one (.val (.slice (.int .u32)))), (3, .one (.own 56 (.int .u8))), (4, .one (.val (.int .i64)))], objs := [(56, .buf (.int .u8))] }
def l_nat_N_Text_5X : Ann := { slots := [(3, .one (.own 56 (.int .u8)))], objs := [(56, .buf (.int .u8))] }
def l_nat_N_Text_5R : Ann := { slots := [], objs := [] }
def l_nat_N_Text_10 : Nat → Int → Int → List Int → Option (LR l_nat_N_Text_10X l_nat_N_Text_10R)
  | 0, _, _, _ => none
  | m + 1, s5, s7, b24_0 =>
    if decide (s7 ≥ 0) = true then
      if (0 : Int) ≤ s7 then
        if s7 < 9 then
          l_nat_N_Text_10 m (IntKind.u32.wrap (s5.tdiv 10)) (IntKind.i64.wrap (s7 - 1)) (b24_0.set s7.toNat (IntKind.u8.wrap (IntKind.u32.wrap (48 + (s5.tmod 10)))))
        else none
      else none
    else
      some (.exit (b24_0, ()))
def l_nat_N_Text_10L : LSpec := { h := l_nat_N_Text_10H, x := l_nat_N_Text_10X, r := l_nat_N_Text_10R, xid := 2, rt := false, pins := [24], f := fun k d => l_nat_N_Text_10 k d.1 d.2.1 d.2.2.1 }
def l_nat_N_Text_5 : Nat → List Int → Int → List Int → Option (LR l_nat_N_Text_5X l_nat_N_Text_5R)
  | 0, _, _, _ => none
  | m + 1, s0, s4, b56 =>
    if decide (s4 ≥ 0) = true then
      if (0 : Int) ≤ s4 then
        if s4 < s0.length then
          match l_nat_N_Text_10 m (s0.getD s4.toNat 0) 8 (List.replicate 9 0) with
          | none => none
          | some (.exit d1) =>
            if (b56.length + ((d1.1.take 9).drop 0).length) * 1 ≤ 140737488355328 then
              l_nat_N_Text_5 m s0 (IntKind.i64.wrap (s4 - 1)) (b56 ++ ((d1.1.take 9).drop 0))
            else none
          | some (.ret d1) =>
            none
        else none
      else none
    else
      some (.exit (b56, ()))
def l_nat_N_Text_5L : LSpec := { h := l_nat_N_Text_5H, x := l_nat_N_Text_5X, r := l_nat_N_Text_5R, xid := 0, rt := false, pins := [], f := fun k d => l_nat_N_Text_5 k d.1 d.2.1 d.2.2.1 }
def LL_nat_N_Text : Loops := [([74], [(5, l_nat_N_Text_5L), (10, l_nat_N_Text_10L)])]
def f_nat_N_Text (k : Nat) (a0 : List Int) : Option (ByteArray) :=
  if ((a0.length : Int) == 0) = true then
    some (⟨#[48]⟩ : ByteArray)
  else
    if (0 : Int) ≤ IntKind.i64.wrap (9 * (a0.length : Int)) then
      if (IntKind.i64.wrap (9 * (a0.length : Int))) * 1 ≤ 281474976710656 then
        match l_nat_N_Text_5 k a0 (IntKind.i64.wrap ((a0.length : Int) - 1)) (List.replicate 0 0) with
        | none => none
        | some (.exit d1) =>
          (f_strings_TrimLeft fuel (⟨(d1.1.map fun n => UInt8.ofNat n.toNat).toArray⟩ : ByteArray) (⟨#[48]⟩ : ByteArray)).bind fun r2 =>
          some r2
        | some (.ret d1) =>
          none
      else none
    else none
theorem l_nat_N_Text_10_step (m : Nat) (d : dens l_nat_N_Text_10H.tys) : l_nat_N_Text_10L.f (m + 1) d = round E_nat_N_Text LL_nat_N_Text m [74] 44 (loopN (bodyOf Tryd.f74) 1) l_nat_N_Text_10L (l_nat_N_Text_10L.f m) d := by kernel_rfl
theorem l_nat_N_Text_5_step (m : Nat) (d : dens l_nat_N_Text_5H.tys) : l_nat_N_Text_5L.f (m + 1) d = round E_nat_N_Text LL_nat_N_Text m [74] 44 (loopN (bodyOf Tryd.f74) 0) l_nat_N_Text_5L (l_nat_N_Text_5L.f m) d := by kernel_rfl
theorem f_nat_N_Text_run (k : Nat) (x : denL [.slice (.int .u32)]) : runFn E_nat_N_Text LL_nat_N_Text k 74 Tryd.f74 [.slice (.int .u32)] [.imm .str] x = f_nat_N_Text k x := by kernel_rfl
noncomputable def S_nat_N_Text : Vm.Spec := { ps := [.slice (.int .u32)], rs := [.imm .str], f := fun x => f_nat_N_Text fuel x }
theorem f_nat_N_Text_holds : Vm.Spec.holds Tryd.prog 74 S_nat_N_Text := by
  have hB : BodiesOk Tryd.prog E_nat_N_Text := bodies_none rfl
  have hBS : BodiesStepped E_nat_N_Text LL_nat_N_Text := bodies_stepped_none rfl
  have hS : SpecsOk Tryd.prog E_nat_N_Text := specs_ok (by exact ⟨⟨by kernel_rfl, f_strings_TrimLeft_holds⟩, trivial⟩)
  have hE : EOk Tryd.prog E_nat_N_Text := eok_te ok
  exact fn_sound (L := LL_nat_N_Text) hE hS hB (draws_ok hE hS (by kernel_rfl)) hBS (fn := Tryd.f74) (by kernel_rfl) (c := bodyOf Tryd.f74) (by kernel_rfl) (stepped_of (ls := [(5, l_nat_N_Text_5L), (10, l_nat_N_Text_10L)]) rfl rfl ⟨by kernel_rfl, fun _ => rfl, l_nat_N_Text_5_step, by kernel_rfl, fun _ => rfl, l_nat_N_Text_10_step, stepsI_end (by kernel_rfl)⟩) fun x r h => ⟨fuel, (f_nat_N_Text_run fuel x).trans h⟩

/-! (gamehall/rat.Q).Out -/
noncomputable def E_rat_Q_Out : Env := { te := te, spec := [(60, S_rat_Q_whole), (74, S_nat_N_Text)], body := [] }
def LL_rat_Q_Out : Loops := []
def f_rat_Q_Out (k : Nat) (a0 : Bool × ((List Int) × (List Int))) : Option (ByteArray) :=
  if ((a0.2.1.length : Int) == 0) = true then
    some (⟨#[48]⟩ : ByteArray)
  else
    (f_nat_N_Text fuel a0.2.1).bind fun r1 =>
    if a0.1 = true then
      if (⟨#[45]⟩ : ByteArray).size + r1.size ≤ 4611686018427387904 then
        (f_rat_Q_whole fuel a0).bind fun r2 =>
        (f_nat_N_Text fuel r2).bind fun r3 =>
        if (!(r3.toList == (⟨#[49]⟩ : ByteArray).toList)) = true then
          if (⟨#[47]⟩ : ByteArray).size + r3.size ≤ 4611686018427387904 then
            if ((⟨#[45]⟩ : ByteArray) ++ r1).size + ((⟨#[47]⟩ : ByteArray) ++ r3).size ≤ 4611686018427387904 then
              some (((⟨#[45]⟩ : ByteArray) ++ r1) ++ ((⟨#[47]⟩ : ByteArray) ++ r3))
            else none
          else none
        else
          some ((⟨#[45]⟩ : ByteArray) ++ r1)
      else none
    else
      (f_rat_Q_whole fuel a0).bind fun r4 =>
      (f_nat_N_Text fuel r4).bind fun r5 =>
      if (!(r5.toList == (⟨#[49]⟩ : ByteArray).toList)) = true then
        if (⟨#[47]⟩ : ByteArray).size + r5.size ≤ 4611686018427387904 then
          if r1.size + ((⟨#[47]⟩ : ByteArray) ++ r5).size ≤ 4611686018427387904 then
            some (r1 ++ ((⟨#[47]⟩ : ByteArray) ++ r5))
          else none
        else none
      else
        some r1
theorem f_rat_Q_Out_run (k : Nat) (x : denL [.pair .bool (.pair (.slice (.int .u32)) (.slice (.int .u32)))]) : runFn E_rat_Q_Out LL_rat_Q_Out k 55 Tryd.f55 [.pair .bool (.pair (.slice (.int .u32)) (.slice (.int .u32)))] [.imm .str] x = f_rat_Q_Out k x := by kernel_rfl
noncomputable def S_rat_Q_Out : Vm.Spec := { ps := [.pair .bool (.pair (.slice (.int .u32)) (.slice (.int .u32)))], rs := [.imm .str], f := fun x => f_rat_Q_Out fuel x }
theorem f_rat_Q_Out_holds : Vm.Spec.holds Tryd.prog 55 S_rat_Q_Out := by
  have hB : BodiesOk Tryd.prog E_rat_Q_Out := bodies_none rfl
  have hBS : BodiesStepped E_rat_Q_Out LL_rat_Q_Out := bodies_stepped_none rfl
  have hS : SpecsOk Tryd.prog E_rat_Q_Out := specs_ok (by exact ⟨⟨by kernel_rfl, f_rat_Q_whole_holds⟩, ⟨by kernel_rfl, f_nat_N_Text_holds⟩, trivial⟩)
  have hE : EOk Tryd.prog E_rat_Q_Out := eok_te ok
  exact fn_sound (L := LL_rat_Q_Out) hE hS hB (draws_ok hE hS (by kernel_rfl)) hBS (fn := Tryd.f55) (by kernel_rfl) (c := bodyOf Tryd.f55) (by kernel_rfl) (stepped_none rfl) fun x r h => ⟨fuel, (f_rat_Q_Out_run fuel x).trans h⟩

/-! (gamehall/nat.N).Digits -/
noncomputable def E_nat_N_Digits : Env := { te := te, spec := [(74, S_nat_N_Text)], body := [] }
def LL_nat_N_Digits : Loops := []
def f_nat_N_Digits (k : Nat) (a0 : List Int) : Option (Int) :=
  (f_nat_N_Text fuel a0).bind fun r1 =>
  some (r1.size : Int)
theorem f_nat_N_Digits_run (k : Nat) (x : denL [.slice (.int .u32)]) : runFn E_nat_N_Digits LL_nat_N_Digits k 76 Tryd.f76 [.slice (.int .u32)] [.imm (.int .i64)] x = f_nat_N_Digits k x := by kernel_rfl
noncomputable def S_nat_N_Digits : Vm.Spec := { ps := [.slice (.int .u32)], rs := [.imm (.int .i64)], f := fun x => f_nat_N_Digits fuel x }
theorem f_nat_N_Digits_holds : Vm.Spec.holds Tryd.prog 76 S_nat_N_Digits := by
  have hB : BodiesOk Tryd.prog E_nat_N_Digits := bodies_none rfl
  have hBS : BodiesStepped E_nat_N_Digits LL_nat_N_Digits := bodies_stepped_none rfl
  have hS : SpecsOk Tryd.prog E_nat_N_Digits := specs_ok (by exact ⟨⟨by kernel_rfl, f_nat_N_Text_holds⟩, trivial⟩)
  have hE : EOk Tryd.prog E_nat_N_Digits := eok_te ok
  exact fn_sound (L := LL_nat_N_Digits) hE hS hB (draws_ok hE hS (by kernel_rfl)) hBS (fn := Tryd.f76) (by kernel_rfl) (c := bodyOf Tryd.f76) (by kernel_rfl) (stepped_none rfl) fun x r h => ⟨fuel, (f_nat_N_Digits_run fuel x).trans h⟩

/-! gamehall/rat.Fits -/
noncomputable def E_rat_Fits : Env := { te := te, spec := [(76, S_nat_N_Digits)], body := [] }
def LL_rat_Fits : Loops := []
def f_rat_Fits (k : Nat) (a0 : Bool × ((List Int) × (List Int))) : Option (Int) :=
  (f_nat_N_Digits fuel a0.2.1).bind fun r1 =>
  if decide (r1 > 2000) = false then
    (f_nat_N_Digits fuel a0.2.2).bind fun r2 =>
    if decide (r2 > 2000) = true then
      some 2
    else
      some 0
  else
    some 2
theorem f_rat_Fits_run (k : Nat) (x : denL [.pair .bool (.pair (.slice (.int .u32)) (.slice (.int .u32)))]) : runFn E_rat_Fits LL_rat_Fits k 65 Tryd.f65 [.pair .bool (.pair (.slice (.int .u32)) (.slice (.int .u32)))] [.imm (.int .i64)] x = f_rat_Fits k x := by kernel_rfl
noncomputable def S_rat_Fits : Vm.Spec := { ps := [.pair .bool (.pair (.slice (.int .u32)) (.slice (.int .u32)))], rs := [.imm (.int .i64)], f := fun x => f_rat_Fits fuel x }
theorem f_rat_Fits_holds : Vm.Spec.holds Tryd.prog 65 S_rat_Fits := by
  have hB : BodiesOk Tryd.prog E_rat_Fits := bodies_none rfl
  have hBS : BodiesStepped E_rat_Fits LL_rat_Fits := bodies_stepped_none rfl
  have hS : SpecsOk Tryd.prog E_rat_Fits := specs_ok (by exact ⟨⟨by kernel_rfl, f_nat_N_Digits_holds⟩, trivial⟩)
  have hE : EOk Tryd.prog E_rat_Fits := eok_te ok
  exact fn_sound (L := LL_rat_Fits) hE hS hB (draws_ok hE hS (by kernel_rfl)) hBS (fn := Tryd.f65) (by kernel_rfl) (c := bodyOf Tryd.f65) (by kernel_rfl) (stepped_none rfl) fun x r h => ⟨fuel, (f_rat_Fits_run fuel x).trans h⟩

/-! gamehall/matrix.Out -/
noncomputable def E_matrix_Out : Env := { te := te, spec := [(55, S_rat_Q_Out), (65, S_rat_Fits)], body := [] }
def l_matrix_Out_3H : Ann := { slots := [(4, .one (.own 92 .str)), (8, .one (.val (.slice (.pair .bool (.pair (.slice (.int .u32)) (.slice (.int .u32))))))), (9, .one (.val (.int .i64))), (10, .one (.val (.int .i64)))], objs := [(92, .buf .str)] }
def l_matrix_Out_3X : Ann := { slots := [(4, .one (.own 92 .str))], objs := [(92, .buf .str)] }
def l_matrix_Out_3R : Ann := { slots := [(2, .one (.fix .nil)), (3, .one (.val (.int .i64)))], objs := [] }
def l_matrix_Out_3 : Nat → List (Bool × ((List Int) × (List Int))) → Int → Int → List ByteArray → Option (LR l_matrix_Out_3X l_matrix_Out_3R)
  | 0, _, _, _, _ => none
  | m + 1, s8, s9, s10, b92 =>
    if decide (s10 < s9) = true then
      if (0 : Int) ≤ s10 then
        if s10 < s8.length then
          (f_rat_Fits fuel ((s8.getD s10.toNat (false, ([], []))).1, ((s8.getD s10.toNat (false, ([], []))).2))).bind fun r1 =>
          if (r1 != 0) = true then
            some (.ret (r1, ()))
          else
            (f_rat_Q_Out fuel ((s8.getD s10.toNat (false, ([], []))).1, ((s8.getD s10.toNat (false, ([], []))).2))).bind fun r2 =>
            if (b92.length + 1) * 16 ≤ 140737488355328 then
              l_matrix_Out_3 m s8 s9 (IntKind.i64.wrap (s10 + 1)) (b92 ++ [r2])
            else none
        else none
      else none
    else
      some (.exit (b92, ()))
def l_matrix_Out_3L : LSpec := { h := l_matrix_Out_3H, x := l_matrix_Out_3X, r := l_matrix_Out_3R, xid := 0, rt := true, pins := [], f := fun k d => l_matrix_Out_3 k d.1 d.2.1 d.2.2.1 d.2.2.2.1 }
def LL_matrix_Out : Loops := [([40], [(3, l_matrix_Out_3L)])]
def f_matrix_Out (k : Nat) (a0 : List (Bool × ((List Int) × (List Int)))) : Option (List ByteArray × Int) :=
  match l_matrix_Out_3 k a0 (a0.length : Int) 0 [] with
  | none => none
  | some (.exit d1) =>
    some (d1.1, 0)
  | some (.ret d1) =>
    some ([], d1.1)
theorem l_matrix_Out_3_step (m : Nat) (d : dens l_matrix_Out_3H.tys) : l_matrix_Out_3L.f (m + 1) d = round E_matrix_Out LL_matrix_Out m [40] 26 (loopN (bodyOf Tryd.f40) 0) l_matrix_Out_3L (l_matrix_Out_3L.f m) d := by kernel_rfl
theorem f_matrix_Out_run (k : Nat) (x : denL [.slice (.pair .bool (.pair (.slice (.int .u32)) (.slice (.int .u32))))]) : runFn E_matrix_Out LL_matrix_Out k 40 Tryd.f40 [.slice (.pair .bool (.pair (.slice (.int .u32)) (.slice (.int .u32))))] [.fresh .str, .imm (.int .i64)] x = f_matrix_Out k x := by kernel_rfl
noncomputable def S_matrix_Out : Vm.Spec := { ps := [.slice (.pair .bool (.pair (.slice (.int .u32)) (.slice (.int .u32))))], rs := [.fresh .str, .imm (.int .i64)], f := fun x => f_matrix_Out fuel x }
theorem f_matrix_Out_holds : Vm.Spec.holds Tryd.prog 40 S_matrix_Out := by
  have hB : BodiesOk Tryd.prog E_matrix_Out := bodies_none rfl
  have hBS : BodiesStepped E_matrix_Out LL_matrix_Out := bodies_stepped_none rfl
  have hS : SpecsOk Tryd.prog E_matrix_Out := specs_ok (by exact ⟨⟨by kernel_rfl, f_rat_Q_Out_holds⟩, ⟨by kernel_rfl, f_rat_Fits_holds⟩, trivial⟩)
  have hE : EOk Tryd.prog E_matrix_Out := eok_te ok
  exact fn_sound (L := LL_matrix_Out) hE hS hB (draws_ok hE hS (by kernel_rfl)) hBS (fn := Tryd.f40) (by kernel_rfl) (c := bodyOf Tryd.f40) (by kernel_rfl) (stepped_of (ls := [(3, l_matrix_Out_3L)]) rfl rfl ⟨by kernel_rfl, fun _ => rfl, l_matrix_Out_3_step, stepsI_end (by kernel_rfl)⟩) fun x r h => ⟨fuel, (f_matrix_Out_run fuel x).trans h⟩

/-! gamehall/regret.Match -/
noncomputable def E_regret_Match : Env := { te := te, spec := [(34, S_rat_Q_Add), (35, S_matrix_CheckVec), (36, S_matrix_Row), (37, S_rat_Q_Sign), (38, S_rat_Int), (39, S_rat_Q_Quo), (40, S_matrix_Out)], body := [] }
def l_regret_Match_11H : Ann := { slots := [(5, .one (.own 96 (.pair .bool (.pair (.slice (.int .u32)) (.slice (.int .u32)))))), (6, .one (.val .bool)), (25, .one (.own 96 (.pair .bool (.pair (.slice (.int .u32)) (.slice (.int .u32)))))), (26, .one (.val (.int .i64))), (27, .one (.val (.int .i64)))], objs := [(96, .buf (.pair .bool (.pair (.slice (.int .u32)) (.slice (.int .u32)))))] }
def l_regret_Match_11X : Ann := { slots := [(5, .one (.own 96 (.pair .bool (.pair (.slice (.int .u32)) (.slice (.int .u32)))))), (6, .one (.val .bool))], objs := [(96, .buf (.pair .bool (.pair (.slice (.int .u32)) (.slice (.int .u32)))))] }
def l_regret_Match_11R : Ann := { slots := [], objs := [] }
def l_regret_Match_19H : Ann := { slots := [(5, .one (.own 96 (.pair .bool (.pair (.slice (.int .u32)) (.slice (.int .u32)))))), (6, .one (.val .bool)), (9, .one (.fix (.pbox 36 0))), (47, .one (.val (.int .i64))), (48, .one (.val (.int .i64)))], objs := [(96, .buf (.pair .bool (.pair (.slice (.int .u32)) (.slice (.int .u32))))), (36, .box [.val .bool, .val (.slice (.int .u32)), .val (.slice (.int .u32))])] }
def l_regret_Match_19X : Ann := { slots := [(5, .one (.own 96 (.pair .bool (.pair (.slice (.int .u32)) (.slice (.int .u32)))))), (9, .one (.fix (.pbox 36 0)))], objs := [(96, .buf (.pair .bool (.pair (.slice (.int .u32)) (.slice (.int .u32))))), (36, .box [.val .bool, .val (.slice (.int .u32)), .val (.slice (.int .u32))])] }
def l_regret_Match_19R : Ann := { slots := [], objs := [] }
def l_regret_Match_26H : Ann := { slots := [(5, .one (.own 96 (.pair .bool (.pair (.slice (.int .u32)) (.slice (.int .u32)))))), (9, .one (.fix (.pbox 36 0))), (64, .one (.val (.int .i64))), (65, .one (.val (.int .i64)))], objs := [(96, .buf (.pair .bool (.pair (.slice (.int .u32)) (.slice (.int .u32))))), (36, .box [.val .bool, .val (.slice (.int .u32)), .val (.slice (.int .u32))])] }
def l_regret_Match_26X : Ann := { slots := [(5, .one (.own 96 (.pair .bool (.pair (.slice (.int .u32)) (.slice (.int .u32))))))], objs := [(96, .buf (.pair .bool (.pair (.slice (.int .u32)) (.slice (.int .u32))))), (36, .box [.val .bool, .val (.slice (.int .u32)), .val (.slice (.int .u32))])] }
def l_regret_Match_26R : Ann := { slots := [], objs := [] }
def l_regret_Match_11 : Nat → Bool → Int → Int → List (Bool × ((List Int) × (List Int))) → Option (LR l_regret_Match_11X l_regret_Match_11R)
  | 0, _, _, _, _ => none
  | m + 1, s6, s26, s27, b96 =>
    if decide (s27 < s26) = true then
      if (0 : Int) ≤ s27 then
        if s27 < b96.length then
          (f_rat_Q_Sign fuel ((b96.getD s27.toNat (false, ([], []))).1, ((b96.getD s27.toNat (false, ([], []))).2))).bind fun r1 =>
          if decide (r1 < 0) = true then
            if (0 : Int) ≤ s27 then
              if s27 < b96.length then
                if s6 = true then
                  (f_rat_Q_Sign fuel ((b96.getD s27.toNat (false, ([], []))).1, ((b96.getD s27.toNat (false, ([], []))).2))).bind fun r2 =>
                  l_regret_Match_11 m (decide (r2 ≤ 0)) s26 (IntKind.i64.wrap (s27 + 1)) (b96.set s27.toNat (false, ([], [])))
                else
                  l_regret_Match_11 m false s26 (IntKind.i64.wrap (s27 + 1)) (b96.set s27.toNat (false, ([], [])))
              else none
            else none
          else
            if s6 = true then
              (f_rat_Q_Sign fuel ((b96.getD s27.toNat (false, ([], []))).1, ((b96.getD s27.toNat (false, ([], []))).2))).bind fun r3 =>
              l_regret_Match_11 m (decide (r3 ≤ 0)) s26 (IntKind.i64.wrap (s27 + 1)) b96
            else
              l_regret_Match_11 m false s26 (IntKind.i64.wrap (s27 + 1)) b96
        else none
      else none
    else
      some (.exit (s6, b96, ()))
def l_regret_Match_11L : LSpec := { h := l_regret_Match_11H, x := l_regret_Match_11X, r := l_regret_Match_11R, xid := 0, rt := false, pins := [96], f := fun k d => l_regret_Match_11 k d.1 d.2.1 d.2.2.1 d.2.2.2.1 }
def l_regret_Match_19 : Nat → Bool → Int → Int → List (Bool × ((List Int) × (List Int))) → Bool → List Int → List Int → Option (LR l_regret_Match_19X l_regret_Match_19R)
  | 0, _, _, _, _, _, _, _ => none
  | m + 1, s6, s47, s48, b96, b36_0, b36_1, b36_2 =>
    if decide (s48 < s47) = true then
      if s6 = true then
        (f_rat_Int fuel 1).bind fun r1 =>
        if (0 : Int) ≤ s48 then
          if s48 < b96.length then
            if (0 : Int) ≤ s48 then
              if s48 < (b96.set s48.toNat r1).length then
                (f_rat_Q_Add fuel (b36_0, (b36_1, b36_2)) (((b96.set s48.toNat r1).getD s48.toNat (false, ([], []))).1, (((b96.set s48.toNat r1).getD s48.toNat (false, ([], []))).2))).bind fun r2 =>
                l_regret_Match_19 m s6 s47 (IntKind.i64.wrap (s48 + 1)) (b96.set s48.toNat r1) r2.1 r2.2.1 r2.2.2
              else none
            else none
          else none
        else none
      else
        if (0 : Int) ≤ s48 then
          if s48 < b96.length then
            (f_rat_Q_Add fuel (b36_0, (b36_1, b36_2)) ((b96.getD s48.toNat (false, ([], []))).1, ((b96.getD s48.toNat (false, ([], []))).2))).bind fun r3 =>
            l_regret_Match_19 m s6 s47 (IntKind.i64.wrap (s48 + 1)) b96 r3.1 r3.2.1 r3.2.2
          else none
        else none
    else
      some (.exit (b96, b36_0, b36_1, b36_2, ()))
def l_regret_Match_19L : LSpec := { h := l_regret_Match_19H, x := l_regret_Match_19X, r := l_regret_Match_19R, xid := 2, rt := false, pins := [96, 36], f := fun k d => l_regret_Match_19 k d.1 d.2.1 d.2.2.1 d.2.2.2.1 d.2.2.2.2.1 d.2.2.2.2.2.1 d.2.2.2.2.2.2.1 }
def l_regret_Match_26 : Nat → Int → Int → List (Bool × ((List Int) × (List Int))) → Bool → List Int → List Int → Option (LR l_regret_Match_26X l_regret_Match_26R)
  | 0, _, _, _, _, _, _ => none
  | m + 1, s64, s65, b96, b36_0, b36_1, b36_2 =>
    if decide (s65 < s64) = true then
      if (0 : Int) ≤ s65 then
        if s65 < b96.length then
          (f_rat_Q_Quo fuel ((b96.getD s65.toNat (false, ([], []))).1, ((b96.getD s65.toNat (false, ([], []))).2)) (b36_0, (b36_1, b36_2))).bind fun r1 =>
          if (0 : Int) ≤ s65 then
            if s65 < b96.length then
              l_regret_Match_26 m s64 (IntKind.i64.wrap (s65 + 1)) (b96.set s65.toNat r1) b36_0 b36_1 b36_2
            else none
          else none
        else none
      else none
    else
      some (.exit (b96, b36_0, b36_1, b36_2, ()))
def l_regret_Match_26L : LSpec := { h := l_regret_Match_26H, x := l_regret_Match_26X, r := l_regret_Match_26R, xid := 4, rt := false, pins := [96, 36], f := fun k d => l_regret_Match_26 k d.1 d.2.1 d.2.2.1 d.2.2.2.1 d.2.2.2.2.1 d.2.2.2.2.2.1 }
def LL_regret_Match : Loops := [([12], [(11, l_regret_Match_11L), (19, l_regret_Match_19L), (26, l_regret_Match_26L)])]
def f_regret_Match (k : Nat) (a0 : List ByteArray) : Option (List ByteArray × Int) :=
  if ((a0.length : Int) == 0) = true then
    some ([], 8)
  else
    if decide ((a0.length : Int) > 12) = true then
      some ([], 2)
    else
      (f_matrix_CheckVec fuel a0).bind fun r1 =>
      if (r1 != 0) = true then
        some ([], r1)
      else
        (f_matrix_Row fuel a0).bind fun r2 =>
        match l_regret_Match_11 k true (r2.length : Int) 0 r2 with
        | none => none
        | some (.exit d3) =>
          match l_regret_Match_19 k d3.1 (d3.2.1.length : Int) 0 d3.2.1 false [] [] with
          | none => none
          | some (.exit d4) =>
            match l_regret_Match_26 k (d4.1.length : Int) 0 d4.1 d4.2.1 d4.2.2.1 d4.2.2.2.1 with
            | none => none
            | some (.exit d5) =>
              (f_matrix_Out fuel d5.1).bind fun r6 =>
              some (r6.1, r6.2)
            | some (.ret d5) =>
              none
          | some (.ret d4) =>
            none
        | some (.ret d3) =>
          none
theorem l_regret_Match_11_step (m : Nat) (d : dens l_regret_Match_11H.tys) : l_regret_Match_11L.f (m + 1) d = round E_regret_Match LL_regret_Match m [12] 82 (loopN (bodyOf Tryd.f12) 0) l_regret_Match_11L (l_regret_Match_11L.f m) d := by kernel_rfl
theorem l_regret_Match_19_step (m : Nat) (d : dens l_regret_Match_19H.tys) : l_regret_Match_19L.f (m + 1) d = round E_regret_Match LL_regret_Match m [12] 82 (loopN (bodyOf Tryd.f12) 1) l_regret_Match_19L (l_regret_Match_19L.f m) d := by kernel_rfl
theorem l_regret_Match_26_step (m : Nat) (d : dens l_regret_Match_26H.tys) : l_regret_Match_26L.f (m + 1) d = round E_regret_Match LL_regret_Match m [12] 82 (loopN (bodyOf Tryd.f12) 2) l_regret_Match_26L (l_regret_Match_26L.f m) d := by kernel_rfl
theorem f_regret_Match_run (k : Nat) (x : denL [.slice .str]) : runFn E_regret_Match LL_regret_Match k 12 Tryd.f12 [.slice .str] [.fresh .str, .imm (.int .i64)] x = f_regret_Match k x := by kernel_rfl
noncomputable def S_regret_Match : Vm.Spec := { ps := [.slice .str], rs := [.fresh .str, .imm (.int .i64)], f := fun x => f_regret_Match fuel x }
theorem f_regret_Match_holds : Vm.Spec.holds Tryd.prog 12 S_regret_Match := by
  have hB : BodiesOk Tryd.prog E_regret_Match := bodies_none rfl
  have hBS : BodiesStepped E_regret_Match LL_regret_Match := bodies_stepped_none rfl
  have hS : SpecsOk Tryd.prog E_regret_Match := specs_ok (by exact ⟨⟨by kernel_rfl, f_rat_Q_Add_holds⟩, ⟨by kernel_rfl, f_matrix_CheckVec_holds⟩, ⟨by kernel_rfl, f_matrix_Row_holds⟩, ⟨by kernel_rfl, f_rat_Q_Sign_holds⟩, ⟨by kernel_rfl, f_rat_Int_holds⟩, ⟨by kernel_rfl, f_rat_Q_Quo_holds⟩, ⟨by kernel_rfl, f_matrix_Out_holds⟩, trivial⟩)
  have hE : EOk Tryd.prog E_regret_Match := eok_te ok
  exact fn_sound (L := LL_regret_Match) hE hS hB (draws_ok hE hS (by kernel_rfl)) hBS (fn := Tryd.f12) (by kernel_rfl) (c := bodyOf Tryd.f12) (by kernel_rfl) (stepped_of (ls := [(11, l_regret_Match_11L), (19, l_regret_Match_19L), (26, l_regret_Match_26L)]) rfl rfl ⟨by kernel_rfl, fun _ => rfl, l_regret_Match_11_step, by kernel_rfl, fun _ => rfl, l_regret_Match_19_step, by kernel_rfl, fun _ => rfl, l_regret_Match_26_step, stepsI_end (by kernel_rfl)⟩) fun x r h => ⟨fuel, (f_regret_Match_run fuel x).trans h⟩

/-! gamehall/regret.sums -/
noncomputable def E_regret_sums : Env := { te := te, spec := [(34, S_rat_Q_Add)], body := [] }
def l_regret_sums_6H : Ann := { slots := [(0, .one (.val (.slice (.slice (.pair .bool (.pair (.slice (.int .u32)) (.slice (.int .u32)))))))), (6, .one (.own 56 (.pair .bool (.pair (.slice (.int .u32)) (.slice (.int .u32)))))), (9, .one (.fix (.pbox 36 0))), (27, .one (.val (.int .i64))), (28, .one (.val (.int .i64)))], objs := [(56, .buf (.pair .bool (.pair (.slice (.int .u32)) (.slice (.int .u32))))), (36, .box [.val (.arr 2 (.int .i64))])] }
def l_regret_sums_6X : Ann := { slots := [(6, .one (.own 56 (.pair .bool (.pair (.slice (.int .u32)) (.slice (.int .u32)))))), (9, .one (.fix (.pbox 36 0)))], objs := [(56, .buf (.pair .bool (.pair (.slice (.int .u32)) (.slice (.int .u32))))), (36, .box [.val (.arr 2 (.int .i64))])] }
def l_regret_sums_6R : Ann := { slots := [], objs := [] }
def l_regret_sums_11H : Ann := { slots := [(0, .one (.val (.slice (.slice (.pair .bool (.pair (.slice (.int .u32)) (.slice (.int .u32)))))))), (7, .one (.own 76 (.pair .bool (.pair (.slice (.int .u32)) (.slice (.int .u32)))))), (9, .one (.fix (.pbox 36 0))), (49, .one (.val (.int .i64))), (50, .one (.val (.int .i64)))], objs := [(76, .buf (.pair .bool (.pair (.slice (.int .u32)) (.slice (.int .u32))))), (36, .box [.val (.arr 2 (.int .i64))])] }
def l_regret_sums_11X : Ann := { slots := [(7, .one (.own 76 (.pair .bool (.pair (.slice (.int .u32)) (.slice (.int .u32))))))], objs := [(76, .buf (.pair .bool (.pair (.slice (.int .u32)) (.slice (.int .u32))))), (36, .box [.val (.arr 2 (.int .i64))])] }
def l_regret_sums_11R : Ann := { slots := [], objs := [] }
def l_regret_sums_3H : Ann := { slots := [(0, .one (.val (.slice (.slice (.pair .bool (.pair (.slice (.int .u32)) (.slice (.int .u32)))))))), (6, .one (.own 56 (.pair .bool (.pair (.slice (.int .u32)) (.slice (.int .u32)))))), (7, .one (.own 76 (.pair .bool (.pair (.slice (.int .u32)) (.slice (.int .u32)))))), (20, .one (.val (.slice (.arr 2 (.int .i64))))), (21, .one (.val (.int .i64))), (22, .one (.val (.int .i64)))], objs := [(56, .buf (.pair .bool (.pair (.slice (.int .u32)) (.slice (.int .u32))))), (76, .buf (.pair .bool (.pair (.slice (.int .u32)) (.slice (.int .u32)))))] }
def l_regret_sums_3X : Ann := { slots := [(6, .one (.own 56 (.pair .bool (.pair (.slice (.int .u32)) (.slice (.int .u32)))))), (7, .one (.own 76 (.pair .bool (.pair (.slice (.int .u32)) (.slice (.int .u32))))))], objs := [(56, .buf (.pair .bool (.pair (.slice (.int .u32)) (.slice (.int .u32))))), (76, .buf (.pair .bool (.pair (.slice (.int .u32)) (.slice (.int .u32)))))] }
def l_regret_sums_3R : Ann := { slots := [], objs := [] }
def l_regret_sums_6 : Nat → List (List (Bool × ((List Int) × (List Int)))) → Int → Int → List (Bool × ((List Int) × (List Int))) → List Int → Option (LR l_regret_sums_6X l_regret_sums_6R)
  | 0, _, _, _, _, _ => none
  | m + 1, s0, s27, s28, b56, b36_0 =>
    if decide (s28 < s27) = true then
      if (0 : Int) ≤ s28 then
        if s28 < b56.length then
          if (0 : Int) ≤ s28 then
            if s28 < s0.length then
              if (0 : Int) ≤ b36_0.getD 1 0 then
                if b36_0.getD 1 0 < (s0.getD s28.toNat []).length then
                  (f_rat_Q_Add fuel ((b56.getD s28.toNat (false, ([], []))).1, ((b56.getD s28.toNat (false, ([], []))).2)) (((s0.getD s28.toNat []).getD ((b36_0.getD 1 0).toNat) (false, ([], []))).1, (((s0.getD s28.toNat []).getD ((b36_0.getD 1 0).toNat) (false, ([], []))).2))).bind fun r1 =>
                  if (0 : Int) ≤ s28 then
                    if s28 < b56.length then
                      l_regret_sums_6 m s0 s27 (IntKind.i64.wrap (s28 + 1)) (b56.set s28.toNat r1) b36_0
                    else none
                  else none
                else none
              else none
            else none
          else none
        else none
      else none
    else
      some (.exit (b56, b36_0, ()))
def l_regret_sums_6L : LSpec := { h := l_regret_sums_6H, x := l_regret_sums_6X, r := l_regret_sums_6R, xid := 2, rt := false, pins := [56, 36], f := fun k d => l_regret_sums_6 k d.1 d.2.1 d.2.2.1 d.2.2.2.1 d.2.2.2.2.1 }
def l_regret_sums_11 : Nat → List (List (Bool × ((List Int) × (List Int)))) → Int → Int → List (Bool × ((List Int) × (List Int))) → List Int → Option (LR l_regret_sums_11X l_regret_sums_11R)
  | 0, _, _, _, _, _ => none
  | m + 1, s0, s49, s50, b76, b36_0 =>
    if decide (s50 < s49) = true then
      if (0 : Int) ≤ s50 then
        if s50 < b76.length then
          if (0 : Int) ≤ b36_0.getD 0 0 then
            if b36_0.getD 0 0 < s0.length then
              if (0 : Int) ≤ s50 then
                if s50 < (s0.getD ((b36_0.getD 0 0).toNat) []).length then
                  (f_rat_Q_Add fuel ((b76.getD s50.toNat (false, ([], []))).1, ((b76.getD s50.toNat (false, ([], []))).2)) (((s0.getD ((b36_0.getD 0 0).toNat) []).getD s50.toNat (false, ([], []))).1, (((s0.getD ((b36_0.getD 0 0).toNat) []).getD s50.toNat (false, ([], []))).2))).bind fun r1 =>
                  if (0 : Int) ≤ s50 then
                    if s50 < b76.length then
                      l_regret_sums_11 m s0 s49 (IntKind.i64.wrap (s50 + 1)) (b76.set s50.toNat r1) b36_0
                    else none
                  else none
                else none
              else none
            else none
          else none
        else none
      else none
    else
      some (.exit (b76, b36_0, ()))
def l_regret_sums_11L : LSpec := { h := l_regret_sums_11H, x := l_regret_sums_11X, r := l_regret_sums_11R, xid := 4, rt := false, pins := [76, 36], f := fun k d => l_regret_sums_11 k d.1 d.2.1 d.2.2.1 d.2.2.2.1 d.2.2.2.2.1 }
def l_regret_sums_3 : Nat → List (List (Bool × ((List Int) × (List Int)))) → List (List Int) → Int → Int → List (Bool × ((List Int) × (List Int))) → List (Bool × ((List Int) × (List Int))) → Option (LR l_regret_sums_3X l_regret_sums_3R)
  | 0, _, _, _, _, _, _ => none
  | m + 1, s0, s20, s21, s22, b56, b76 =>
    if decide (s22 < s21) = true then
      if (0 : Int) ≤ s22 then
        if s22 < s20.length then
          match l_regret_sums_6 m s0 (b56.length : Int) 0 b56 (s20.getD s22.toNat (List.replicate 2 0)) with
          | none => none
          | some (.exit d1) =>
            match l_regret_sums_11 m s0 (b76.length : Int) 0 b76 d1.2.1 with
            | none => none
            | some (.exit d2) =>
              l_regret_sums_3 m s0 s20 s21 (IntKind.i64.wrap (s22 + 1)) d1.1 d2.1
            | some (.ret d2) =>
              none
          | some (.ret d1) =>
            none
        else none
      else none
    else
      some (.exit (b56, b76, ()))
def l_regret_sums_3L : LSpec := { h := l_regret_sums_3H, x := l_regret_sums_3X, r := l_regret_sums_3R, xid := 0, rt := false, pins := [56, 76], f := fun k d => l_regret_sums_3 k d.1 d.2.1 d.2.2.1 d.2.2.2.1 d.2.2.2.2.1 d.2.2.2.2.2.1 }
def LL_regret_sums : Loops := [([45], [(3, l_regret_sums_3L), (6, l_regret_sums_6L), (11, l_regret_sums_11L)])]
def f_regret_sums (k : Nat) (a0 : List (List (Bool × ((List Int) × (List Int))))) (a1 : List (List Int)) : Option (List (Bool × ((List Int) × (List Int))) × List (Bool × ((List Int) × (List Int)))) :=
  if (0 : Int) < a0.length then
    if decide (0 ≤ (a0.length : Int) ∧ (a0.length : Int) ≤ (a0.length : Int) ∧ (a0.length : Int) * 56 ≤ 281474976710656) = true then
      if decide (0 ≤ ((a0.getD 0 []).length : Int) ∧ ((a0.getD 0 []).length : Int) ≤ ((a0.getD 0 []).length : Int) ∧ ((a0.getD 0 []).length : Int) * 56 ≤ 281474976710656) = true then
        if decide (0 ≤ (a0.length : Int) ∧ (a0.length : Int) ≤ (a0.length : Int) ∧ (a0.length : Int) * 56 ≤ 281474976710656) = true then
          if decide (0 ≤ ((a0.getD 0 []).length : Int) ∧ ((a0.getD 0 []).length : Int) ≤ ((a0.getD 0 []).length : Int) ∧ ((a0.getD 0 []).length : Int) * 56 ≤ 281474976710656) = true then
            if decide (0 ≤ ((a0.getD 0 []).length : Int) ∧ ((a0.getD 0 []).length : Int) ≤ ((a0.getD 0 []).length : Int) ∧ ((a0.getD 0 []).length : Int) * 56 ≤ 281474976710656) = true then
              match l_regret_sums_3 k a0 a1 (a1.length : Int) 0 (List.replicate ((a0.length : Int).toNat) ((false, ([], [])) : Bool × ((List Int) × (List Int)))) (List.replicate (((a0.getD 0 []).length : Int).toNat) ((false, ([], [])) : Bool × ((List Int) × (List Int)))) with
              | none => none
              | some (.exit d1) =>
                some (d1.1, d1.2.1)
              | some (.ret d1) =>
                none
            else none
          else none
        else none
      else none
    else none
  else none
theorem l_regret_sums_6_step (m : Nat) (d : dens l_regret_sums_6H.tys) : l_regret_sums_6L.f (m + 1) d = round E_regret_sums LL_regret_sums m [45] 73 (loopN (bodyOf Tryd.f45) 1) l_regret_sums_6L (l_regret_sums_6L.f m) d := by kernel_rfl
theorem l_regret_sums_11_step (m : Nat) (d : dens l_regret_sums_11H.tys) : l_regret_sums_11L.f (m + 1) d = round E_regret_sums LL_regret_sums m [45] 73 (loopN (bodyOf Tryd.f45) 2) l_regret_sums_11L (l_regret_sums_11L.f m) d := by kernel_rfl
theorem l_regret_sums_3_step (m : Nat) (d : dens l_regret_sums_3H.tys) : l_regret_sums_3L.f (m + 1) d = round E_regret_sums LL_regret_sums m [45] 73 (loopN (bodyOf Tryd.f45) 0) l_regret_sums_3L (l_regret_sums_3L.f m) d := by kernel_rfl
theorem f_regret_sums_run (k : Nat) (x : denL [.slice (.slice (.pair .bool (.pair (.slice (.int .u32)) (.slice (.int .u32))))), .slice (.arr 2 (.int .i64))]) : runFn E_regret_sums LL_regret_sums k 45 Tryd.f45 [.slice (.slice (.pair .bool (.pair (.slice (.int .u32)) (.slice (.int .u32))))), .slice (.arr 2 (.int .i64))] [.fresh (.pair .bool (.pair (.slice (.int .u32)) (.slice (.int .u32)))), .fresh (.pair .bool (.pair (.slice (.int .u32)) (.slice (.int .u32))))] x = f_regret_sums k x.1 x.2 := by kernel_rfl
noncomputable def S_regret_sums : Vm.Spec := { ps := [.slice (.slice (.pair .bool (.pair (.slice (.int .u32)) (.slice (.int .u32))))), .slice (.arr 2 (.int .i64))], rs := [.fresh (.pair .bool (.pair (.slice (.int .u32)) (.slice (.int .u32)))), .fresh (.pair .bool (.pair (.slice (.int .u32)) (.slice (.int .u32))))], f := fun x => f_regret_sums fuel x.1 x.2 }
theorem f_regret_sums_holds : Vm.Spec.holds Tryd.prog 45 S_regret_sums := by
  have hB : BodiesOk Tryd.prog E_regret_sums := bodies_none rfl
  have hBS : BodiesStepped E_regret_sums LL_regret_sums := bodies_stepped_none rfl
  have hS : SpecsOk Tryd.prog E_regret_sums := specs_ok (by exact ⟨⟨by kernel_rfl, f_rat_Q_Add_holds⟩, trivial⟩)
  have hE : EOk Tryd.prog E_regret_sums := eok_te ok
  exact fn_sound (L := LL_regret_sums) hE hS hB (draws_ok hE hS (by kernel_rfl)) hBS (fn := Tryd.f45) (by kernel_rfl) (c := bodyOf Tryd.f45) (by kernel_rfl) (stepped_of (ls := [(3, l_regret_sums_3L), (6, l_regret_sums_6L), (11, l_regret_sums_11L)]) rfl rfl ⟨by kernel_rfl, fun _ => rfl, l_regret_sums_3_step, by kernel_rfl, fun _ => rfl, l_regret_sums_6_step, by kernel_rfl, fun _ => rfl, l_regret_sums_11_step, stepsI_end (by kernel_rfl)⟩) fun x r h => ⟨fuel, (f_regret_sums_run fuel x).trans h⟩

/-! gamehall/regret.sums -/
noncomputable def E_regret_sumsI : Env := { te := te, spec := [(34, S_rat_Q_Add)], body := [] }
def l_regret_sumsI_6H : Ann := { slots := [(0, .one (.val (.slice (.slice (.pair .bool (.pair (.slice (.int .u32)) (.slice (.int .u32)))))))), (6, .one (.own 56 (.pair .bool (.pair (.slice (.int .u32)) (.slice (.int .u32)))))), (9, .one (.fix (.pbox 36 0))), (27, .one (.val (.int .i64))), (28, .one (.val (.int .i64)))], objs := [(56, .buf (.pair .bool (.pair (.slice (.int .u32)) (.slice (.int .u32))))), (36, .box [.val (.arr 2 (.int .i64))])] }
def l_regret_sumsI_6X : Ann := { slots := [(6, .one (.own 56 (.pair .bool (.pair (.slice (.int .u32)) (.slice (.int .u32)))))), (9, .one (.fix (.pbox 36 0)))], objs := [(56, .buf (.pair .bool (.pair (.slice (.int .u32)) (.slice (.int .u32))))), (36, .box [.val (.arr 2 (.int .i64))])] }
def l_regret_sumsI_6R : Ann := { slots := [], objs := [] }
def l_regret_sumsI_11H : Ann := { slots := [(0, .one (.val (.slice (.slice (.pair .bool (.pair (.slice (.int .u32)) (.slice (.int .u32)))))))), (7, .one (.own 76 (.pair .bool (.pair (.slice (.int .u32)) (.slice (.int .u32)))))), (9, .one (.fix (.pbox 36 0))), (49, .one (.val (.int .i64))), (50, .one (.val (.int .i64)))], objs := [(76, .buf (.pair .bool (.pair (.slice (.int .u32)) (.slice (.int .u32))))), (36, .box [.val (.arr 2 (.int .i64))])] }
def l_regret_sumsI_11X : Ann := { slots := [(7, .one (.own 76 (.pair .bool (.pair (.slice (.int .u32)) (.slice (.int .u32))))))], objs := [(76, .buf (.pair .bool (.pair (.slice (.int .u32)) (.slice (.int .u32))))), (36, .box [.val (.arr 2 (.int .i64))])] }
def l_regret_sumsI_11R : Ann := { slots := [], objs := [] }
def l_regret_sumsI_3H : Ann := { slots := [(0, .one (.val (.slice (.slice (.pair .bool (.pair (.slice (.int .u32)) (.slice (.int .u32)))))))), (6, .one (.own 56 (.pair .bool (.pair (.slice (.int .u32)) (.slice (.int .u32)))))), (7, .one (.own 76 (.pair .bool (.pair (.slice (.int .u32)) (.slice (.int .u32)))))), (20, .one (.val (.slice (.arr 2 (.int .i64))))), (21, .one (.val (.int .i64))), (22, .one (.val (.int .i64)))], objs := [(56, .buf (.pair .bool (.pair (.slice (.int .u32)) (.slice (.int .u32))))), (76, .buf (.pair .bool (.pair (.slice (.int .u32)) (.slice (.int .u32)))))] }
def l_regret_sumsI_3X : Ann := { slots := [(6, .one (.own 56 (.pair .bool (.pair (.slice (.int .u32)) (.slice (.int .u32)))))), (7, .one (.own 76 (.pair .bool (.pair (.slice (.int .u32)) (.slice (.int .u32))))))], objs := [(56, .buf (.pair .bool (.pair (.slice (.int .u32)) (.slice (.int .u32))))), (76, .buf (.pair .bool (.pair (.slice (.int .u32)) (.slice (.int .u32)))))] }
def l_regret_sumsI_3R : Ann := { slots := [], objs := [] }
def l_regret_sumsI_6 : Nat → List (List (Bool × ((List Int) × (List Int)))) → Int → Int → List (Bool × ((List Int) × (List Int))) → List Int → Option (LR l_regret_sumsI_6X l_regret_sumsI_6R)
  | 0, _, _, _, _, _ => none
  | m + 1, s0, s27, s28, b56, b36_0 =>
    if decide (s28 < s27) = true then
      if (0 : Int) ≤ s28 then
        if s28 < b56.length then
          if (0 : Int) ≤ s28 then
            if s28 < s0.length then
              if (0 : Int) ≤ b36_0.getD 1 0 then
                if b36_0.getD 1 0 < (s0.getD s28.toNat []).length then
                  (f_rat_Q_Add fuel ((b56.getD s28.toNat (false, ([], []))).1, ((b56.getD s28.toNat (false, ([], []))).2)) (((s0.getD s28.toNat []).getD ((b36_0.getD 1 0).toNat) (false, ([], []))).1, (((s0.getD s28.toNat []).getD ((b36_0.getD 1 0).toNat) (false, ([], []))).2))).bind fun r1 =>
                  if (0 : Int) ≤ s28 then
                    if s28 < b56.length then
                      l_regret_sumsI_6 m s0 s27 (IntKind.i64.wrap (s28 + 1)) (b56.set s28.toNat r1) b36_0
                    else none
                  else none
                else none
              else none
            else none
          else none
        else none
      else none
    else
      some (.exit (b56, b36_0, ()))
def l_regret_sumsI_6L : LSpec := { h := l_regret_sumsI_6H, x := l_regret_sumsI_6X, r := l_regret_sumsI_6R, xid := 2, rt := false, pins := [56, 36], f := fun k d => l_regret_sumsI_6 k d.1 d.2.1 d.2.2.1 d.2.2.2.1 d.2.2.2.2.1 }
def l_regret_sumsI_11 : Nat → List (List (Bool × ((List Int) × (List Int)))) → Int → Int → List (Bool × ((List Int) × (List Int))) → List Int → Option (LR l_regret_sumsI_11X l_regret_sumsI_11R)
  | 0, _, _, _, _, _ => none
  | m + 1, s0, s49, s50, b76, b36_0 =>
    if decide (s50 < s49) = true then
      if (0 : Int) ≤ s50 then
        if s50 < b76.length then
          if (0 : Int) ≤ b36_0.getD 0 0 then
            if b36_0.getD 0 0 < s0.length then
              if (0 : Int) ≤ s50 then
                if s50 < (s0.getD ((b36_0.getD 0 0).toNat) []).length then
                  (f_rat_Q_Add fuel ((b76.getD s50.toNat (false, ([], []))).1, ((b76.getD s50.toNat (false, ([], []))).2)) (((s0.getD ((b36_0.getD 0 0).toNat) []).getD s50.toNat (false, ([], []))).1, (((s0.getD ((b36_0.getD 0 0).toNat) []).getD s50.toNat (false, ([], []))).2))).bind fun r1 =>
                  if (0 : Int) ≤ s50 then
                    if s50 < b76.length then
                      l_regret_sumsI_11 m s0 s49 (IntKind.i64.wrap (s50 + 1)) (b76.set s50.toNat r1) b36_0
                    else none
                  else none
                else none
              else none
            else none
          else none
        else none
      else none
    else
      some (.exit (b76, b36_0, ()))
def l_regret_sumsI_11L : LSpec := { h := l_regret_sumsI_11H, x := l_regret_sumsI_11X, r := l_regret_sumsI_11R, xid := 4, rt := false, pins := [76, 36], f := fun k d => l_regret_sumsI_11 k d.1 d.2.1 d.2.2.1 d.2.2.2.1 d.2.2.2.2.1 }
def l_regret_sumsI_3 : Nat → List (List (Bool × ((List Int) × (List Int)))) → List (List Int) → Int → Int → List (Bool × ((List Int) × (List Int))) → List (Bool × ((List Int) × (List Int))) → Option (LR l_regret_sumsI_3X l_regret_sumsI_3R)
  | 0, _, _, _, _, _, _ => none
  | m + 1, s0, s20, s21, s22, b56, b76 =>
    if decide (s22 < s21) = true then
      if (0 : Int) ≤ s22 then
        if s22 < s20.length then
          match l_regret_sumsI_6 m s0 (b56.length : Int) 0 b56 (s20.getD s22.toNat (List.replicate 2 0)) with
          | none => none
          | some (.exit d1) =>
            match l_regret_sumsI_11 m s0 (b76.length : Int) 0 b76 d1.2.1 with
            | none => none
            | some (.exit d2) =>
              l_regret_sumsI_3 m s0 s20 s21 (IntKind.i64.wrap (s22 + 1)) d1.1 d2.1
            | some (.ret d2) =>
              none
          | some (.ret d1) =>
            none
        else none
      else none
    else
      some (.exit (b56, b76, ()))
def l_regret_sumsI_3L : LSpec := { h := l_regret_sumsI_3H, x := l_regret_sumsI_3X, r := l_regret_sumsI_3R, xid := 0, rt := false, pins := [56, 76], f := fun k d => l_regret_sumsI_3 k d.1 d.2.1 d.2.2.1 d.2.2.2.1 d.2.2.2.2.1 d.2.2.2.2.2.1 }
def LL_regret_sumsI : Loops := [([45], [(3, l_regret_sumsI_3L), (6, l_regret_sumsI_6L), (11, l_regret_sumsI_11L)])]
def f_regret_sumsI (k : Nat) (a0 : List (List (Bool × ((List Int) × (List Int))))) (a1 : List (List Int)) : Option ((List (Bool × ((List Int) × (List Int)))) × (List (Bool × ((List Int) × (List Int))))) :=
  if (0 : Int) < a0.length then
    if decide (0 ≤ (a0.length : Int) ∧ (a0.length : Int) ≤ (a0.length : Int) ∧ (a0.length : Int) * 56 ≤ 281474976710656) = true then
      if decide (0 ≤ ((a0.getD 0 []).length : Int) ∧ ((a0.getD 0 []).length : Int) ≤ ((a0.getD 0 []).length : Int) ∧ ((a0.getD 0 []).length : Int) * 56 ≤ 281474976710656) = true then
        if decide (0 ≤ (a0.length : Int) ∧ (a0.length : Int) ≤ (a0.length : Int) ∧ (a0.length : Int) * 56 ≤ 281474976710656) = true then
          if decide (0 ≤ ((a0.getD 0 []).length : Int) ∧ ((a0.getD 0 []).length : Int) ≤ ((a0.getD 0 []).length : Int) ∧ ((a0.getD 0 []).length : Int) * 56 ≤ 281474976710656) = true then
            if decide (0 ≤ ((a0.getD 0 []).length : Int) ∧ ((a0.getD 0 []).length : Int) ≤ ((a0.getD 0 []).length : Int) ∧ ((a0.getD 0 []).length : Int) * 56 ≤ 281474976710656) = true then
              match l_regret_sumsI_3 k a0 a1 (a1.length : Int) 0 (List.replicate ((a0.length : Int).toNat) ((false, ([], [])) : Bool × ((List Int) × (List Int)))) (List.replicate (((a0.getD 0 []).length : Int).toNat) ((false, ([], [])) : Bool × ((List Int) × (List Int)))) with
              | none => none
              | some (.exit d1) =>
                some (d1.1, d1.2.1)
              | some (.ret d1) =>
                none
            else none
          else none
        else none
      else none
    else none
  else none
theorem l_regret_sumsI_6_step (m : Nat) (d : dens l_regret_sumsI_6H.tys) : l_regret_sumsI_6L.f (m + 1) d = round E_regret_sumsI LL_regret_sumsI m [45] 73 (loopN (bodyOf Tryd.f45) 1) l_regret_sumsI_6L (l_regret_sumsI_6L.f m) d := by kernel_rfl
theorem l_regret_sumsI_11_step (m : Nat) (d : dens l_regret_sumsI_11H.tys) : l_regret_sumsI_11L.f (m + 1) d = round E_regret_sumsI LL_regret_sumsI m [45] 73 (loopN (bodyOf Tryd.f45) 2) l_regret_sumsI_11L (l_regret_sumsI_11L.f m) d := by kernel_rfl
theorem l_regret_sumsI_3_step (m : Nat) (d : dens l_regret_sumsI_3H.tys) : l_regret_sumsI_3L.f (m + 1) d = round E_regret_sumsI LL_regret_sumsI m [45] 73 (loopN (bodyOf Tryd.f45) 0) l_regret_sumsI_3L (l_regret_sumsI_3L.f m) d := by kernel_rfl
theorem f_regret_sumsI_run (k : Nat) (x : denL [.slice (.slice (.pair .bool (.pair (.slice (.int .u32)) (.slice (.int .u32))))), .slice (.arr 2 (.int .i64))]) : runFn E_regret_sumsI LL_regret_sumsI k 45 Tryd.f45 [.slice (.slice (.pair .bool (.pair (.slice (.int .u32)) (.slice (.int .u32))))), .slice (.arr 2 (.int .i64))] [.imm (.slice (.pair .bool (.pair (.slice (.int .u32)) (.slice (.int .u32))))), .imm (.slice (.pair .bool (.pair (.slice (.int .u32)) (.slice (.int .u32)))))] x = f_regret_sumsI k x.1 x.2 := by kernel_rfl
noncomputable def S_regret_sumsI : Vm.Spec := { ps := [.slice (.slice (.pair .bool (.pair (.slice (.int .u32)) (.slice (.int .u32))))), .slice (.arr 2 (.int .i64))], rs := [.imm (.slice (.pair .bool (.pair (.slice (.int .u32)) (.slice (.int .u32))))), .imm (.slice (.pair .bool (.pair (.slice (.int .u32)) (.slice (.int .u32)))))], f := fun x => f_regret_sumsI fuel x.1 x.2 }
theorem f_regret_sumsI_holds : Vm.Spec.holds Tryd.prog 45 S_regret_sumsI := by
  have hB : BodiesOk Tryd.prog E_regret_sumsI := bodies_none rfl
  have hBS : BodiesStepped E_regret_sumsI LL_regret_sumsI := bodies_stepped_none rfl
  have hS : SpecsOk Tryd.prog E_regret_sumsI := specs_ok (by exact ⟨⟨by kernel_rfl, f_rat_Q_Add_holds⟩, trivial⟩)
  have hE : EOk Tryd.prog E_regret_sumsI := eok_te ok
  exact fn_sound (L := LL_regret_sumsI) hE hS hB (draws_ok hE hS (by kernel_rfl)) hBS (fn := Tryd.f45) (by kernel_rfl) (c := bodyOf Tryd.f45) (by kernel_rfl) (stepped_of (ls := [(3, l_regret_sumsI_3L), (6, l_regret_sumsI_6L), (11, l_regret_sumsI_11L)]) rfl rfl ⟨by kernel_rfl, fun _ => rfl, l_regret_sumsI_3_step, by kernel_rfl, fun _ => rfl, l_regret_sumsI_6_step, by kernel_rfl, fun _ => rfl, l_regret_sumsI_11_step, stepsI_end (by kernel_rfl)⟩) fun x r h => ⟨fuel, (f_regret_sumsI_run fuel x).trans h⟩

/-! gamehall/regret.Regrets -/
noncomputable def E_regret_Regrets : Env := { te := te, spec := [(11, S_regret_Check), (32, S_matrix_In), (34, S_rat_Q_Add), (40, S_matrix_Out), (45, S_regret_sums), (46, S_rat_Q_Sub)], body := [] }
def l_regret_Regrets_7H : Ann := { slots := [(8, .one (.own 104 (.slice (.pair .bool (.pair (.slice (.int .u32)) (.slice (.int .u32))))))), (9, .one (.fix (.pbox 36 0))), (27, .one (.val (.slice (.arr 2 (.int .i64))))), (28, .one (.val (.int .i64))), (29, .one (.val (.int .i64)))], objs := [(104, .buf (.slice (.pair .bool (.pair (.slice (.int .u32)) (.slice (.int .u32)))))), (36, .box [.val .bool, .val (.slice (.int .u32)), .val (.slice (.int .u32))])] }
def l_regret_Regrets_7X : Ann := { slots := [(8, .one (.own 104 (.slice (.pair .bool (.pair (.slice (.int .u32)) (.slice (.int .u32))))))), (9, .one (.fix (.pbox 36 0)))], objs := [(104, .buf (.slice (.pair .bool (.pair (.slice (.int .u32)) (.slice (.int .u32)))))), (36, .box [.val .bool, .val (.slice (.int .u32)), .val (.slice (.int .u32))])] }
def l_regret_Regrets_7R : Ann := { slots := [], objs := [] }
def l_regret_Regrets_13H : Ann := { slots := [(9, .one (.fix (.pbox 36 0))), (12, .one (.own 192 (.pair .bool (.pair (.slice (.int .u32)) (.slice (.int .u32)))))), (52, .one (.val (.int .i64))), (53, .one (.val (.int .i64)))], objs := [(36, .box [.val .bool, .val (.slice (.int .u32)), .val (.slice (.int .u32))]), (192, .buf (.pair .bool (.pair (.slice (.int .u32)) (.slice (.int .u32)))))] }
def l_regret_Regrets_13X : Ann := { slots := [(9, .one (.fix (.pbox 36 0))), (12, .one (.own 192 (.pair .bool (.pair (.slice (.int .u32)) (.slice (.int .u32))))))], objs := [(36, .box [.val .bool, .val (.slice (.int .u32)), .val (.slice (.int .u32))]), (192, .buf (.pair .bool (.pair (.slice (.int .u32)) (.slice (.int .u32)))))] }
def l_regret_Regrets_13R : Ann := { slots := [], objs := [] }
def l_regret_Regrets_18H : Ann := { slots := [(9, .one (.fix (.pbox 36 0))), (13, .one (.own 193 (.pair .bool (.pair (.slice (.int .u32)) (.slice (.int .u32)))))), (67, .one (.val (.int .i64))), (68, .one (.val (.int .i64)))], objs := [(36, .box [.val .bool, .val (.slice (.int .u32)), .val (.slice (.int .u32))]), (193, .buf (.pair .bool (.pair (.slice (.int .u32)) (.slice (.int .u32)))))] }
def l_regret_Regrets_18X : Ann := { slots := [(13, .one (.own 193 (.pair .bool (.pair (.slice (.int .u32)) (.slice (.int .u32))))))], objs := [(193, .buf (.pair .bool (.pair (.slice (.int .u32)) (.slice (.int .u32))))), (36, .box [.val .bool, .val (.slice (.int .u32)), .val (.slice (.int .u32))])] }
def l_regret_Regrets_18R : Ann := { slots := [], objs := [] }
def l_regret_Regrets_7 : Nat → List (List Int) → Int → Int → List (List (Bool × ((List Int) × (List Int)))) → Bool → List Int → List Int → Option (LR l_regret_Regrets_7X l_regret_Regrets_7R)
  | 0, _, _, _, _, _, _, _ => none
  | m + 1, s27, s28, s29, b104, b36_0, b36_1, b36_2 =>
    if decide (s29 < s28) = true then
      if (0 : Int) ≤ s29 then
        if s29 < s27.length then
          if (0 : Int) ≤ (s27.getD s29.toNat (List.replicate 2 0)).getD 0 0 then
            if (s27.getD s29.toNat (List.replicate 2 0)).getD 0 0 < b104.length then
              if (0 : Int) ≤ (s27.getD s29.toNat (List.replicate 2 0)).getD 1 0 then
                if (s27.getD s29.toNat (List.replicate 2 0)).getD 1 0 < (b104.getD (((s27.getD s29.toNat (List.replicate 2 0)).getD 0 0).toNat) []).length then
                  (f_rat_Q_Add fuel (b36_0, (b36_1, b36_2)) (((b104.getD (((s27.getD s29.toNat (List.replicate 2 0)).getD 0 0).toNat) []).getD (((s27.getD s29.toNat (List.replicate 2 0)).getD 1 0).toNat) (false, ([], []))).1, (((b104.getD (((s27.getD s29.toNat (List.replicate 2 0)).getD 0 0).toNat) []).getD (((s27.getD s29.toNat (List.replicate 2 0)).getD 1 0).toNat) (false, ([], []))).2))).bind fun r1 =>
                  l_regret_Regrets_7 m s27 s28 (IntKind.i64.wrap (s29 + 1)) b104 r1.1 r1.2.1 r1.2.2
                else none
              else none
            else none
          else none
        else none
      else none
    else
      some (.exit (b104, b36_0, b36_1, b36_2, ()))
def l_regret_Regrets_7L : LSpec := { h := l_regret_Regrets_7H, x := l_regret_Regrets_7X, r := l_regret_Regrets_7R, xid := 0, rt := false, pins := [104, 36], f := fun k d => l_regret_Regrets_7 k d.1 d.2.1 d.2.2.1 d.2.2.2.1 d.2.2.2.2.1 d.2.2.2.2.2.1 d.2.2.2.2.2.2.1 }
def l_regret_Regrets_13 : Nat → Int → Int → Bool → List Int → List Int → List (Bool × ((List Int) × (List Int))) → Option (LR l_regret_Regrets_13X l_regret_Regrets_13R)
  | 0, _, _, _, _, _, _ => none
  | m + 1, s52, s53, b36_0, b36_1, b36_2, b192 =>
    if decide (s53 < s52) = true then
      if (0 : Int) ≤ s53 then
        if s53 < b192.length then
          (f_rat_Q_Sub fuel ((b192.getD s53.toNat (false, ([], []))).1, ((b192.getD s53.toNat (false, ([], []))).2)) (b36_0, (b36_1, b36_2))).bind fun r1 =>
          if (0 : Int) ≤ s53 then
            if s53 < b192.length then
              l_regret_Regrets_13 m s52 (IntKind.i64.wrap (s53 + 1)) b36_0 b36_1 b36_2 (b192.set s53.toNat r1)
            else none
          else none
        else none
      else none
    else
      some (.exit (b36_0, b36_1, b36_2, b192, ()))
def l_regret_Regrets_13L : LSpec := { h := l_regret_Regrets_13H, x := l_regret_Regrets_13X, r := l_regret_Regrets_13R, xid := 2, rt := false, pins := [36, 192], f := fun k d => l_regret_Regrets_13 k d.1 d.2.1 d.2.2.1 d.2.2.2.1 d.2.2.2.2.1 d.2.2.2.2.2.1 }
def l_regret_Regrets_18 : Nat → Int → Int → Bool → List Int → List Int → List (Bool × ((List Int) × (List Int))) → Option (LR l_regret_Regrets_18X l_regret_Regrets_18R)
  | 0, _, _, _, _, _, _ => none
  | m + 1, s67, s68, b36_0, b36_1, b36_2, b193 =>
    if decide (s68 < s67) = true then
      if (0 : Int) ≤ s68 then
        if s68 < b193.length then
          (f_rat_Q_Sub fuel (b36_0, (b36_1, b36_2)) ((b193.getD s68.toNat (false, ([], []))).1, ((b193.getD s68.toNat (false, ([], []))).2))).bind fun r1 =>
          if (0 : Int) ≤ s68 then
            if s68 < b193.length then
              l_regret_Regrets_18 m s67 (IntKind.i64.wrap (s68 + 1)) b36_0 b36_1 b36_2 (b193.set s68.toNat r1)
            else none
          else none
        else none
      else none
    else
      some (.exit (b193, b36_0, b36_1, b36_2, ()))
def l_regret_Regrets_18L : LSpec := { h := l_regret_Regrets_18H, x := l_regret_Regrets_18X, r := l_regret_Regrets_18R, xid := 4, rt := false, pins := [36, 193], f := fun k d => l_regret_Regrets_18 k d.1 d.2.1 d.2.2.1 d.2.2.2.1 d.2.2.2.2.1 d.2.2.2.2.2.1 }
def LL_regret_Regrets : Loops := [([17], [(7, l_regret_Regrets_7L), (13, l_regret_Regrets_13L), (18, l_regret_Regrets_18L)])]
def f_regret_Regrets (k : Nat) (a0 : List (List ByteArray)) (a1 : List (List Int)) : Option (List ByteArray × List ByteArray × Int) :=
  (f_regret_Check fuel a0 a1).bind fun r1 =>
  if (r1 != 0) = true then
    some ([], [], r1)
  else
    (f_matrix_In fuel a0).bind fun r2 =>
    match l_regret_Regrets_7 k a1 (a1.length : Int) 0 r2 false [] [] with
    | none => none
    | some (.exit d3) =>
      (f_regret_sums fuel d3.1 a1).bind fun r4 =>
      match l_regret_Regrets_13 k (r4.1.length : Int) 0 d3.2.1 d3.2.2.1 d3.2.2.2.1 r4.1 with
      | none => none
      | some (.exit d5) =>
        match l_regret_Regrets_18 k (r4.2.length : Int) 0 d5.1 d5.2.1 d5.2.2.1 r4.2 with
        | none => none
        | some (.exit d6) =>
          (f_matrix_Out fuel d5.2.2.2.1).bind fun r7 =>
          if (r7.2 != 0) = true then
            some ([], [], r7.2)
          else
            (f_matrix_Out fuel d6.1).bind fun r8 =>
            if (r8.2 != 0) = true then
              some ([], [], r8.2)
            else
              some (r7.1, r8.1, 0)
        | some (.ret d6) =>
          none
      | some (.ret d5) =>
        none
    | some (.ret d3) =>
      none
theorem l_regret_Regrets_7_step (m : Nat) (d : dens l_regret_Regrets_7H.tys) : l_regret_Regrets_7L.f (m + 1) d = round E_regret_Regrets LL_regret_Regrets m [17] 99 (loopN (bodyOf Tryd.f17) 0) l_regret_Regrets_7L (l_regret_Regrets_7L.f m) d := by kernel_rfl
theorem l_regret_Regrets_13_step (m : Nat) (d : dens l_regret_Regrets_13H.tys) : l_regret_Regrets_13L.f (m + 1) d = round E_regret_Regrets LL_regret_Regrets m [17] 99 (loopN (bodyOf Tryd.f17) 1) l_regret_Regrets_13L (l_regret_Regrets_13L.f m) d := by kernel_rfl
theorem l_regret_Regrets_18_step (m : Nat) (d : dens l_regret_Regrets_18H.tys) : l_regret_Regrets_18L.f (m + 1) d = round E_regret_Regrets LL_regret_Regrets m [17] 99 (loopN (bodyOf Tryd.f17) 2) l_regret_Regrets_18L (l_regret_Regrets_18L.f m) d := by kernel_rfl
theorem f_regret_Regrets_run (k : Nat) (x : denL [.slice (.slice .str), .slice (.arr 2 (.int .i64))]) : runFn E_regret_Regrets LL_regret_Regrets k 17 Tryd.f17 [.slice (.slice .str), .slice (.arr 2 (.int .i64))] [.fresh .str, .fresh .str, .imm (.int .i64)] x = f_regret_Regrets k x.1 x.2 := by kernel_rfl
noncomputable def S_regret_Regrets : Vm.Spec := { ps := [.slice (.slice .str), .slice (.arr 2 (.int .i64))], rs := [.fresh .str, .fresh .str, .imm (.int .i64)], f := fun x => f_regret_Regrets fuel x.1 x.2 }
theorem f_regret_Regrets_holds : Vm.Spec.holds Tryd.prog 17 S_regret_Regrets := by
  have hB : BodiesOk Tryd.prog E_regret_Regrets := bodies_none rfl
  have hBS : BodiesStepped E_regret_Regrets LL_regret_Regrets := bodies_stepped_none rfl
  have hS : SpecsOk Tryd.prog E_regret_Regrets := specs_ok (by exact ⟨⟨by kernel_rfl, f_regret_Check_holds⟩, ⟨by kernel_rfl, f_matrix_In_holds⟩, ⟨by kernel_rfl, f_rat_Q_Add_holds⟩, ⟨by kernel_rfl, f_matrix_Out_holds⟩, ⟨by kernel_rfl, f_regret_sums_holds⟩, ⟨by kernel_rfl, f_rat_Q_Sub_holds⟩, trivial⟩)
  have hE : EOk Tryd.prog E_regret_Regrets := eok_te ok
  exact fn_sound (L := LL_regret_Regrets) hE hS hB (draws_ok hE hS (by kernel_rfl)) hBS (fn := Tryd.f17) (by kernel_rfl) (c := bodyOf Tryd.f17) (by kernel_rfl) (stepped_of (ls := [(7, l_regret_Regrets_7L), (13, l_regret_Regrets_13L), (18, l_regret_Regrets_18L)]) rfl rfl ⟨by kernel_rfl, fun _ => rfl, l_regret_Regrets_7_step, by kernel_rfl, fun _ => rfl, l_regret_Regrets_13_step, by kernel_rfl, fun _ => rfl, l_regret_Regrets_18_step, stepsI_end (by kernel_rfl)⟩) fun x r h => ⟨fuel, (f_regret_Regrets_run fuel x).trans h⟩

/-! gamehall/rat.Told -/
noncomputable def E_rat_Told : Env := { te := te, spec := [(55, S_rat_Q_Out), (65, S_rat_Fits)], body := [] }
def LL_rat_Told : Loops := []
def f_rat_Told (k : Nat) (a0 : Bool × ((List Int) × (List Int))) : Option (ByteArray × Int) :=
  (f_rat_Fits fuel a0).bind fun r1 =>
  if (r1 != 0) = true then
    some ((⟨#[]⟩ : ByteArray), r1)
  else
    (f_rat_Q_Out fuel a0).bind fun r2 =>
    some (r2, 0)
theorem f_rat_Told_run (k : Nat) (x : denL [.pair .bool (.pair (.slice (.int .u32)) (.slice (.int .u32)))]) : runFn E_rat_Told LL_rat_Told k 47 Tryd.f47 [.pair .bool (.pair (.slice (.int .u32)) (.slice (.int .u32)))] [.imm .str, .imm (.int .i64)] x = f_rat_Told k x := by kernel_rfl
noncomputable def S_rat_Told : Vm.Spec := { ps := [.pair .bool (.pair (.slice (.int .u32)) (.slice (.int .u32)))], rs := [.imm .str, .imm (.int .i64)], f := fun x => f_rat_Told fuel x }
theorem f_rat_Told_holds : Vm.Spec.holds Tryd.prog 47 S_rat_Told := by
  have hB : BodiesOk Tryd.prog E_rat_Told := bodies_none rfl
  have hBS : BodiesStepped E_rat_Told LL_rat_Told := bodies_stepped_none rfl
  have hS : SpecsOk Tryd.prog E_rat_Told := specs_ok (by exact ⟨⟨by kernel_rfl, f_rat_Q_Out_holds⟩, ⟨by kernel_rfl, f_rat_Fits_holds⟩, trivial⟩)
  have hE : EOk Tryd.prog E_rat_Told := eok_te ok
  exact fn_sound (L := LL_rat_Told) hE hS hB (draws_ok hE hS (by kernel_rfl)) hBS (fn := Tryd.f47) (by kernel_rfl) (c := bodyOf Tryd.f47) (by kernel_rfl) (stepped_none rfl) fun x r h => ⟨fuel, (f_rat_Told_run fuel x).trans h⟩

/-! gamehall/regret.Bounds -/
noncomputable def E_regret_Bounds : Env := { te := te, spec := [(11, S_regret_Check), (32, S_matrix_In), (33, S_rat_Q_Cmp), (38, S_rat_Int), (39, S_rat_Q_Quo), (45, S_regret_sumsI), (47, S_rat_Told)], body := [] }
def l_regret_Bounds_9H : Ann := { slots := [(10, .one (.fix (.pbox 40 0))), (42, .one (.val (.slice (.pair .bool (.pair (.slice (.int .u32)) (.slice (.int .u32))))))), (43, .one (.val (.int .i64))), (44, .one (.val (.int .i64)))], objs := [(40, .box [.val .bool, .val (.slice (.int .u32)), .val (.slice (.int .u32))])] }
def l_regret_Bounds_9X : Ann := { slots := [(10, .one (.fix (.pbox 40 0)))], objs := [(40, .box [.val .bool, .val (.slice (.int .u32)), .val (.slice (.int .u32))])] }
def l_regret_Bounds_9R : Ann := { slots := [], objs := [] }
def l_regret_Bounds_15H : Ann := { slots := [(11, .one (.fix (.pbox 44 0))), (54, .one (.val (.slice (.pair .bool (.pair (.slice (.int .u32)) (.slice (.int .u32))))))), (55, .one (.val (.int .i64))), (56, .one (.val (.int .i64)))], objs := [(44, .box [.val .bool, .val (.slice (.int .u32)), .val (.slice (.int .u32))])] }
def l_regret_Bounds_15X : Ann := { slots := [(11, .one (.fix (.pbox 44 0)))], objs := [(44, .box [.val .bool, .val (.slice (.int .u32)), .val (.slice (.int .u32))])] }
def l_regret_Bounds_15R : Ann := { slots := [], objs := [] }
def l_regret_Bounds_9 : Nat → List (Bool × ((List Int) × (List Int))) → Int → Int → Bool → List Int → List Int → Option (LR l_regret_Bounds_9X l_regret_Bounds_9R)
  | 0, _, _, _, _, _, _ => none
  | m + 1, s42, s43, s44, b40_0, b40_1, b40_2 =>
    if decide (s44 < s43) = true then
      if (0 : Int) ≤ s44 then
        if s44 < s42.length then
          (f_rat_Q_Cmp fuel ((s42.getD s44.toNat (false, ([], []))).1, ((s42.getD s44.toNat (false, ([], []))).2)) (b40_0, (b40_1, b40_2))).bind fun r1 =>
          if decide (r1 > 0) = true then
            l_regret_Bounds_9 m s42 s43 (IntKind.i64.wrap (s44 + 1)) ((s42.getD s44.toNat (false, ([], []))).1) (((s42.getD s44.toNat (false, ([], []))).2).1) (((s42.getD s44.toNat (false, ([], []))).2).2)
          else
            l_regret_Bounds_9 m s42 s43 (IntKind.i64.wrap (s44 + 1)) b40_0 b40_1 b40_2
        else none
      else none
    else
      some (.exit (b40_0, b40_1, b40_2, ()))
def l_regret_Bounds_9L : LSpec := { h := l_regret_Bounds_9H, x := l_regret_Bounds_9X, r := l_regret_Bounds_9R, xid := 0, rt := false, pins := [40], f := fun k d => l_regret_Bounds_9 k d.1 d.2.1 d.2.2.1 d.2.2.2.1 d.2.2.2.2.1 d.2.2.2.2.2.1 }
def l_regret_Bounds_15 : Nat → List (Bool × ((List Int) × (List Int))) → Int → Int → Bool → List Int → List Int → Option (LR l_regret_Bounds_15X l_regret_Bounds_15R)
  | 0, _, _, _, _, _, _ => none
  | m + 1, s54, s55, s56, b44_0, b44_1, b44_2 =>
    if decide (s56 < s55) = true then
      if (0 : Int) ≤ s56 then
        if s56 < s54.length then
          (f_rat_Q_Cmp fuel ((s54.getD s56.toNat (false, ([], []))).1, ((s54.getD s56.toNat (false, ([], []))).2)) (b44_0, (b44_1, b44_2))).bind fun r1 =>
          if decide (r1 < 0) = true then
            l_regret_Bounds_15 m s54 s55 (IntKind.i64.wrap (s56 + 1)) ((s54.getD s56.toNat (false, ([], []))).1) (((s54.getD s56.toNat (false, ([], []))).2).1) (((s54.getD s56.toNat (false, ([], []))).2).2)
          else
            l_regret_Bounds_15 m s54 s55 (IntKind.i64.wrap (s56 + 1)) b44_0 b44_1 b44_2
        else none
      else none
    else
      some (.exit (b44_0, b44_1, b44_2, ()))
def l_regret_Bounds_15L : LSpec := { h := l_regret_Bounds_15H, x := l_regret_Bounds_15X, r := l_regret_Bounds_15R, xid := 2, rt := false, pins := [44], f := fun k d => l_regret_Bounds_15 k d.1 d.2.1 d.2.2.1 d.2.2.2.1 d.2.2.2.2.1 d.2.2.2.2.2.1 }
def LL_regret_Bounds : Loops := [([18], [(9, l_regret_Bounds_9L), (15, l_regret_Bounds_15L)])]
def f_regret_Bounds (k : Nat) (a0 : List (List ByteArray)) (a1 : List (List Int)) : Option (ByteArray × ByteArray × Int) :=
  (f_regret_Check fuel a0 a1).bind fun r1 =>
  if (r1 != 0) = true then
    some ((⟨#[]⟩ : ByteArray), (⟨#[]⟩ : ByteArray), r1)
  else
    if ((a1.length : Int) == 0) = true then
      some ((⟨#[]⟩ : ByteArray), (⟨#[]⟩ : ByteArray), 8)
    else
      (f_matrix_In fuel a0).bind fun r2 =>
      (f_regret_sumsI fuel r2 a1).bind fun r3 =>
      if (0 : Int) < r3.1.length then
        if (0 : Int) < r3.2.length then
          match l_regret_Bounds_9 k r3.1 (r3.1.length : Int) 0 ((r3.1.getD 0 (false, ([], []))).1) (((r3.1.getD 0 (false, ([], []))).2).1) (((r3.1.getD 0 (false, ([], []))).2).2) with
          | none => none
          | some (.exit d4) =>
            match l_regret_Bounds_15 k r3.2 (r3.2.length : Int) 0 ((r3.2.getD 0 (false, ([], []))).1) (((r3.2.getD 0 (false, ([], []))).2).1) (((r3.2.getD 0 (false, ([], []))).2).2) with
            | none => none
            | some (.exit d5) =>
              (f_rat_Int fuel (a1.length : Int)).bind fun r6 =>
              (f_rat_Q_Quo fuel (d5.1, (d5.2.1, d5.2.2.1)) r6).bind fun r7 =>
              (f_rat_Told fuel r7).bind fun r8 =>
              if (r8.2 != 0) = true then
                some ((⟨#[]⟩ : ByteArray), (⟨#[]⟩ : ByteArray), r8.2)
              else
                (f_rat_Q_Quo fuel (d4.1, (d4.2.1, d4.2.2.1)) r6).bind fun r9 =>
                (f_rat_Told fuel r9).bind fun r10 =>
                if (r10.2 != 0) = true then
                  some ((⟨#[]⟩ : ByteArray), (⟨#[]⟩ : ByteArray), r10.2)
                else
                  some (r8.1, r10.1, 0)
            | some (.ret d5) =>
              none
          | some (.ret d4) =>
            none
        else none
      else none
theorem l_regret_Bounds_9_step (m : Nat) (d : dens l_regret_Bounds_9H.tys) : l_regret_Bounds_9L.f (m + 1) d = round E_regret_Bounds LL_regret_Bounds m [18] 91 (loopN (bodyOf Tryd.f18) 0) l_regret_Bounds_9L (l_regret_Bounds_9L.f m) d := by kernel_rfl
theorem l_regret_Bounds_15_step (m : Nat) (d : dens l_regret_Bounds_15H.tys) : l_regret_Bounds_15L.f (m + 1) d = round E_regret_Bounds LL_regret_Bounds m [18] 91 (loopN (bodyOf Tryd.f18) 1) l_regret_Bounds_15L (l_regret_Bounds_15L.f m) d := by kernel_rfl
theorem f_regret_Bounds_run (k : Nat) (x : denL [.slice (.slice .str), .slice (.arr 2 (.int .i64))]) : runFn E_regret_Bounds LL_regret_Bounds k 18 Tryd.f18 [.slice (.slice .str), .slice (.arr 2 (.int .i64))] [.imm .str, .imm .str, .imm (.int .i64)] x = f_regret_Bounds k x.1 x.2 := by kernel_rfl
noncomputable def S_regret_Bounds : Vm.Spec := { ps := [.slice (.slice .str), .slice (.arr 2 (.int .i64))], rs := [.imm .str, .imm .str, .imm (.int .i64)], f := fun x => f_regret_Bounds fuel x.1 x.2 }
theorem f_regret_Bounds_holds : Vm.Spec.holds Tryd.prog 18 S_regret_Bounds := by
  have hB : BodiesOk Tryd.prog E_regret_Bounds := bodies_none rfl
  have hBS : BodiesStepped E_regret_Bounds LL_regret_Bounds := bodies_stepped_none rfl
  have hS : SpecsOk Tryd.prog E_regret_Bounds := specs_ok (by exact ⟨⟨by kernel_rfl, f_regret_Check_holds⟩, ⟨by kernel_rfl, f_matrix_In_holds⟩, ⟨by kernel_rfl, f_rat_Q_Cmp_holds⟩, ⟨by kernel_rfl, f_rat_Int_holds⟩, ⟨by kernel_rfl, f_rat_Q_Quo_holds⟩, ⟨by kernel_rfl, f_regret_sumsI_holds⟩, ⟨by kernel_rfl, f_rat_Told_holds⟩, trivial⟩)
  have hE : EOk Tryd.prog E_regret_Bounds := eok_te ok
  exact fn_sound (L := LL_regret_Bounds) hE hS hB (draws_ok hE hS (by kernel_rfl)) hBS (fn := Tryd.f18) (by kernel_rfl) (c := bodyOf Tryd.f18) (by kernel_rfl) (stepped_of (ls := [(9, l_regret_Bounds_9L), (15, l_regret_Bounds_15L)]) rfl rfl ⟨by kernel_rfl, fun _ => rfl, l_regret_Bounds_9_step, by kernel_rfl, fun _ => rfl, l_regret_Bounds_15_step, stepsI_end (by kernel_rfl)⟩) fun x r h => ⟨fuel, (f_regret_Bounds_run fuel x).trans h⟩

/-! gamehall/gamehallkeep2.fine -/
noncomputable def E_gamehallkeep2_fine : Env := { te := te, spec := [], body := [(49, Tryd.f49), (50, Tryd.f50), (72, Tryd.f72)] }
def l_slices_IndexFunc_Errno__slices_ContainsFunc_Errno__gamehallkeep2_fine_2H : Ann := { slots := [(0, .one (.val (.slice (.int .i64)))), (1, .one (.fix (.func 50))), (7, .one (.val (.int .i64))), (8, .one (.val (.int .i64)))], objs := [] }
def l_slices_IndexFunc_Errno__slices_ContainsFunc_Errno__gamehallkeep2_fine_2X : Ann := { slots := [], objs := [] }
def l_slices_IndexFunc_Errno__slices_ContainsFunc_Errno__gamehallkeep2_fine_2R : Ann := { slots := [(4, .one (.val (.int .i64)))], objs := [] }
def l_slices_IndexFunc_Errno__slices_ContainsFunc_Errno__gamehallkeep2_fine_2 : Nat → List Int → Int → Int → Option (LR l_slices_IndexFunc_Errno__slices_ContainsFunc_Errno__gamehallkeep2_fine_2X l_slices_IndexFunc_Errno__slices_ContainsFunc_Errno__gamehallkeep2_fine_2R)
  | 0, _, _, _ => none
  | m + 1, s0, s7, s8 =>
    if decide (s8 < s7) = true then
      if (0 : Int) ≤ s8 then
        if s8 < s0.length then
          if (s0.getD s8.toNat 0 != 0) = true then
            some (.ret (s8, ()))
          else
            l_slices_IndexFunc_Errno__slices_ContainsFunc_Errno__gamehallkeep2_fine_2 m s0 s7 (IntKind.i64.wrap (s8 + 1))
        else none
      else none
    else
      some (.exit ())
def l_slices_IndexFunc_Errno__slices_ContainsFunc_Errno__gamehallkeep2_fine_2L : LSpec := { h := l_slices_IndexFunc_Errno__slices_ContainsFunc_Errno__gamehallkeep2_fine_2H, x := l_slices_IndexFunc_Errno__slices_ContainsFunc_Errno__gamehallkeep2_fine_2X, r := l_slices_IndexFunc_Errno__slices_ContainsFunc_Errno__gamehallkeep2_fine_2R, xid := 0, rt := true, pins := [], f := fun k d => l_slices_IndexFunc_Errno__slices_ContainsFunc_Errno__gamehallkeep2_fine_2 k d.1 d.2.1 d.2.2.1 }
def LL_gamehallkeep2_fine : Loops := [([72, 49, 20], [(2, l_slices_IndexFunc_Errno__slices_ContainsFunc_Errno__gamehallkeep2_fine_2L)])]
def f_gamehallkeep2_fine (k : Nat) (a0 : List Int) : Option (Bool) :=
  match l_slices_IndexFunc_Errno__slices_ContainsFunc_Errno__gamehallkeep2_fine_2 k a0 (a0.length : Int) 0 with
  | none => none
  | some (.exit d1) =>
    some true
  | some (.ret d1) =>
    some (!(decide (d1.1 ≥ 0)))
theorem l_slices_IndexFunc_Errno__slices_ContainsFunc_Errno__gamehallkeep2_fine_2_step (m : Nat) (d : dens l_slices_IndexFunc_Errno__slices_ContainsFunc_Errno__gamehallkeep2_fine_2H.tys) : l_slices_IndexFunc_Errno__slices_ContainsFunc_Errno__gamehallkeep2_fine_2L.f (m + 1) d = round E_gamehallkeep2_fine LL_gamehallkeep2_fine m [72, 49, 20] 19 (loopN (bodyOf Tryd.f72) 0) l_slices_IndexFunc_Errno__slices_ContainsFunc_Errno__gamehallkeep2_fine_2L (l_slices_IndexFunc_Errno__slices_ContainsFunc_Errno__gamehallkeep2_fine_2L.f m) d := by kernel_rfl
theorem f_gamehallkeep2_fine_run (k : Nat) (x : denL [.slice (.int .i64)]) : runFn E_gamehallkeep2_fine LL_gamehallkeep2_fine k 20 Tryd.f20 [.slice (.int .i64)] [.imm .bool] x = f_gamehallkeep2_fine k x := by kernel_rfl
noncomputable def S_gamehallkeep2_fine : Vm.Spec := { ps := [.slice (.int .i64)], rs := [.imm .bool], f := fun x => f_gamehallkeep2_fine fuel x }
theorem f_gamehallkeep2_fine_holds : Vm.Spec.holds Tryd.prog 20 S_gamehallkeep2_fine := by
  have hB : BodiesOk Tryd.prog E_gamehallkeep2_fine := bodies_ok (by exact ⟨by kernel_rfl, by kernel_rfl, by kernel_rfl, by kernel_rfl, by kernel_rfl, by kernel_rfl, trivial⟩)
  have hBS : BodiesStepped E_gamehallkeep2_fine LL_gamehallkeep2_fine := by
    refine bodies_stepped ?_
    exact ⟨(fun _ => stepped_noloop (by kernel_rfl)), (fun _ => stepped_noloop (by kernel_rfl)), (stepped_paths [[49, 20]] (by exact ⟨stepped_of (ls := [(2, l_slices_IndexFunc_Errno__slices_ContainsFunc_Errno__gamehallkeep2_fine_2L)]) rfl rfl ⟨by kernel_rfl, fun _ => rfl, l_slices_IndexFunc_Errno__slices_ContainsFunc_Errno__gamehallkeep2_fine_2_step, stepsI_end (by kernel_rfl)⟩,  trivial⟩) rfl),  trivial⟩
  have hS : SpecsOk Tryd.prog E_gamehallkeep2_fine := specs_ok (by exact trivial)
  have hE : EOk Tryd.prog E_gamehallkeep2_fine := eok_te ok
  exact fn_sound (L := LL_gamehallkeep2_fine) hE hS hB (draws_ok hE hS (by kernel_rfl)) hBS (fn := Tryd.f20) (by kernel_rfl) (c := bodyOf Tryd.f20) (by kernel_rfl) (stepped_none rfl) fun x r h => ⟨fuel, (f_gamehallkeep2_fine_run fuel x).trans h⟩

/-! gamehall/regret.Average -/
noncomputable def E_regret_Average : Env := { te := te, spec := [(11, S_regret_Check), (38, S_rat_Int), (39, S_rat_Q_Quo), (55, S_rat_Q_Out)], body := [(54, Tryd.f54)] }
def l_regret_Average_8H : Ann := { slots := [(8, .one (.own 96 (.int .i64))), (9, .one (.own 116 (.int .i64))), (30, .one (.val (.slice (.arr 2 (.int .i64))))), (31, .one (.val (.int .i64))), (32, .one (.val (.int .i64)))], objs := [(96, .buf (.int .i64)), (116, .buf (.int .i64))] }
def l_regret_Average_8X : Ann := { slots := [(8, .one (.own 96 (.int .i64))), (9, .one (.own 116 (.int .i64)))], objs := [(96, .buf (.int .i64)), (116, .buf (.int .i64))] }
def l_regret_Average_8R : Ann := { slots := [], objs := [] }
def l_regret_Average_1__regret_Average_3H : Ann := { slots := [(1, .one (.fix (.pbox 12 0))), (4, .one (.own 88 .str)), (7, .one (.own 96 (.int .i64))), (8, .one (.val (.int .i64))), (9, .one (.val (.int .i64)))], objs := [(12, .box [.val (.slice (.arr 2 (.int .i64)))]), (88, .buf .str), (96, .buf (.int .i64))] }
def l_regret_Average_1__regret_Average_3X : Ann := { slots := [(4, .one (.own 88 .str))], objs := [(88, .buf .str), (12, .box [.val (.slice (.arr 2 (.int .i64)))]), (96, .buf (.int .i64))] }
def l_regret_Average_1__regret_Average_3R : Ann := { slots := [], objs := [] }
def l_regret_Average_8 : Nat → List (List Int) → Int → Int → List Int → List Int → Option (LR l_regret_Average_8X l_regret_Average_8R)
  | 0, _, _, _, _, _ => none
  | m + 1, s30, s31, s32, b96, b116 =>
    if decide (s32 < s31) = true then
      if (0 : Int) ≤ s32 then
        if s32 < s30.length then
          if (0 : Int) ≤ (s30.getD s32.toNat (List.replicate 2 0)).getD 0 0 then
            if (s30.getD s32.toNat (List.replicate 2 0)).getD 0 0 < b96.length then
              if (0 : Int) ≤ (s30.getD s32.toNat (List.replicate 2 0)).getD 0 0 then
                if (s30.getD s32.toNat (List.replicate 2 0)).getD 0 0 < b96.length then
                  if (0 : Int) ≤ (s30.getD s32.toNat (List.replicate 2 0)).getD 1 0 then
                    if (s30.getD s32.toNat (List.replicate 2 0)).getD 1 0 < b116.length then
                      if (0 : Int) ≤ (s30.getD s32.toNat (List.replicate 2 0)).getD 1 0 then
                        if (s30.getD s32.toNat (List.replicate 2 0)).getD 1 0 < b116.length then
                          l_regret_Average_8 m s30 s31 (IntKind.i64.wrap (s32 + 1)) (b96.set (((s30.getD s32.toNat (List.replicate 2 0)).getD 0 0).toNat) (IntKind.i64.wrap ((b96.getD (((s30.getD s32.toNat (List.replicate 2 0)).getD 0 0).toNat) 0) + 1))) (b116.set (((s30.getD s32.toNat (List.replicate 2 0)).getD 1 0).toNat) (IntKind.i64.wrap ((b116.getD (((s30.getD s32.toNat (List.replicate 2 0)).getD 1 0).toNat) 0) + 1)))
                        else none
                      else none
                    else none
                  else none
                else none
              else none
            else none
          else none
        else none
      else none
    else
      some (.exit (b96, b116, ()))
def l_regret_Average_8L : LSpec := { h := l_regret_Average_8H, x := l_regret_Average_8X, r := l_regret_Average_8R, xid := 0, rt := false, pins := [96, 116], f := fun k d => l_regret_Average_8 k d.1 d.2.1 d.2.2.1 d.2.2.2.1 d.2.2.2.2.1 }
def l_regret_Average_1__regret_Average_3 : Nat → Int → Int → List (List Int) → List ByteArray → List Int → Option (LR l_regret_Average_1__regret_Average_3X l_regret_Average_1__regret_Average_3R)
  | 0, _, _, _, _, _ => none
  | m + 1, s8, s9, b12_0, b88, b96 =>
    if decide (s9 < s8) = true then
      if (0 : Int) ≤ s9 then
        if s9 < b96.length then
          (f_rat_Int fuel (b96.getD s9.toNat 0)).bind fun r1 =>
          (f_rat_Int fuel (b12_0.length : Int)).bind fun r2 =>
          (f_rat_Q_Quo fuel r1 r2).bind fun r3 =>
          (f_rat_Q_Out fuel r3).bind fun r4 =>
          if (b88.length + 1) * 16 ≤ 140737488355328 then
            l_regret_Average_1__regret_Average_3 m s8 (IntKind.i64.wrap (s9 + 1)) b12_0 (b88 ++ [r4]) b96
          else none
        else none
      else none
    else
      some (.exit (b88, b12_0, b96, ()))
def l_regret_Average_1__regret_Average_3L : LSpec := { h := l_regret_Average_1__regret_Average_3H, x := l_regret_Average_1__regret_Average_3X, r := l_regret_Average_1__regret_Average_3R, xid := 0, rt := false, pins := [12, 96], f := fun k d => l_regret_Average_1__regret_Average_3 k d.1 d.2.1 d.2.2.1 d.2.2.2.1 d.2.2.2.2.1 }
def LL_regret_Average : Loops := [([25], [(8, l_regret_Average_8L)]), ([54, 25], [(3, l_regret_Average_1__regret_Average_3L)])]
def f_regret_Average (k : Nat) (a0 : List (List ByteArray)) (a1 : List (List Int)) : Option (List ByteArray × List ByteArray × Int) :=
  (f_regret_Check fuel a0 a1).bind fun r1 =>
  if (r1 != 0) = true then
    some ([], [], r1)
  else
    if ((a1.length : Int) == 0) = true then
      some ([], [], 8)
    else
      if (0 : Int) < a0.length then
        if decide (0 ≤ (a0.length : Int) ∧ (a0.length : Int) ≤ (a0.length : Int) ∧ (a0.length : Int) * 8 ≤ 281474976710656) = true then
          if decide (0 ≤ ((a0.getD 0 []).length : Int) ∧ ((a0.getD 0 []).length : Int) ≤ ((a0.getD 0 []).length : Int) ∧ ((a0.getD 0 []).length : Int) * 8 ≤ 281474976710656) = true then
            if decide (0 ≤ (a0.length : Int) ∧ (a0.length : Int) ≤ (a0.length : Int) ∧ (a0.length : Int) * 8 ≤ 281474976710656) = true then
              if decide (0 ≤ ((a0.getD 0 []).length : Int) ∧ ((a0.getD 0 []).length : Int) ≤ ((a0.getD 0 []).length : Int) ∧ ((a0.getD 0 []).length : Int) * 8 ≤ 281474976710656) = true then
                if decide (0 ≤ ((a0.getD 0 []).length : Int) ∧ ((a0.getD 0 []).length : Int) ≤ ((a0.getD 0 []).length : Int) ∧ ((a0.getD 0 []).length : Int) * 8 ≤ 281474976710656) = true then
                  match l_regret_Average_8 k a1 (a1.length : Int) 0 (List.replicate ((a0.length : Int).toNat) 0) (List.replicate (((a0.getD 0 []).length : Int).toNat) 0) with
                  | none => none
                  | some (.exit d2) =>
                    match l_regret_Average_1__regret_Average_3 k (d2.1.length : Int) 0 a1 [] d2.1 with
                    | none => none
                    | some (.exit d3) =>
                      match l_regret_Average_1__regret_Average_3 k (d2.2.1.length : Int) 0 d3.2.1 [] d2.2.1 with
                      | none => none
                      | some (.exit d4) =>
                        some (d3.1, d4.1, 0)
                      | some (.ret d4) =>
                        none
                    | some (.ret d3) =>
                      none
                  | some (.ret d2) =>
                    none
                else none
              else none
            else none
          else none
        else none
      else none
theorem l_regret_Average_8_step (m : Nat) (d : dens l_regret_Average_8H.tys) : l_regret_Average_8L.f (m + 1) d = round E_regret_Average LL_regret_Average m [25] 58 (loopN (bodyOf Tryd.f25) 0) l_regret_Average_8L (l_regret_Average_8L.f m) d := by kernel_rfl
theorem l_regret_Average_1__regret_Average_3_step (m : Nat) (d : dens l_regret_Average_1__regret_Average_3H.tys) : l_regret_Average_1__regret_Average_3L.f (m + 1) d = round E_regret_Average LL_regret_Average m [54, 25] 25 (loopN (bodyOf Tryd.f54) 0) l_regret_Average_1__regret_Average_3L (l_regret_Average_1__regret_Average_3L.f m) d := by kernel_rfl
theorem f_regret_Average_run (k : Nat) (x : denL [.slice (.slice .str), .slice (.arr 2 (.int .i64))]) : runFn E_regret_Average LL_regret_Average k 25 Tryd.f25 [.slice (.slice .str), .slice (.arr 2 (.int .i64))] [.fresh .str, .fresh .str, .imm (.int .i64)] x = f_regret_Average k x.1 x.2 := by kernel_rfl
noncomputable def S_regret_Average : Vm.Spec := { ps := [.slice (.slice .str), .slice (.arr 2 (.int .i64))], rs := [.fresh .str, .fresh .str, .imm (.int .i64)], f := fun x => f_regret_Average fuel x.1 x.2 }
theorem f_regret_Average_holds : Vm.Spec.holds Tryd.prog 25 S_regret_Average := by
  have hB : BodiesOk Tryd.prog E_regret_Average := bodies_ok (by exact ⟨by kernel_rfl, by kernel_rfl, trivial⟩)
  have hBS : BodiesStepped E_regret_Average LL_regret_Average := by
    refine bodies_stepped ?_
    exact ⟨(stepped_paths [[25]] (by exact ⟨stepped_of (ls := [(3, l_regret_Average_1__regret_Average_3L)]) rfl rfl ⟨by kernel_rfl, fun _ => rfl, l_regret_Average_1__regret_Average_3_step, stepsI_end (by kernel_rfl)⟩,  trivial⟩) rfl),  trivial⟩
  have hS : SpecsOk Tryd.prog E_regret_Average := specs_ok (by exact ⟨⟨by kernel_rfl, f_regret_Check_holds⟩, ⟨by kernel_rfl, f_rat_Int_holds⟩, ⟨by kernel_rfl, f_rat_Q_Quo_holds⟩, ⟨by kernel_rfl, f_rat_Q_Out_holds⟩, trivial⟩)
  have hE : EOk Tryd.prog E_regret_Average := eok_te ok
  exact fn_sound (L := LL_regret_Average) hE hS hB (draws_ok hE hS (by kernel_rfl)) hBS (fn := Tryd.f25) (by kernel_rfl) (c := bodyOf Tryd.f25) (by kernel_rfl) (stepped_of (ls := [(8, l_regret_Average_8L)]) rfl rfl ⟨by kernel_rfl, fun _ => rfl, l_regret_Average_8_step, stepsI_end (by kernel_rfl)⟩) fun x r h => ⟨fuel, (f_regret_Average_run fuel x).trans h⟩

/-! gamehall/gamehallkeep2.pennies -/
noncomputable def E_gamehallkeep2_pennies : Env := { te := te, spec := [], body := [] }
def LL_gamehallkeep2_pennies : Loops := []
def f_gamehallkeep2_pennies (k : Nat) : Option (List (List ByteArray)) :=
  some [[(⟨#[49]⟩ : ByteArray), (⟨#[45, 49]⟩ : ByteArray)], [(⟨#[45, 49]⟩ : ByteArray), (⟨#[49]⟩ : ByteArray)]]
theorem f_gamehallkeep2_pennies_run (k : Nat) (x : denL []) : runFn E_gamehallkeep2_pennies LL_gamehallkeep2_pennies k 26 Tryd.f26 [] [.fresh (.slice .str)] x = f_gamehallkeep2_pennies k := by kernel_rfl
noncomputable def S_gamehallkeep2_pennies : Vm.Spec := { ps := [], rs := [.fresh (.slice .str)], f := fun x => f_gamehallkeep2_pennies fuel }
theorem f_gamehallkeep2_pennies_holds : Vm.Spec.holds Tryd.prog 26 S_gamehallkeep2_pennies := by
  have hB : BodiesOk Tryd.prog E_gamehallkeep2_pennies := bodies_none rfl
  have hBS : BodiesStepped E_gamehallkeep2_pennies LL_gamehallkeep2_pennies := bodies_stepped_none rfl
  have hS : SpecsOk Tryd.prog E_gamehallkeep2_pennies := specs_ok (by exact trivial)
  have hE : EOk Tryd.prog E_gamehallkeep2_pennies := eok_te ok
  exact fn_sound (L := LL_gamehallkeep2_pennies) hE hS hB (draws_ok hE hS (by kernel_rfl)) hBS (fn := Tryd.f26) (by kernel_rfl) (c := bodyOf Tryd.f26) (by kernel_rfl) (stepped_none rfl) fun x r h => ⟨fuel, (f_gamehallkeep2_pennies_run fuel x).trans h⟩

/-! slices.Equal[gamehall/api.Vec,gamehall/api.Rat] -/
noncomputable def E_slices_Equal_Rat : Env := { te := te, spec := [], body := [] }
def l_slices_Equal_Rat_4H : Ann := { slots := [(0, .one (.val (.slice .str))), (1, .one (.val (.slice .str))), (12, .one (.val (.int .i64))), (13, .one (.val (.int .i64)))], objs := [] }
def l_slices_Equal_Rat_4X : Ann := { slots := [], objs := [] }
def l_slices_Equal_Rat_4R : Ann := { slots := [(4, .one (.val .bool))], objs := [] }
def l_slices_Equal_Rat_4 : Nat → List ByteArray → List ByteArray → Int → Int → Option (LR l_slices_Equal_Rat_4X l_slices_Equal_Rat_4R)
  | 0, _, _, _, _ => none
  | m + 1, s0, s1, s12, s13 =>
    if decide (s13 < s12) = true then
      if (0 : Int) ≤ s13 then
        if s13 < s0.length then
          if (0 : Int) ≤ s13 then
            if s13 < s1.length then
              if (!((s0.getD s13.toNat ByteArray.empty).toList == (s1.getD s13.toNat ByteArray.empty).toList)) = true then
                some (.ret (false, ()))
              else
                l_slices_Equal_Rat_4 m s0 s1 s12 (IntKind.i64.wrap (s13 + 1))
            else none
          else none
        else none
      else none
    else
      some (.exit ())
def l_slices_Equal_Rat_4L : LSpec := { h := l_slices_Equal_Rat_4H, x := l_slices_Equal_Rat_4X, r := l_slices_Equal_Rat_4R, xid := 0, rt := true, pins := [], f := fun k d => l_slices_Equal_Rat_4 k d.1 d.2.1 d.2.2.1 d.2.2.2.1 }
def LL_slices_Equal_Rat : Loops := [([27], [(4, l_slices_Equal_Rat_4L)])]
def f_slices_Equal_Rat (k : Nat) (a0 : List ByteArray) (a1 : List ByteArray) : Option (Bool) :=
  if ((a0.length : Int) != (a1.length : Int)) = true then
    some false
  else
    match l_slices_Equal_Rat_4 k a0 a1 (a0.length : Int) 0 with
    | none => none
    | some (.exit d1) =>
      some true
    | some (.ret d1) =>
      some d1.1
theorem l_slices_Equal_Rat_4_step (m : Nat) (d : dens l_slices_Equal_Rat_4H.tys) : l_slices_Equal_Rat_4L.f (m + 1) d = round E_slices_Equal_Rat LL_slices_Equal_Rat m [27] 26 (loopN (bodyOf Tryd.f27) 0) l_slices_Equal_Rat_4L (l_slices_Equal_Rat_4L.f m) d := by kernel_rfl
theorem f_slices_Equal_Rat_run (k : Nat) (x : denL [.slice .str, .slice .str]) : runFn E_slices_Equal_Rat LL_slices_Equal_Rat k 27 Tryd.f27 [.slice .str, .slice .str] [.imm .bool] x = f_slices_Equal_Rat k x.1 x.2 := by kernel_rfl
noncomputable def S_slices_Equal_Rat : Vm.Spec := { ps := [.slice .str, .slice .str], rs := [.imm .bool], f := fun x => f_slices_Equal_Rat fuel x.1 x.2 }
theorem f_slices_Equal_Rat_holds : Vm.Spec.holds Tryd.prog 27 S_slices_Equal_Rat := by
  have hB : BodiesOk Tryd.prog E_slices_Equal_Rat := bodies_none rfl
  have hBS : BodiesStepped E_slices_Equal_Rat LL_slices_Equal_Rat := bodies_stepped_none rfl
  have hS : SpecsOk Tryd.prog E_slices_Equal_Rat := specs_ok (by exact trivial)
  have hE : EOk Tryd.prog E_slices_Equal_Rat := eok_te ok
  exact fn_sound (L := LL_slices_Equal_Rat) hE hS hB (draws_ok hE hS (by kernel_rfl)) hBS (fn := Tryd.f27) (by kernel_rfl) (c := bodyOf Tryd.f27) (by kernel_rfl) (stepped_of (ls := [(4, l_slices_Equal_Rat_4L)]) rfl rfl ⟨by kernel_rfl, fun _ => rfl, l_slices_Equal_Rat_4_step, stepsI_end (by kernel_rfl)⟩) fun x r h => ⟨fuel, (f_slices_Equal_Rat_run fuel x).trans h⟩

/-! gamehall/gamehallkeep2.regretFact -/
noncomputable def E_gamehallkeep2_regretFact : Env := { te := te, spec := [(9, S_regret_Play), (10, S_slices_Equal_2int), (11, S_regret_Check), (12, S_regret_Match), (17, S_regret_Regrets), (18, S_regret_Bounds), (20, S_gamehallkeep2_fine), (25, S_regret_Average), (26, S_gamehallkeep2_pennies), (27, S_slices_Equal_Rat)], body := [] }
def LL_gamehallkeep2_regretFact : Loops := []
def f_gamehallkeep2_regretFact (k : Nat) : Option (Bool) :=
  (f_regret_Regrets fuel [[(⟨#[49]⟩ : ByteArray), (⟨#[48]⟩ : ByteArray)], [(⟨#[51]⟩ : ByteArray), (⟨#[48]⟩ : ByteArray)]] [[0, 0], [0, 1]]).bind fun r1 =>
  (f_regret_Match fuel [(⟨#[51]⟩ : ByteArray), (⟨#[45, 49]⟩ : ByteArray), (⟨#[49]⟩ : ByteArray)]).bind fun r2 =>
  (f_gamehallkeep2_pennies fuel).bind fun r3 =>
  (f_regret_Average fuel r3 [[0, 0], [0, 1]]).bind fun r4 =>
  (f_gamehallkeep2_pennies fuel).bind fun r5 =>
  (f_regret_Play fuel r5 2).bind fun r6 =>
  (f_gamehallkeep2_pennies fuel).bind fun r7 =>
  (f_regret_Bounds fuel r7 [[0, 0], [0, 1]]).bind fun r8 =>
  (f_gamehallkeep2_fine fuel [r1.2.2, r2.2, r4.2.2, r6.2, r8.2.2]).bind fun r9 =>
  if r9 = true then
    (f_slices_Equal_Rat fuel r1.1 [(⟨#[48]⟩ : ByteArray), (⟨#[50]⟩ : ByteArray)]).bind fun r10 =>
    if r10 = true then
      (f_slices_Equal_Rat fuel r1.2.1 [(⟨#[45, 49]⟩ : ByteArray), (⟨#[49]⟩ : ByteArray)]).bind fun r11 =>
      if r11 = true then
        (f_slices_Equal_Rat fuel r2.1 [(⟨#[51, 47, 52]⟩ : ByteArray), (⟨#[48]⟩ : ByteArray), (⟨#[49, 47, 52]⟩ : ByteArray)]).bind fun r12 =>
        if r12 = true then
          (f_slices_Equal_Rat fuel r4.1 [(⟨#[49]⟩ : ByteArray), (⟨#[48]⟩ : ByteArray)]).bind fun r13 =>
          if r13 = true then
            (f_slices_Equal_Rat fuel r4.2.1 [(⟨#[49, 47, 50]⟩ : ByteArray), (⟨#[49, 47, 50]⟩ : ByteArray)]).bind fun r14 =>
            if r14 = true then
              (f_slices_Equal_2int fuel r6.1 [[0, 0], [0, 1]]).bind fun r15 =>
              if r15 = true then
                if ((r8.1.toList == (⟨#[45, 49]⟩ : ByteArray).toList)) = true then
                  if ((r8.2.1.toList == (⟨#[48]⟩ : ByteArray).toList)) = true then
                    (f_gamehallkeep2_pennies fuel).bind fun r16 =>
                    (f_regret_Check fuel r16 [[2, 0]]).bind fun r17 =>
                    some (r17 == 4)
                  else
                    some false
                else
                  some false
              else
                some false
            else
              some false
          else
            some false
        else
          some false
      else
        some false
    else
      some false
  else
    some false
theorem f_gamehallkeep2_regretFact_run (k : Nat) (x : denL []) : runFn E_gamehallkeep2_regretFact LL_gamehallkeep2_regretFact k 6 Tryd.f6 [] [.imm .bool] x = f_gamehallkeep2_regretFact k := by kernel_rfl
noncomputable def S_gamehallkeep2_regretFact : Vm.Spec := { ps := [], rs := [.imm .bool], f := fun x => f_gamehallkeep2_regretFact fuel }
theorem f_gamehallkeep2_regretFact_holds : Vm.Spec.holds Tryd.prog 6 S_gamehallkeep2_regretFact := by
  have hB : BodiesOk Tryd.prog E_gamehallkeep2_regretFact := bodies_none rfl
  have hBS : BodiesStepped E_gamehallkeep2_regretFact LL_gamehallkeep2_regretFact := bodies_stepped_none rfl
  have hS : SpecsOk Tryd.prog E_gamehallkeep2_regretFact := specs_ok (by exact ⟨⟨by kernel_rfl, f_regret_Play_holds⟩, ⟨by kernel_rfl, f_slices_Equal_2int_holds⟩, ⟨by kernel_rfl, f_regret_Check_holds⟩, ⟨by kernel_rfl, f_regret_Match_holds⟩, ⟨by kernel_rfl, f_regret_Regrets_holds⟩, ⟨by kernel_rfl, f_regret_Bounds_holds⟩, ⟨by kernel_rfl, f_gamehallkeep2_fine_holds⟩, ⟨by kernel_rfl, f_regret_Average_holds⟩, ⟨by kernel_rfl, f_gamehallkeep2_pennies_holds⟩, ⟨by kernel_rfl, f_slices_Equal_Rat_holds⟩, trivial⟩)
  have hE : EOk Tryd.prog E_gamehallkeep2_regretFact := eok_te ok
  exact fn_sound (L := LL_gamehallkeep2_regretFact) hE hS hB (draws_ok hE hS (by kernel_rfl)) hBS (fn := Tryd.f6) (by kernel_rfl) (c := bodyOf Tryd.f6) (by kernel_rfl) (stepped_none rfl) fun x r h => ⟨fuel, (f_gamehallkeep2_regretFact_run fuel x).trans h⟩

/-! gamehall/gamehallkeep2.small -/
noncomputable def E_gamehallkeep2_small : Env := { te := te, spec := [], body := [(13, Tryd.f13), (28, Tryd.f28), (29, Tryd.f29), (30, Tryd.f30), (41, Tryd.f41), (56, Tryd.f56)] }
def l_slices_IndexFunc_Rat__slices_ContainsFunc_Rat__gamehallkeep2_small_1__slices_IndexFunc_Vec__slices_ContainsFunc_Vec__gamehallkeep2_small_2H : Ann := { slots := [(0, .one (.val (.slice .str))), (1, .one (.fix (.func 30))), (7, .one (.val (.int .i64))), (8, .one (.val (.int .i64)))], objs := [] }
def l_slices_IndexFunc_Rat__slices_ContainsFunc_Rat__gamehallkeep2_small_1__slices_IndexFunc_Vec__slices_ContainsFunc_Vec__gamehallkeep2_small_2X : Ann := { slots := [], objs := [] }
def l_slices_IndexFunc_Rat__slices_ContainsFunc_Rat__gamehallkeep2_small_1__slices_IndexFunc_Vec__slices_ContainsFunc_Vec__gamehallkeep2_small_2R : Ann := { slots := [(4, .one (.val (.int .i64)))], objs := [] }
def l_slices_IndexFunc_Vec__slices_ContainsFunc_Vec__gamehallkeep2_small_2H : Ann := { slots := [(0, .one (.val (.slice (.slice .str)))), (1, .one (.fix (.clos 76))), (7, .one (.val (.int .i64))), (8, .one (.val (.int .i64)))], objs := [(76, .clos 29 [.fix (.pbox 8 0)]), (8, .box [.val (.int .i64)])] }
def l_slices_IndexFunc_Vec__slices_ContainsFunc_Vec__gamehallkeep2_small_2X : Ann := { slots := [], objs := [(76, .clos 29 [.fix (.pbox 8 0)]), (8, .box [.val (.int .i64)])] }
def l_slices_IndexFunc_Vec__slices_ContainsFunc_Vec__gamehallkeep2_small_2R : Ann := { slots := [(4, .one (.val (.int .i64)))], objs := [(76, .clos 29 [.fix (.pbox 8 0)]), (8, .box [.val (.int .i64)])] }
def l_gamehallkeep2_small_2H : Ann := { slots := [(2, .one (.fix (.pbox 8 0))), (7, .one (.val (.slice (.slice (.slice .str))))), (8, .one (.val (.int .i64))), (9, .one (.val (.int .i64)))], objs := [(8, .box [.val (.int .i64)])] }
def l_gamehallkeep2_small_2X : Ann := { slots := [], objs := [(8, .box [.val (.int .i64)])] }
def l_gamehallkeep2_small_2R : Ann := { slots := [(4, .one (.val .bool))], objs := [(8, .box [.val (.int .i64)])] }
def l_slices_IndexFunc_Rat__slices_ContainsFunc_Rat__gamehallkeep2_small_1__slices_IndexFunc_Vec__slices_ContainsFunc_Vec__gamehallkeep2_small_2 : Nat → List ByteArray → Int → Int → Option (LR l_slices_IndexFunc_Rat__slices_ContainsFunc_Rat__gamehallkeep2_small_1__slices_IndexFunc_Vec__slices_ContainsFunc_Vec__gamehallkeep2_small_2X l_slices_IndexFunc_Rat__slices_ContainsFunc_Rat__gamehallkeep2_small_1__slices_IndexFunc_Vec__slices_ContainsFunc_Vec__gamehallkeep2_small_2R)
  | 0, _, _, _ => none
  | m + 1, s0, s7, s8 =>
    if decide (s8 < s7) = true then
      if (0 : Int) ≤ s8 then
        if s8 < s0.length then
          if decide (((s0.getD s8.toNat ByteArray.empty).size : Int) > 12) = true then
            some (.ret (s8, ()))
          else
            l_slices_IndexFunc_Rat__slices_ContainsFunc_Rat__gamehallkeep2_small_1__slices_IndexFunc_Vec__slices_ContainsFunc_Vec__gamehallkeep2_small_2 m s0 s7 (IntKind.i64.wrap (s8 + 1))
        else none
      else none
    else
      some (.exit ())
def l_slices_IndexFunc_Rat__slices_ContainsFunc_Rat__gamehallkeep2_small_1__slices_IndexFunc_Vec__slices_ContainsFunc_Vec__gamehallkeep2_small_2L : LSpec := { h := l_slices_IndexFunc_Rat__slices_ContainsFunc_Rat__gamehallkeep2_small_1__slices_IndexFunc_Vec__slices_ContainsFunc_Vec__gamehallkeep2_small_2H, x := l_slices_IndexFunc_Rat__slices_ContainsFunc_Rat__gamehallkeep2_small_1__slices_IndexFunc_Vec__slices_ContainsFunc_Vec__gamehallkeep2_small_2X, r := l_slices_IndexFunc_Rat__slices_ContainsFunc_Rat__gamehallkeep2_small_1__slices_IndexFunc_Vec__slices_ContainsFunc_Vec__gamehallkeep2_small_2R, xid := 0, rt := true, pins := [], f := fun k d => l_slices_IndexFunc_Rat__slices_ContainsFunc_Rat__gamehallkeep2_small_1__slices_IndexFunc_Vec__slices_ContainsFunc_Vec__gamehallkeep2_small_2 k d.1 d.2.1 d.2.2.1 }
def l_slices_IndexFunc_Vec__slices_ContainsFunc_Vec__gamehallkeep2_small_2 : Nat → List (List ByteArray) → Int → Int → Int → Option (LR l_slices_IndexFunc_Vec__slices_ContainsFunc_Vec__gamehallkeep2_small_2X l_slices_IndexFunc_Vec__slices_ContainsFunc_Vec__gamehallkeep2_small_2R)
  | 0, _, _, _, _ => none
  | m + 1, s0, s7, s8, b8_0 =>
    if decide (s8 < s7) = true then
      if (0 : Int) ≤ s8 then
        if s8 < s0.length then
          if decide (((s0.getD s8.toNat []).length : Int) > b8_0) = false then
            match l_slices_IndexFunc_Rat__slices_ContainsFunc_Rat__gamehallkeep2_small_1__slices_IndexFunc_Vec__slices_ContainsFunc_Vec__gamehallkeep2_small_2 m (s0.getD s8.toNat []) ((s0.getD s8.toNat []).length : Int) 0 with
            | none => none
            | some (.exit d1) =>
              l_slices_IndexFunc_Vec__slices_ContainsFunc_Vec__gamehallkeep2_small_2 m s0 s7 (IntKind.i64.wrap (s8 + 1)) b8_0
            | some (.ret d1) =>
              if decide (d1.1 ≥ 0) = true then
                some (.ret (s8, b8_0, ()))
              else
                l_slices_IndexFunc_Vec__slices_ContainsFunc_Vec__gamehallkeep2_small_2 m s0 s7 (IntKind.i64.wrap (s8 + 1)) b8_0
          else
            some (.ret (s8, b8_0, ()))
        else none
      else none
    else
      some (.exit (b8_0, ()))
def l_slices_IndexFunc_Vec__slices_ContainsFunc_Vec__gamehallkeep2_small_2L : LSpec := { h := l_slices_IndexFunc_Vec__slices_ContainsFunc_Vec__gamehallkeep2_small_2H, x := l_slices_IndexFunc_Vec__slices_ContainsFunc_Vec__gamehallkeep2_small_2X, r := l_slices_IndexFunc_Vec__slices_ContainsFunc_Vec__gamehallkeep2_small_2R, xid := 0, rt := true, pins := [76, 8], f := fun k d => l_slices_IndexFunc_Vec__slices_ContainsFunc_Vec__gamehallkeep2_small_2 k d.1 d.2.1 d.2.2.1 d.2.2.2.1 }
def l_gamehallkeep2_small_2 : Nat → List (List (List ByteArray)) → Int → Int → Int → Option (LR l_gamehallkeep2_small_2X l_gamehallkeep2_small_2R)
  | 0, _, _, _, _ => none
  | m + 1, s7, s8, s9, b8_0 =>
    if decide (s9 < s8) = true then
      if (0 : Int) ≤ s9 then
        if s9 < s7.length then
          if decide (((s7.getD s9.toNat []).length : Int) > b8_0) = false then
            match l_slices_IndexFunc_Vec__slices_ContainsFunc_Vec__gamehallkeep2_small_2 m (s7.getD s9.toNat []) ((s7.getD s9.toNat []).length : Int) 0 b8_0 with
            | none => none
            | some (.exit d1) =>
              l_gamehallkeep2_small_2 m s7 s8 (IntKind.i64.wrap (s9 + 1)) d1.1
            | some (.ret d1) =>
              if decide (d1.1 ≥ 0) = true then
                some (.ret (false, d1.2.1, ()))
              else
                l_gamehallkeep2_small_2 m s7 s8 (IntKind.i64.wrap (s9 + 1)) d1.2.1
          else
            some (.ret (false, b8_0, ()))
        else none
      else none
    else
      some (.exit (b8_0, ()))
def l_gamehallkeep2_small_2L : LSpec := { h := l_gamehallkeep2_small_2H, x := l_gamehallkeep2_small_2X, r := l_gamehallkeep2_small_2R, xid := 0, rt := true, pins := [8], f := fun k d => l_gamehallkeep2_small_2 k d.1 d.2.1 d.2.2.1 d.2.2.2.1 }
def LL_gamehallkeep2_small : Loops := [([41, 13, 29, 56, 28, 7], [(2, l_slices_IndexFunc_Rat__slices_ContainsFunc_Rat__gamehallkeep2_small_1__slices_IndexFunc_Vec__slices_ContainsFunc_Vec__gamehallkeep2_small_2L)]), ([56, 28, 7], [(2, l_slices_IndexFunc_Vec__slices_ContainsFunc_Vec__gamehallkeep2_small_2L)]), ([7], [(2, l_gamehallkeep2_small_2L)])]
def f_gamehallkeep2_small (k : Nat) (a0 : Int) (a1 : List (List (List ByteArray))) : Option (Bool) :=
  match l_gamehallkeep2_small_2 k a1 (a1.length : Int) 0 a0 with
  | none => none
  | some (.exit d1) =>
    some true
  | some (.ret d1) =>
    some d1.1
theorem l_slices_IndexFunc_Rat__slices_ContainsFunc_Rat__gamehallkeep2_small_1__slices_IndexFunc_Vec__slices_ContainsFunc_Vec__gamehallkeep2_small_2_step (m : Nat) (d : dens l_slices_IndexFunc_Rat__slices_ContainsFunc_Rat__gamehallkeep2_small_1__slices_IndexFunc_Vec__slices_ContainsFunc_Vec__gamehallkeep2_small_2H.tys) : l_slices_IndexFunc_Rat__slices_ContainsFunc_Rat__gamehallkeep2_small_1__slices_IndexFunc_Vec__slices_ContainsFunc_Vec__gamehallkeep2_small_2L.f (m + 1) d = round E_gamehallkeep2_small LL_gamehallkeep2_small m [41, 13, 29, 56, 28, 7] 19 (loopN (bodyOf Tryd.f41) 0) l_slices_IndexFunc_Rat__slices_ContainsFunc_Rat__gamehallkeep2_small_1__slices_IndexFunc_Vec__slices_ContainsFunc_Vec__gamehallkeep2_small_2L (l_slices_IndexFunc_Rat__slices_ContainsFunc_Rat__gamehallkeep2_small_1__slices_IndexFunc_Vec__slices_ContainsFunc_Vec__gamehallkeep2_small_2L.f m) d := by kernel_rfl
theorem l_slices_IndexFunc_Vec__slices_ContainsFunc_Vec__gamehallkeep2_small_2_step (m : Nat) (d : dens l_slices_IndexFunc_Vec__slices_ContainsFunc_Vec__gamehallkeep2_small_2H.tys) : l_slices_IndexFunc_Vec__slices_ContainsFunc_Vec__gamehallkeep2_small_2L.f (m + 1) d = round E_gamehallkeep2_small LL_gamehallkeep2_small m [56, 28, 7] 19 (loopN (bodyOf Tryd.f56) 0) l_slices_IndexFunc_Vec__slices_ContainsFunc_Vec__gamehallkeep2_small_2L (l_slices_IndexFunc_Vec__slices_ContainsFunc_Vec__gamehallkeep2_small_2L.f m) d := by kernel_rfl
theorem l_gamehallkeep2_small_2_step (m : Nat) (d : dens l_gamehallkeep2_small_2H.tys) : l_gamehallkeep2_small_2L.f (m + 1) d = round E_gamehallkeep2_small LL_gamehallkeep2_small m [7] 23 (loopN (bodyOf Tryd.f7) 0) l_gamehallkeep2_small_2L (l_gamehallkeep2_small_2L.f m) d := by kernel_rfl
theorem f_gamehallkeep2_small_run (k : Nat) (x : denL [.int .i64, .slice (.slice (.slice .str))]) : runFn E_gamehallkeep2_small LL_gamehallkeep2_small k 7 Tryd.f7 [.int .i64, .slice (.slice (.slice .str))] [.imm .bool] x = f_gamehallkeep2_small k x.1 x.2 := by kernel_rfl
noncomputable def S_gamehallkeep2_small : Vm.Spec := { ps := [.int .i64, .slice (.slice (.slice .str))], rs := [.imm .bool], f := fun x => f_gamehallkeep2_small fuel x.1 x.2 }
theorem f_gamehallkeep2_small_holds : Vm.Spec.holds Tryd.prog 7 S_gamehallkeep2_small := by
  have hB : BodiesOk Tryd.prog E_gamehallkeep2_small := bodies_ok (by exact ⟨by kernel_rfl, by kernel_rfl, by kernel_rfl, by kernel_rfl, by kernel_rfl, by kernel_rfl, by kernel_rfl, by kernel_rfl, by kernel_rfl, by kernel_rfl, by kernel_rfl, by kernel_rfl, trivial⟩)
  have hBS : BodiesStepped E_gamehallkeep2_small LL_gamehallkeep2_small := by
    refine bodies_stepped ?_
    exact ⟨(fun _ => stepped_noloop (by kernel_rfl)), (fun _ => stepped_noloop (by kernel_rfl)), (fun _ => stepped_noloop (by kernel_rfl)), (fun _ => stepped_noloop (by kernel_rfl)), (stepped_paths [[13, 29, 56, 28, 7]] (by exact ⟨stepped_of (ls := [(2, l_slices_IndexFunc_Rat__slices_ContainsFunc_Rat__gamehallkeep2_small_1__slices_IndexFunc_Vec__slices_ContainsFunc_Vec__gamehallkeep2_small_2L)]) rfl rfl ⟨by kernel_rfl, fun _ => rfl, l_slices_IndexFunc_Rat__slices_ContainsFunc_Rat__gamehallkeep2_small_1__slices_IndexFunc_Vec__slices_ContainsFunc_Vec__gamehallkeep2_small_2_step, stepsI_end (by kernel_rfl)⟩,  trivial⟩) rfl), (stepped_paths [[28, 7]] (by exact ⟨stepped_of (ls := [(2, l_slices_IndexFunc_Vec__slices_ContainsFunc_Vec__gamehallkeep2_small_2L)]) rfl rfl ⟨by kernel_rfl, fun _ => rfl, l_slices_IndexFunc_Vec__slices_ContainsFunc_Vec__gamehallkeep2_small_2_step, stepsI_end (by kernel_rfl)⟩,  trivial⟩) rfl),  trivial⟩
  have hS : SpecsOk Tryd.prog E_gamehallkeep2_small := specs_ok (by exact trivial)
  have hE : EOk Tryd.prog E_gamehallkeep2_small := eok_te ok
  exact fn_sound (L := LL_gamehallkeep2_small) hE hS hB (draws_ok hE hS (by kernel_rfl)) hBS (fn := Tryd.f7) (by kernel_rfl) (c := bodyOf Tryd.f7) (by kernel_rfl) (stepped_of (ls := [(2, l_gamehallkeep2_small_2L)]) rfl rfl ⟨by kernel_rfl, fun _ => rfl, l_gamehallkeep2_small_2_step, stepsI_end (by kernel_rfl)⟩) fun x r h => ⟨fuel, (f_gamehallkeep2_small_run fuel x).trans h⟩

/-! gamehall/gamehallkeep2.pick -/
noncomputable def E_gamehallkeep2_pick : Env := { te := te, spec := [], body := [] }
def LL_gamehallkeep2_pick : Loops := []
def f_gamehallkeep2_pick (k : Nat) (a0 : Int) (a1 : Int) : Option (Int) :=
  if IntKind.u64.wrap (a1) = 0 then
    none
  else
    some (IntKind.i64.wrap ((IntKind.u64.wrap (a0)).tmod (IntKind.u64.wrap (a1))))
theorem f_gamehallkeep2_pick_run (k : Nat) (x : denL [.int .i64, .int .i64]) : runFn E_gamehallkeep2_pick LL_gamehallkeep2_pick k 8 Tryd.f8 [.int .i64, .int .i64] [.imm (.int .i64)] x = f_gamehallkeep2_pick k x.1 x.2 := by kernel_rfl
noncomputable def S_gamehallkeep2_pick : Vm.Spec := { ps := [.int .i64, .int .i64], rs := [.imm (.int .i64)], f := fun x => f_gamehallkeep2_pick fuel x.1 x.2 }
theorem f_gamehallkeep2_pick_holds : Vm.Spec.holds Tryd.prog 8 S_gamehallkeep2_pick := by
  have hB : BodiesOk Tryd.prog E_gamehallkeep2_pick := bodies_none rfl
  have hBS : BodiesStepped E_gamehallkeep2_pick LL_gamehallkeep2_pick := bodies_stepped_none rfl
  have hS : SpecsOk Tryd.prog E_gamehallkeep2_pick := specs_ok (by exact trivial)
  have hE : EOk Tryd.prog E_gamehallkeep2_pick := eok_te ok
  exact fn_sound (L := LL_gamehallkeep2_pick) hE hS hB (draws_ok hE hS (by kernel_rfl)) hBS (fn := Tryd.f8) (by kernel_rfl) (c := bodyOf Tryd.f8) (by kernel_rfl) (stepped_none rfl) fun x r h => ⟨fuel, (f_gamehallkeep2_pick_run fuel x).trans h⟩

/-! gamehall/rat.Sum -/
noncomputable def E_rat_Sum : Env := { te := te, spec := [(34, S_rat_Q_Add), (43, S_rat_In), (47, S_rat_Told), (48, S_rat_CheckAll), (65, S_rat_Fits)], body := [] }
def l_rat_Sum_8H : Ann := { slots := [(5, .one (.fix (.pbox 20 0))), (16, .one (.val (.slice .str))), (17, .one (.val (.int .i64))), (18, .one (.val (.int .i64)))], objs := [(20, .box [.val .bool, .val (.slice (.int .u32)), .val (.slice (.int .u32))])] }
def l_rat_Sum_8X : Ann := { slots := [(5, .one (.fix (.pbox 20 0)))], objs := [(20, .box [.val .bool, .val (.slice (.int .u32)), .val (.slice (.int .u32))])] }
def l_rat_Sum_8R : Ann := { slots := [(2, .one (.val .str)), (3, .one (.val (.int .i64)))], objs := [(20, .box [.val .bool, .val (.slice (.int .u32)), .val (.slice (.int .u32))])] }
def l_rat_Sum_8 : Nat → List ByteArray → Int → Int → Bool → List Int → List Int → Option (LR l_rat_Sum_8X l_rat_Sum_8R)
  | 0, _, _, _, _, _, _ => none
  | m + 1, s16, s17, s18, b20_0, b20_1, b20_2 =>
    if decide (s18 < s17) = true then
      if (0 : Int) ≤ s18 then
        if s18 < s16.length then
          (f_rat_In fuel (s16.getD s18.toNat ByteArray.empty)).bind fun r1 =>
          (f_rat_Q_Add fuel (b20_0, (b20_1, b20_2)) r1).bind fun r2 =>
          (f_rat_Fits fuel r2).bind fun r3 =>
          if (r3 != 0) = true then
            some (.ret ((⟨#[]⟩ : ByteArray), 2, r2.1, r2.2.1, r2.2.2, ()))
          else
            l_rat_Sum_8 m s16 s17 (IntKind.i64.wrap (s18 + 1)) r2.1 r2.2.1 r2.2.2
        else none
      else none
    else
      some (.exit (b20_0, b20_1, b20_2, ()))
def l_rat_Sum_8L : LSpec := { h := l_rat_Sum_8H, x := l_rat_Sum_8X, r := l_rat_Sum_8R, xid := 0, rt := true, pins := [20], f := fun k d => l_rat_Sum_8 k d.1 d.2.1 d.2.2.1 d.2.2.2.1 d.2.2.2.2.1 d.2.2.2.2.2.1 }
def LL_rat_Sum : Loops := [([42], [(8, l_rat_Sum_8L)])]
def f_rat_Sum (k : Nat) (a0 : List ByteArray) : Option (ByteArray × Int) :=
  if decide ((a0.length : Int) > 256) = true then
    some ((⟨#[]⟩ : ByteArray), 2)
  else
    (f_rat_CheckAll fuel a0).bind fun r1 =>
    if (r1 != 0) = true then
      some ((⟨#[]⟩ : ByteArray), r1)
    else
      match l_rat_Sum_8 k a0 (a0.length : Int) 0 false [] [] with
      | none => none
      | some (.exit d2) =>
        (f_rat_Told fuel (d2.1, (d2.2.1, d2.2.2.1))).bind fun r3 =>
        some (r3.1, r3.2)
      | some (.ret d2) =>
        some (d2.1, d2.2.1)
theorem l_rat_Sum_8_step (m : Nat) (d : dens l_rat_Sum_8H.tys) : l_rat_Sum_8L.f (m + 1) d = round E_rat_Sum LL_rat_Sum m [42] 34 (loopN (bodyOf Tryd.f42) 0) l_rat_Sum_8L (l_rat_Sum_8L.f m) d := by kernel_rfl
theorem f_rat_Sum_run (k : Nat) (x : denL [.slice .str]) : runFn E_rat_Sum LL_rat_Sum k 42 Tryd.f42 [.slice .str] [.imm .str, .imm (.int .i64)] x = f_rat_Sum k x := by kernel_rfl
noncomputable def S_rat_Sum : Vm.Spec := { ps := [.slice .str], rs := [.imm .str, .imm (.int .i64)], f := fun x => f_rat_Sum fuel x }
theorem f_rat_Sum_holds : Vm.Spec.holds Tryd.prog 42 S_rat_Sum := by
  have hB : BodiesOk Tryd.prog E_rat_Sum := bodies_none rfl
  have hBS : BodiesStepped E_rat_Sum LL_rat_Sum := bodies_stepped_none rfl
  have hS : SpecsOk Tryd.prog E_rat_Sum := specs_ok (by exact ⟨⟨by kernel_rfl, f_rat_Q_Add_holds⟩, ⟨by kernel_rfl, f_rat_In_holds⟩, ⟨by kernel_rfl, f_rat_Told_holds⟩, ⟨by kernel_rfl, f_rat_CheckAll_holds⟩, ⟨by kernel_rfl, f_rat_Fits_holds⟩, trivial⟩)
  have hE : EOk Tryd.prog E_rat_Sum := eok_te ok
  exact fn_sound (L := LL_rat_Sum) hE hS hB (draws_ok hE hS (by kernel_rfl)) hBS (fn := Tryd.f42) (by kernel_rfl) (c := bodyOf Tryd.f42) (by kernel_rfl) (stepped_of (ls := [(8, l_rat_Sum_8L)]) rfl rfl ⟨by kernel_rfl, fun _ => rfl, l_rat_Sum_8_step, stepsI_end (by kernel_rfl)⟩) fun x r h => ⟨fuel, (f_rat_Sum_run fuel x).trans h⟩

/-! gamehall/rat.Odds -/
noncomputable def E_rat_Odds : Env := { te := te, spec := [(37, S_rat_Q_Sign), (42, S_rat_Sum), (43, S_rat_In)], body := [] }
def l_rat_Odds_5H : Ann := { slots := [(15, .one (.val (.slice .str))), (16, .one (.val (.int .i64))), (17, .one (.val (.int .i64)))], objs := [] }
def l_rat_Odds_5X : Ann := { slots := [], objs := [] }
def l_rat_Odds_5R : Ann := { slots := [(2, .one (.val (.int .i64)))], objs := [] }
def l_rat_Odds_5 : Nat → List ByteArray → Int → Int → Option (LR l_rat_Odds_5X l_rat_Odds_5R)
  | 0, _, _, _ => none
  | m + 1, s15, s16, s17 =>
    if decide (s17 < s16) = true then
      if (0 : Int) ≤ s17 then
        if s17 < s15.length then
          (f_rat_In fuel (s15.getD s17.toNat ByteArray.empty)).bind fun r1 =>
          (f_rat_Q_Sign fuel r1).bind fun r2 =>
          if decide (r2 < 0) = true then
            some (.ret (4, ()))
          else
            l_rat_Odds_5 m s15 s16 (IntKind.i64.wrap (s17 + 1))
        else none
      else none
    else
      some (.exit ())
def l_rat_Odds_5L : LSpec := { h := l_rat_Odds_5H, x := l_rat_Odds_5X, r := l_rat_Odds_5R, xid := 0, rt := true, pins := [], f := fun k d => l_rat_Odds_5 k d.1 d.2.1 d.2.2.1 }
def LL_rat_Odds : Loops := [([15], [(5, l_rat_Odds_5L)])]
def f_rat_Odds (k : Nat) (a0 : List ByteArray) : Option (Int) :=
  (f_rat_Sum fuel a0).bind fun r1 =>
  if (r1.2 != 0) = true then
    some r1.2
  else
    match l_rat_Odds_5 k a0 (a0.length : Int) 0 with
    | none => none
    | some (.exit d2) =>
      if (!(r1.1.toList == (⟨#[49]⟩ : ByteArray).toList)) = true then
        some 3
      else
        some 0
    | some (.ret d2) =>
      some d2.1
theorem l_rat_Odds_5_step (m : Nat) (d : dens l_rat_Odds_5H.tys) : l_rat_Odds_5L.f (m + 1) d = round E_rat_Odds LL_rat_Odds m [15] 28 (loopN (bodyOf Tryd.f15) 0) l_rat_Odds_5L (l_rat_Odds_5L.f m) d := by kernel_rfl
theorem f_rat_Odds_run (k : Nat) (x : denL [.slice .str]) : runFn E_rat_Odds LL_rat_Odds k 15 Tryd.f15 [.slice .str] [.imm (.int .i64)] x = f_rat_Odds k x := by kernel_rfl
noncomputable def S_rat_Odds : Vm.Spec := { ps := [.slice .str], rs := [.imm (.int .i64)], f := fun x => f_rat_Odds fuel x }
theorem f_rat_Odds_holds : Vm.Spec.holds Tryd.prog 15 S_rat_Odds := by
  have hB : BodiesOk Tryd.prog E_rat_Odds := bodies_none rfl
  have hBS : BodiesStepped E_rat_Odds LL_rat_Odds := bodies_stepped_none rfl
  have hS : SpecsOk Tryd.prog E_rat_Odds := specs_ok (by exact ⟨⟨by kernel_rfl, f_rat_Q_Sign_holds⟩, ⟨by kernel_rfl, f_rat_Sum_holds⟩, ⟨by kernel_rfl, f_rat_In_holds⟩, trivial⟩)
  have hE : EOk Tryd.prog E_rat_Odds := eok_te ok
  exact fn_sound (L := LL_rat_Odds) hE hS hB (draws_ok hE hS (by kernel_rfl)) hBS (fn := Tryd.f15) (by kernel_rfl) (c := bodyOf Tryd.f15) (by kernel_rfl) (stepped_of (ls := [(5, l_rat_Odds_5L)]) rfl rfl ⟨by kernel_rfl, fun _ => rfl, l_rat_Odds_5_step, stepsI_end (by kernel_rfl)⟩) fun x r h => ⟨fuel, (f_rat_Odds_run fuel x).trans h⟩

/-! gamehall/rat.Sign -/
noncomputable def E_rat_Sign : Env := { te := te, spec := [(37, S_rat_Q_Sign), (43, S_rat_In), (44, S_rat_Check)], body := [] }
def LL_rat_Sign : Loops := []
def f_rat_Sign (k : Nat) (a0 : ByteArray) : Option (Int × Int) :=
  (f_rat_Check fuel a0).bind fun r1 =>
  if (r1 != 0) = true then
    some (0, r1)
  else
    (f_rat_In fuel a0).bind fun r2 =>
    (f_rat_Q_Sign fuel r2).bind fun r3 =>
    some (r3, 0)
theorem f_rat_Sign_run (k : Nat) (x : denL [.str]) : runFn E_rat_Sign LL_rat_Sign k 16 Tryd.f16 [.str] [.imm (.int .i64), .imm (.int .i64)] x = f_rat_Sign k x := by kernel_rfl
noncomputable def S_rat_Sign : Vm.Spec := { ps := [.str], rs := [.imm (.int .i64), .imm (.int .i64)], f := fun x => f_rat_Sign fuel x }
theorem f_rat_Sign_holds : Vm.Spec.holds Tryd.prog 16 S_rat_Sign := by
  have hB : BodiesOk Tryd.prog E_rat_Sign := bodies_none rfl
  have hBS : BodiesStepped E_rat_Sign LL_rat_Sign := bodies_stepped_none rfl
  have hS : SpecsOk Tryd.prog E_rat_Sign := specs_ok (by exact ⟨⟨by kernel_rfl, f_rat_Q_Sign_holds⟩, ⟨by kernel_rfl, f_rat_In_holds⟩, ⟨by kernel_rfl, f_rat_Check_holds⟩, trivial⟩)
  have hE : EOk Tryd.prog E_rat_Sign := eok_te ok
  exact fn_sound (L := LL_rat_Sign) hE hS hB (draws_ok hE hS (by kernel_rfl)) hBS (fn := Tryd.f16) (by kernel_rfl) (c := bodyOf Tryd.f16) (by kernel_rfl) (stepped_none rfl) fun x r h => ⟨fuel, (f_rat_Sign_run fuel x).trans h⟩

/-! gamehall/rat.Best -/
noncomputable def E_rat_Best : Env := { te := te, spec := [(33, S_rat_Q_Cmp), (43, S_rat_In), (48, S_rat_CheckAll)], body := [] }
def l_rat_Best_10H : Ann := { slots := [(0, .one (.val (.slice .str))), (5, .one (.val (.int .i64))), (19, .one (.val (.slice .str))), (20, .one (.val (.int .i64))), (21, .one (.val (.int .i64)))], objs := [] }
def l_rat_Best_10X : Ann := { slots := [(5, .one (.val (.int .i64)))], objs := [] }
def l_rat_Best_10R : Ann := { slots := [], objs := [] }
def l_rat_Best_10 : Nat → List ByteArray → Int → List ByteArray → Int → Int → Option (LR l_rat_Best_10X l_rat_Best_10R)
  | 0, _, _, _, _, _ => none
  | m + 1, s0, s5, s19, s20, s21 =>
    if decide (s21 < s20) = true then
      if (0 : Int) ≤ s21 then
        if s21 < s19.length then
          if (0 : Int) ≤ s5 then
            if s5 < s0.length then
              (f_rat_In fuel (s19.getD s21.toNat ByteArray.empty)).bind fun r1 =>
              (f_rat_In fuel (s0.getD s5.toNat ByteArray.empty)).bind fun r2 =>
              (f_rat_Q_Cmp fuel r1 r2).bind fun r3 =>
              if decide (r3 > 0) = true then
                l_rat_Best_10 m s0 s21 s19 s20 (IntKind.i64.wrap (s21 + 1))
              else
                l_rat_Best_10 m s0 s5 s19 s20 (IntKind.i64.wrap (s21 + 1))
            else none
          else none
        else none
      else none
    else
      some (.exit (s5, ()))
def l_rat_Best_10L : LSpec := { h := l_rat_Best_10H, x := l_rat_Best_10X, r := l_rat_Best_10R, xid := 0, rt := false, pins := [], f := fun k d => l_rat_Best_10 k d.1 d.2.1 d.2.2.1 d.2.2.2.1 d.2.2.2.2.1 }
def LL_rat_Best : Loops := [([19], [(10, l_rat_Best_10L)])]
def f_rat_Best (k : Nat) (a0 : List ByteArray) : Option (Int × Int) :=
  if decide ((a0.length : Int) > 256) = true then
    some (0, 2)
  else
    if ((a0.length : Int) == 0) = true then
      some (0, 8)
    else
      (f_rat_CheckAll fuel a0).bind fun r1 =>
      if (r1 != 0) = true then
        some (0, r1)
      else
        match l_rat_Best_10 k a0 0 a0 (a0.length : Int) 0 with
        | none => none
        | some (.exit d2) =>
          some (d2.1, 0)
        | some (.ret d2) =>
          none
theorem l_rat_Best_10_step (m : Nat) (d : dens l_rat_Best_10H.tys) : l_rat_Best_10L.f (m + 1) d = round E_rat_Best LL_rat_Best m [19] 38 (loopN (bodyOf Tryd.f19) 0) l_rat_Best_10L (l_rat_Best_10L.f m) d := by kernel_rfl
theorem f_rat_Best_run (k : Nat) (x : denL [.slice .str]) : runFn E_rat_Best LL_rat_Best k 19 Tryd.f19 [.slice .str] [.imm (.int .i64), .imm (.int .i64)] x = f_rat_Best k x := by kernel_rfl
noncomputable def S_rat_Best : Vm.Spec := { ps := [.slice .str], rs := [.imm (.int .i64), .imm (.int .i64)], f := fun x => f_rat_Best fuel x }
theorem f_rat_Best_holds : Vm.Spec.holds Tryd.prog 19 S_rat_Best := by
  have hB : BodiesOk Tryd.prog E_rat_Best := bodies_none rfl
  have hBS : BodiesStepped E_rat_Best LL_rat_Best := bodies_stepped_none rfl
  have hS : SpecsOk Tryd.prog E_rat_Best := specs_ok (by exact ⟨⟨by kernel_rfl, f_rat_Q_Cmp_holds⟩, ⟨by kernel_rfl, f_rat_In_holds⟩, ⟨by kernel_rfl, f_rat_CheckAll_holds⟩, trivial⟩)
  have hE : EOk Tryd.prog E_rat_Best := eok_te ok
  exact fn_sound (L := LL_rat_Best) hE hS hB (draws_ok hE hS (by kernel_rfl)) hBS (fn := Tryd.f19) (by kernel_rfl) (c := bodyOf Tryd.f19) (by kernel_rfl) (stepped_of (ls := [(10, l_rat_Best_10L)]) rfl rfl ⟨by kernel_rfl, fun _ => rfl, l_rat_Best_10_step, stepsI_end (by kernel_rfl)⟩) fun x r h => ⟨fuel, (f_rat_Best_run fuel x).trans h⟩

/-! gamehall/rat.Add -/
noncomputable def E_rat_Add : Env := { te := te, spec := [(34, S_rat_Q_Add), (43, S_rat_In), (47, S_rat_Told), (48, S_rat_CheckAll)], body := [(51, Tryd.f51)] }
def LL_rat_Add : Loops := []
def f_rat_Add (k : Nat) (a0 : ByteArray) (a1 : ByteArray) : Option (ByteArray × Int) :=
  (f_rat_CheckAll fuel [a0, a1]).bind fun r1 =>
  if (r1 != 0) = true then
    some ((⟨#[]⟩ : ByteArray), r1)
  else
    (f_rat_In fuel a0).bind fun r2 =>
    (f_rat_In fuel a1).bind fun r3 =>
    (f_rat_Q_Add fuel r2 r3).bind fun r4 =>
    (f_rat_Told fuel r4).bind fun r5 =>
    some (r5.1, r5.2)
theorem f_rat_Add_run (k : Nat) (x : denL [.str, .str]) : runFn E_rat_Add LL_rat_Add k 21 Tryd.f21 [.str, .str] [.imm .str, .imm (.int .i64)] x = f_rat_Add k x.1 x.2 := by kernel_rfl
noncomputable def S_rat_Add : Vm.Spec := { ps := [.str, .str], rs := [.imm .str, .imm (.int .i64)], f := fun x => f_rat_Add fuel x.1 x.2 }
theorem f_rat_Add_holds : Vm.Spec.holds Tryd.prog 21 S_rat_Add := by
  have hB : BodiesOk Tryd.prog E_rat_Add := bodies_ok (by exact ⟨by kernel_rfl, by kernel_rfl, trivial⟩)
  have hBS : BodiesStepped E_rat_Add LL_rat_Add := by
    refine bodies_stepped ?_
    exact ⟨(fun _ => stepped_noloop (by kernel_rfl)),  trivial⟩
  have hS : SpecsOk Tryd.prog E_rat_Add := specs_ok (by exact ⟨⟨by kernel_rfl, f_rat_Q_Add_holds⟩, ⟨by kernel_rfl, f_rat_In_holds⟩, ⟨by kernel_rfl, f_rat_Told_holds⟩, ⟨by kernel_rfl, f_rat_CheckAll_holds⟩, trivial⟩)
  have hE : EOk Tryd.prog E_rat_Add := eok_te ok
  exact fn_sound (L := LL_rat_Add) hE hS hB (draws_ok hE hS (by kernel_rfl)) hBS (fn := Tryd.f21) (by kernel_rfl) (c := bodyOf Tryd.f21) (by kernel_rfl) (stepped_none rfl) fun x r h => ⟨fuel, (f_rat_Add_run fuel x).trans h⟩

/-! gamehall/rat.size -/
noncomputable def E_rat_size : Env := { te := te, spec := [(61, S_nat_N_Add), (64, S_nat_Of)], body := [] }
def LL_rat_size : Loops := []
def f_rat_size (k : Nat) (a0 : Int) : Option (List Int) :=
  if decide (a0 ≥ 0) = true then
    (f_nat_Of fuel a0).bind fun r1 =>
    some r1
  else
    (f_nat_Of fuel (IntKind.i64.wrap (0 - (IntKind.i64.wrap (a0 + 1))))).bind fun r2 =>
    (f_nat_Of fuel 1).bind fun r3 =>
    (f_nat_N_Add fuel r2 r3).bind fun r4 =>
    some r4
theorem f_rat_size_run (k : Nat) (x : denL [.int .i64]) : runFn E_rat_size LL_rat_size k 53 Tryd.f53 [.int .i64] [.fresh (.int .u32)] x = f_rat_size k x := by kernel_rfl
noncomputable def S_rat_size : Vm.Spec := { ps := [.int .i64], rs := [.fresh (.int .u32)], f := fun x => f_rat_size fuel x }
theorem f_rat_size_holds : Vm.Spec.holds Tryd.prog 53 S_rat_size := by
  have hB : BodiesOk Tryd.prog E_rat_size := bodies_none rfl
  have hBS : BodiesStepped E_rat_size LL_rat_size := bodies_stepped_none rfl
  have hS : SpecsOk Tryd.prog E_rat_size := specs_ok (by exact ⟨⟨by kernel_rfl, f_nat_N_Add_holds⟩, ⟨by kernel_rfl, f_nat_Of_holds⟩, trivial⟩)
  have hE : EOk Tryd.prog E_rat_size := eok_te ok
  exact fn_sound (L := LL_rat_size) hE hS hB (draws_ok hE hS (by kernel_rfl)) hBS (fn := Tryd.f53) (by kernel_rfl) (c := bodyOf Tryd.f53) (by kernel_rfl) (stepped_none rfl) fun x r h => ⟨fuel, (f_rat_size_run fuel x).trans h⟩

/-! gamehall/rat.Of -/
noncomputable def E_rat_Of : Env := { te := te, spec := [(47, S_rat_Told), (52, S_rat_low), (53, S_rat_size)], body := [] }
def LL_rat_Of : Loops := []
def f_rat_Of (k : Nat) (a0 : Int) (a1 : Int) : Option (ByteArray × Int) :=
  if (a1 == 0) = true then
    some ((⟨#[]⟩ : ByteArray), 18)
  else
    (f_rat_size fuel a0).bind fun r1 =>
    (f_rat_size fuel a1).bind fun r2 =>
    (f_rat_low fuel (!(decide (a0 < 0) == decide (a1 < 0))) r1 r2).bind fun r3 =>
    (f_rat_Told fuel r3).bind fun r4 =>
    some (r4.1, r4.2)
theorem f_rat_Of_run (k : Nat) (x : denL [.int .i64, .int .i64]) : runFn E_rat_Of LL_rat_Of k 22 Tryd.f22 [.int .i64, .int .i64] [.imm .str, .imm (.int .i64)] x = f_rat_Of k x.1 x.2 := by kernel_rfl
noncomputable def S_rat_Of : Vm.Spec := { ps := [.int .i64, .int .i64], rs := [.imm .str, .imm (.int .i64)], f := fun x => f_rat_Of fuel x.1 x.2 }
theorem f_rat_Of_holds : Vm.Spec.holds Tryd.prog 22 S_rat_Of := by
  have hB : BodiesOk Tryd.prog E_rat_Of := bodies_none rfl
  have hBS : BodiesStepped E_rat_Of LL_rat_Of := bodies_stepped_none rfl
  have hS : SpecsOk Tryd.prog E_rat_Of := specs_ok (by exact ⟨⟨by kernel_rfl, f_rat_Told_holds⟩, ⟨by kernel_rfl, f_rat_low_holds⟩, ⟨by kernel_rfl, f_rat_size_holds⟩, trivial⟩)
  have hE : EOk Tryd.prog E_rat_Of := eok_te ok
  exact fn_sound (L := LL_rat_Of) hE hS hB (draws_ok hE hS (by kernel_rfl)) hBS (fn := Tryd.f22) (by kernel_rfl) (c := bodyOf Tryd.f22) (by kernel_rfl) (stepped_none rfl) fun x r h => ⟨fuel, (f_rat_Of_run fuel x).trans h⟩

/-! gamehall/rat.Div -/
noncomputable def E_rat_Div : Env := { te := te, spec := [(39, S_rat_Q_Quo), (43, S_rat_In), (47, S_rat_Told), (48, S_rat_CheckAll)], body := [(51, Tryd.f51)] }
def LL_rat_Div : Loops := []
def f_rat_Div (k : Nat) (a0 : ByteArray) (a1 : ByteArray) : Option (ByteArray × Int) :=
  (f_rat_CheckAll fuel [a0, a1]).bind fun r1 =>
  if (r1 != 0) = true then
    some ((⟨#[]⟩ : ByteArray), r1)
  else
    if ((a1.toList == (⟨#[48]⟩ : ByteArray).toList)) = true then
      some ((⟨#[]⟩ : ByteArray), 18)
    else
      (f_rat_CheckAll fuel [a0, a1]).bind fun r2 =>
      if (r2 != 0) = true then
        some ((⟨#[]⟩ : ByteArray), r2)
      else
        (f_rat_In fuel a0).bind fun r3 =>
        (f_rat_In fuel a1).bind fun r4 =>
        (f_rat_Q_Quo fuel r3 r4).bind fun r5 =>
        (f_rat_Told fuel r5).bind fun r6 =>
        some (r6.1, r6.2)
theorem f_rat_Div_run (k : Nat) (x : denL [.str, .str]) : runFn E_rat_Div LL_rat_Div k 23 Tryd.f23 [.str, .str] [.imm .str, .imm (.int .i64)] x = f_rat_Div k x.1 x.2 := by kernel_rfl
noncomputable def S_rat_Div : Vm.Spec := { ps := [.str, .str], rs := [.imm .str, .imm (.int .i64)], f := fun x => f_rat_Div fuel x.1 x.2 }
theorem f_rat_Div_holds : Vm.Spec.holds Tryd.prog 23 S_rat_Div := by
  have hB : BodiesOk Tryd.prog E_rat_Div := bodies_ok (by exact ⟨by kernel_rfl, by kernel_rfl, trivial⟩)
  have hBS : BodiesStepped E_rat_Div LL_rat_Div := by
    refine bodies_stepped ?_
    exact ⟨(fun _ => stepped_noloop (by kernel_rfl)),  trivial⟩
  have hS : SpecsOk Tryd.prog E_rat_Div := specs_ok (by exact ⟨⟨by kernel_rfl, f_rat_Q_Quo_holds⟩, ⟨by kernel_rfl, f_rat_In_holds⟩, ⟨by kernel_rfl, f_rat_Told_holds⟩, ⟨by kernel_rfl, f_rat_CheckAll_holds⟩, trivial⟩)
  have hE : EOk Tryd.prog E_rat_Div := eok_te ok
  exact fn_sound (L := LL_rat_Div) hE hS hB (draws_ok hE hS (by kernel_rfl)) hBS (fn := Tryd.f23) (by kernel_rfl) (c := bodyOf Tryd.f23) (by kernel_rfl) (stepped_none rfl) fun x r h => ⟨fuel, (f_rat_Div_run fuel x).trans h⟩

/-! gamehall/rat.Sub -/
noncomputable def E_rat_Sub : Env := { te := te, spec := [(43, S_rat_In), (46, S_rat_Q_Sub), (47, S_rat_Told), (48, S_rat_CheckAll)], body := [(51, Tryd.f51)] }
def LL_rat_Sub : Loops := []
def f_rat_Sub (k : Nat) (a0 : ByteArray) (a1 : ByteArray) : Option (ByteArray × Int) :=
  (f_rat_CheckAll fuel [a0, a1]).bind fun r1 =>
  if (r1 != 0) = true then
    some ((⟨#[]⟩ : ByteArray), r1)
  else
    (f_rat_In fuel a0).bind fun r2 =>
    (f_rat_In fuel a1).bind fun r3 =>
    (f_rat_Q_Sub fuel r2 r3).bind fun r4 =>
    (f_rat_Told fuel r4).bind fun r5 =>
    some (r5.1, r5.2)
theorem f_rat_Sub_run (k : Nat) (x : denL [.str, .str]) : runFn E_rat_Sub LL_rat_Sub k 24 Tryd.f24 [.str, .str] [.imm .str, .imm (.int .i64)] x = f_rat_Sub k x.1 x.2 := by kernel_rfl
noncomputable def S_rat_Sub : Vm.Spec := { ps := [.str, .str], rs := [.imm .str, .imm (.int .i64)], f := fun x => f_rat_Sub fuel x.1 x.2 }
theorem f_rat_Sub_holds : Vm.Spec.holds Tryd.prog 24 S_rat_Sub := by
  have hB : BodiesOk Tryd.prog E_rat_Sub := bodies_ok (by exact ⟨by kernel_rfl, by kernel_rfl, trivial⟩)
  have hBS : BodiesStepped E_rat_Sub LL_rat_Sub := by
    refine bodies_stepped ?_
    exact ⟨(fun _ => stepped_noloop (by kernel_rfl)),  trivial⟩
  have hS : SpecsOk Tryd.prog E_rat_Sub := specs_ok (by exact ⟨⟨by kernel_rfl, f_rat_In_holds⟩, ⟨by kernel_rfl, f_rat_Q_Sub_holds⟩, ⟨by kernel_rfl, f_rat_Told_holds⟩, ⟨by kernel_rfl, f_rat_CheckAll_holds⟩, trivial⟩)
  have hE : EOk Tryd.prog E_rat_Sub := eok_te ok
  exact fn_sound (L := LL_rat_Sub) hE hS hB (draws_ok hE hS (by kernel_rfl)) hBS (fn := Tryd.f24) (by kernel_rfl) (c := bodyOf Tryd.f24) (by kernel_rfl) (stepped_none rfl) fun x r h => ⟨fuel, (f_rat_Sub_run fuel x).trans h⟩

/-! gamehall/gamehallkeep2.RegretZero -/
noncomputable def E_gamehallkeep2_RegretZero : Env := { te := te, spec := [(6, S_gamehallkeep2_regretFact), (7, S_gamehallkeep2_small), (17, S_regret_Regrets), (18, S_regret_Bounds), (19, S_rat_Best), (20, S_gamehallkeep2_fine), (21, S_rat_Add), (22, S_rat_Of), (23, S_rat_Div), (24, S_rat_Sub)], body := [] }
def LL_gamehallkeep2_RegretZero : Loops := []
def f_gamehallkeep2_RegretZero (k : Nat) (a0 : List (List ByteArray)) (a1 : List (List Int)) : Option (Bool) :=
  (f_gamehallkeep2_regretFact fuel).bind fun r1 =>
  if (!r1) = true then
    some false
  else
    (f_gamehallkeep2_small fuel 4 [a0]).bind fun r2 =>
    if (!r2) = false then
      if decide ((a1.length : Int) > 40) = true then
        some true
      else
        (f_regret_Regrets fuel a0 a1).bind fun r3 =>
        (f_regret_Bounds fuel a0 a1).bind fun r4 =>
        if (r3.2.2 != 0) = false then
          if (r4.2.2 != 0) = true then
            if (r3.2.2 == 0) = false then
              some (IntKind.i64.wrap ((r3.1.length : Int) + (r3.2.1.length : Int)) == 0)
            else
              some true
          else
            (f_rat_Best fuel r3.1).bind fun r5 =>
            (f_rat_Best fuel r3.2.1).bind fun r6 =>
            (f_gamehallkeep2_fine fuel [r5.2, r6.2]).bind fun r7 =>
            if (!r7) = true then
              some false
            else
              if (0 : Int) ≤ r5.1 then
                if r5.1 < r3.1.length then
                  if (0 : Int) ≤ r6.1 then
                    if r6.1 < r3.2.1.length then
                      (f_rat_Add fuel (r3.1.getD r5.1.toNat ByteArray.empty) (r3.2.1.getD r6.1.toNat ByteArray.empty)).bind fun r8 =>
                      (f_rat_Of fuel (a1.length : Int) 1).bind fun r9 =>
                      (f_gamehallkeep2_fine fuel [r8.2, r9.2]).bind fun r10 =>
                      if (!r10) = true then
                        some false
                      else
                        (f_rat_Div fuel r8.1 r9.1).bind fun r11 =>
                        (f_rat_Sub fuel r4.2.1 r4.1).bind fun r12 =>
                        (f_gamehallkeep2_fine fuel [r11.2, r12.2]).bind fun r13 =>
                        if r13 = true then
                          some ((r11.1.toList == r12.1.toList))
                        else
                          some false
                    else none
                  else none
                else none
              else none
        else
          if (r3.2.2 == 0) = false then
            some (IntKind.i64.wrap ((r3.1.length : Int) + (r3.2.1.length : Int)) == 0)
          else
            some true
    else
      some true
theorem f_gamehallkeep2_RegretZero_run (k : Nat) (x : denL [.slice (.slice .str), .slice (.arr 2 (.int .i64))]) : runFn E_gamehallkeep2_RegretZero LL_gamehallkeep2_RegretZero k 5 Tryd.f5 [.slice (.slice .str), .slice (.arr 2 (.int .i64))] [.imm .bool] x = f_gamehallkeep2_RegretZero k x.1 x.2 := by kernel_rfl
noncomputable def S_gamehallkeep2_RegretZero : Vm.Spec := { ps := [.slice (.slice .str), .slice (.arr 2 (.int .i64))], rs := [.imm .bool], f := fun x => f_gamehallkeep2_RegretZero fuel x.1 x.2 }
theorem f_gamehallkeep2_RegretZero_holds : Vm.Spec.holds Tryd.prog 5 S_gamehallkeep2_RegretZero := by
  have hB : BodiesOk Tryd.prog E_gamehallkeep2_RegretZero := bodies_none rfl
  have hBS : BodiesStepped E_gamehallkeep2_RegretZero LL_gamehallkeep2_RegretZero := bodies_stepped_none rfl
  have hS : SpecsOk Tryd.prog E_gamehallkeep2_RegretZero := specs_ok (by exact ⟨⟨by kernel_rfl, f_gamehallkeep2_regretFact_holds⟩, ⟨by kernel_rfl, f_gamehallkeep2_small_holds⟩, ⟨by kernel_rfl, f_regret_Regrets_holds⟩, ⟨by kernel_rfl, f_regret_Bounds_holds⟩, ⟨by kernel_rfl, f_rat_Best_holds⟩, ⟨by kernel_rfl, f_gamehallkeep2_fine_holds⟩, ⟨by kernel_rfl, f_rat_Add_holds⟩, ⟨by kernel_rfl, f_rat_Of_holds⟩, ⟨by kernel_rfl, f_rat_Div_holds⟩, ⟨by kernel_rfl, f_rat_Sub_holds⟩, trivial⟩)
  have hE : EOk Tryd.prog E_gamehallkeep2_RegretZero := eok_te ok
  exact fn_sound (L := LL_gamehallkeep2_RegretZero) hE hS hB (draws_ok hE hS (by kernel_rfl)) hBS (fn := Tryd.f5) (by kernel_rfl) (c := bodyOf Tryd.f5) (by kernel_rfl) (stepped_none rfl) fun x r h => ⟨fuel, (f_gamehallkeep2_RegretZero_run fuel x).trans h⟩

end Go.Proofs.YtkgjejengkmacaaDoor
