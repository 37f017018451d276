/- Pure functions, printed by a program of this session out of the program. -/
import Derived.Test.YtnhdjbbdgegkgaaDoorVmD
import Derived.Test.YtnhdjbbdgegkgaaDoorSh
set_option linter.unusedVariables false
namespace Go.Proofs.YtnhdjbbdgegkgaaDoor
open Go Vm Go.Proofs
def te : TE := [(2, ⟨.int .i64, .sc, 8⟩),
  (3, ⟨.int .i64, .sc, 8⟩),
  (4, ⟨.bool, .sc, 1⟩),
  (5, ⟨.int .u8, .sc, 1⟩),
  (9, ⟨.str, .sc, 16⟩),
  (23, ⟨.slice (.slice .str), .slice 25, 24⟩),
  (24, ⟨.slice .str, .slice 36, 24⟩),
  (25, ⟨.slice .str, .slice 36, 24⟩),
  (28, ⟨.int .i64, .sc, 8⟩),
  (36, ⟨.str, .sc, 16⟩),
  (46, ⟨.slice (.slice (.slice .str)), .slice 23, 24⟩),
  (53, ⟨.slice (.slice (.pair .bool (.pair (.slice (.int .u32)) (.slice (.int .u32))))), .slice 56, 24⟩),
  (56, ⟨.slice (.pair .bool (.pair (.slice (.int .u32)) (.slice (.int .u32)))), .slice 60, 24⟩),
  (58, ⟨.slice (.int .u32), .slice 96, 24⟩),
  (60, ⟨.pair .bool (.pair (.slice (.int .u32)) (.slice (.int .u32))), .st [4, 58, 58], 56⟩),
  (63, ⟨.slice (.int .i64), .slice 28, 24⟩),
  (96, ⟨.int .u32, .sc, 4⟩),
  (99, ⟨.int .u64, .sc, 8⟩),
  (100, ⟨.slice (.int .u8), .slice 5, 24⟩),
  (101, ⟨.arr 9 (.int .u8), .ar 9 5, 9⟩)]
theorem ok : EOk Tryd.prog { te := te, spec := [], body := [] } := eok_of (by kernel_rfl)
noncomputable def E_nat_Of : Env := { te := te, spec := [], body := [] }
def l_nat_Of_2H : Ann := { slots := [(0, .one (.val (.int .i64))), (3, .one (.own 44 (.int .u32)))], objs := [(44, .buf (.int .u32))] }
def l_nat_Of_2X : Ann := { slots := [(3, .one (.own 44 (.int .u32)))], objs := [(44, .buf (.int .u32))] }
def l_nat_Of_2R : Ann := { slots := [], objs := [] }
def l_nat_Of_2 : Nat → Int → List Int → Option (LR l_nat_Of_2X l_nat_Of_2R)
 | 0, _, _ => none
 | m + 1, s0, b44 =>
  if decide (s0 > 0) = true then
   if (b44.length + 1) * 4 ≤ 140737488355328 then
    l_nat_Of_2 m (IntKind.i64.wrap (s0.tdiv 1000000000)) (b44 ++ [IntKind.u32.wrap (s0.tmod 1000000000)])
   else none
  else
   some (.exit (b44, ()))
def l_nat_Of_2L : LSpec := { h := l_nat_Of_2H, x := l_nat_Of_2X, r := l_nat_Of_2R, xid := 0, rt := false, pins := [], f := fun k d => l_nat_Of_2 k d.1 d.2.1 }
def LL_nat_Of : Loops := [([50], [(2, l_nat_Of_2L)])]
def f_nat_Of (k : Nat) (a0 : Int) : Option (List Int) :=
 match l_nat_Of_2 k a0 [] with
 | none => none
 | some (.exit d1) =>
  some d1.1
 | some (.ret d1) =>
  none
theorem l_nat_Of_2_step (m : Nat) (d : dens l_nat_Of_2H.tys) : l_nat_Of_2L.f (m + 1) d = round E_nat_Of LL_nat_Of m [50] 15 (loopN (bodyOf Tryd.f50) 0) l_nat_Of_2L (l_nat_Of_2L.f m) d := by kernel_rfl
theorem f_nat_Of_run (k : Nat) (x : denL [.int .i64]) : runFn E_nat_Of LL_nat_Of k 50 Tryd.f50 [.int .i64] [.fresh (.int .u32)] x = f_nat_Of k x := by kernel_rfl
noncomputable def S_nat_Of : Vm.Spec := { ps := [.int .i64], rs := [.fresh (.int .u32)], f := fun x => f_nat_Of fuel x }
theorem f_nat_Of_holds : Vm.Spec.holds Tryd.prog 50 S_nat_Of := by
 have hB : BodiesOk Tryd.prog E_nat_Of := bodies_none rfl
 have hBS : BodiesStepped E_nat_Of LL_nat_Of := bodies_stepped_none rfl
 have hS : SpecsOk Tryd.prog E_nat_Of := specs_ok (by exact trivial)
 have hE : EOk Tryd.prog E_nat_Of := eok_te ok
 exact fn_sound (L := LL_nat_Of) hE hS hB (draws_ok hE hS (by kernel_rfl)) hBS (fn := Tryd.f50) (by kernel_rfl) (c := bodyOf Tryd.f50) (by kernel_rfl) (stepped_of (ls := [(2, l_nat_Of_2L)]) rfl rfl ⟨by kernel_rfl, fun _ => rfl, l_nat_Of_2_step, stepsI_end (by kernel_rfl)⟩) fun x r h => ⟨fuel, (f_nat_Of_run fuel x).trans h⟩
noncomputable def E_nat_N_Cmp : Env := { te := te, spec := [], body := [] }
def l_nat_N_Cmp_6H : Ann := { slots := [(0, .one (.val (.slice (.int .u32)))), (1, .one (.val (.slice (.int .u32)))), (5, .one (.val (.int .i64)))], objs := [] }
def l_nat_N_Cmp_6X : Ann := { slots := [], objs := [] }
def l_nat_N_Cmp_6R : Ann := { slots := [(4, .one (.val (.int .i64)))], objs := [] }
def l_nat_N_Cmp_6 : Nat → List Int → List Int → Int → Option (LR l_nat_N_Cmp_6X l_nat_N_Cmp_6R)
 | 0, _, _, _ => none
 | m + 1, s0, s1, s5 =>
  if decide (s5 ≥ 0) = true then
   if (0 : Int) ≤ s5 then
    if s5 < s0.length then
     if (0 : Int) ≤ s5 then
      if s5 < s1.length then
       if decide (s0.getD s5.toNat 0 < s1.getD s5.toNat 0) = true then
        some (.ret ((-1), ()))
       else
        if (0 : Int) ≤ s5 then
         if s5 < s0.length then
          if (0 : Int) ≤ s5 then
           if s5 < s1.length then
            if decide (s0.getD s5.toNat 0 > s1.getD s5.toNat 0) = true then
             some (.ret (1, ()))
            else
             l_nat_N_Cmp_6 m s0 s1 (IntKind.i64.wrap (s5 - 1))
           else none
          else none
         else none
        else none
      else none
     else none
    else none
   else none
  else
   some (.exit ())
def l_nat_N_Cmp_6L : LSpec := { h := l_nat_N_Cmp_6H, x := l_nat_N_Cmp_6X, r := l_nat_N_Cmp_6R, xid := 0, rt := true, pins := [], f := fun k d => l_nat_N_Cmp_6 k d.1 d.2.1 d.2.2.1 }
def LL_nat_N_Cmp : Loops := [([60], [(6, l_nat_N_Cmp_6L)])]
def f_nat_N_Cmp (k : Nat) (a0 : List Int) (a1 : List Int) : Option (Int) :=
 if ((a0.length : Int) != (a1.length : Int)) = true then
  if decide ((a0.length : Int) < (a1.length : Int)) = true then
   some (-1)
  else
   some 1
 else
  match l_nat_N_Cmp_6 k a0 a1 (IntKind.i64.wrap ((a0.length : Int) - 1)) with
  | none => none
  | some (.exit d1) =>
   some 0
  | some (.ret d1) =>
   some d1.1
theorem l_nat_N_Cmp_6_step (m : Nat) (d : dens l_nat_N_Cmp_6H.tys) : l_nat_N_Cmp_6L.f (m + 1) d = round E_nat_N_Cmp LL_nat_N_Cmp m [60] 43 (loopN (bodyOf Tryd.f60) 0) l_nat_N_Cmp_6L (l_nat_N_Cmp_6L.f m) d := by kernel_rfl
theorem f_nat_N_Cmp_run (k : Nat) (x : denL [.slice (.int .u32), .slice (.int .u32)]) : runFn E_nat_N_Cmp LL_nat_N_Cmp k 60 Tryd.f60 [.slice (.int .u32), .slice (.int .u32)] [.imm (.int .i64)] x = f_nat_N_Cmp k x.1 x.2 := by kernel_rfl
noncomputable def S_nat_N_Cmp : Vm.Spec := { ps := [.slice (.int .u32), .slice (.int .u32)], rs := [.imm (.int .i64)], f := fun x => f_nat_N_Cmp fuel x.1 x.2 }
theorem f_nat_N_Cmp_holds : Vm.Spec.holds Tryd.prog 60 S_nat_N_Cmp := by
 have hB : BodiesOk Tryd.prog E_nat_N_Cmp := bodies_none rfl
 have hBS : BodiesStepped E_nat_N_Cmp LL_nat_N_Cmp := bodies_stepped_none rfl
 have hS : SpecsOk Tryd.prog E_nat_N_Cmp := specs_ok (by exact trivial)
 have hE : EOk Tryd.prog E_nat_N_Cmp := eok_te ok
 exact fn_sound (L := LL_nat_N_Cmp) hE hS hB (draws_ok hE hS (by kernel_rfl)) hBS (fn := Tryd.f60) (by kernel_rfl) (c := bodyOf Tryd.f60) (by kernel_rfl) (stepped_of (ls := [(6, l_nat_N_Cmp_6L)]) rfl rfl ⟨by kernel_rfl, fun _ => rfl, l_nat_N_Cmp_6_step, stepsI_end (by kernel_rfl)⟩) fun x r h => ⟨fuel, (f_nat_N_Cmp_run fuel x).trans h⟩
noncomputable def E_stringslite_HasPrefix : Env := { te := te, spec := [], body := [] }
def LL_stringslite_HasPrefix : Loops := []
def f_stringslite_HasPrefix (k : Nat) (a0 : ByteArray) (a1 : ByteArray) : Option (Bool) :=
 if decide ((a0.size : Int) ≥ (a1.size : Int)) = true then
  if (0 : Int) ≤ (a1.size : Int) then
   if (a1.size : Int) ≤ a0.size then
    some (((a0.extract 0 (a1.size : Int).toNat).toList == a1.toList))
   else none
  else none
 else
  some false
theorem f_stringslite_HasPrefix_run (k : Nat) (x : denL [.str, .str]) : runFn E_stringslite_HasPrefix LL_stringslite_HasPrefix k 79 Tryd.f79 [.str, .str] [.imm .bool] x = f_stringslite_HasPrefix k x.1 x.2 := by kernel_rfl
noncomputable def S_stringslite_HasPrefix : Vm.Spec := { ps := [.str, .str], rs := [.imm .bool], f := fun x => f_stringslite_HasPrefix fuel x.1 x.2 }
theorem f_stringslite_HasPrefix_holds : Vm.Spec.holds Tryd.prog 79 S_stringslite_HasPrefix := by
 have hB : BodiesOk Tryd.prog E_stringslite_HasPrefix := bodies_none rfl
 have hBS : BodiesStepped E_stringslite_HasPrefix LL_stringslite_HasPrefix := bodies_stepped_none rfl
 have hS : SpecsOk Tryd.prog E_stringslite_HasPrefix := specs_ok (by exact trivial)
 have hE : EOk Tryd.prog E_stringslite_HasPrefix := eok_te ok
 exact fn_sound (L := LL_stringslite_HasPrefix) hE hS hB (draws_ok hE hS (by kernel_rfl)) hBS (fn := Tryd.f79) (by kernel_rfl) (c := bodyOf Tryd.f79) (by kernel_rfl) (stepped_none rfl) fun x r h => ⟨fuel, (f_stringslite_HasPrefix_run fuel x).trans h⟩
noncomputable def E_stringslite_CutPrefix : Env := { te := te, spec := [(79, S_stringslite_HasPrefix)], body := [] }
def LL_stringslite_CutPrefix : Loops := []
def f_stringslite_CutPrefix (k : Nat) (a0 : ByteArray) (a1 : ByteArray) : Option (ByteArray × Bool) :=
 (f_stringslite_HasPrefix fuel a0 a1).bind fun r1 =>
 if (!r1) = true then
  some (a0, false)
 else
  if (0 : Int) ≤ (a1.size : Int) then
   if (a1.size : Int) ≤ a0.size then
    some (a0.extract (a1.size : Int).toNat a0.size, true)
   else none
  else none
theorem f_stringslite_CutPrefix_run (k : Nat) (x : denL [.str, .str]) : runFn E_stringslite_CutPrefix LL_stringslite_CutPrefix k 70 Tryd.f70 [.str, .str] [.imm .str, .imm .bool] x = f_stringslite_CutPrefix k x.1 x.2 := by kernel_rfl
noncomputable def S_stringslite_CutPrefix : Vm.Spec := { ps := [.str, .str], rs := [.imm .str, .imm .bool], f := fun x => f_stringslite_CutPrefix fuel x.1 x.2 }
theorem f_stringslite_CutPrefix_holds : Vm.Spec.holds Tryd.prog 70 S_stringslite_CutPrefix := by
 have hB : BodiesOk Tryd.prog E_stringslite_CutPrefix := bodies_none rfl
 have hBS : BodiesStepped E_stringslite_CutPrefix LL_stringslite_CutPrefix := bodies_stepped_none rfl
 have hS : SpecsOk Tryd.prog E_stringslite_CutPrefix := specs_ok (by exact ⟨⟨by kernel_rfl, f_stringslite_HasPrefix_holds⟩, trivial⟩)
 have hE : EOk Tryd.prog E_stringslite_CutPrefix := eok_te ok
 exact fn_sound (L := LL_stringslite_CutPrefix) hE hS hB (draws_ok hE hS (by kernel_rfl)) hBS (fn := Tryd.f70) (by kernel_rfl) (c := bodyOf Tryd.f70) (by kernel_rfl) (stepped_none rfl) fun x r h => ⟨fuel, (f_stringslite_CutPrefix_run fuel x).trans h⟩
noncomputable def E_strings_CutPrefix : Env := { te := te, spec := [(70, S_stringslite_CutPrefix)], body := [] }
def LL_strings_CutPrefix : Loops := []
def f_strings_CutPrefix (k : Nat) (a0 : ByteArray) (a1 : ByteArray) : Option (ByteArray × Bool) :=
 (f_stringslite_CutPrefix fuel a0 a1).bind fun r1 =>
 some (r1.1, r1.2)
theorem f_strings_CutPrefix_run (k : Nat) (x : denL [.str, .str]) : runFn E_strings_CutPrefix LL_strings_CutPrefix k 62 Tryd.f62 [.str, .str] [.imm .str, .imm .bool] x = f_strings_CutPrefix k x.1 x.2 := by kernel_rfl
noncomputable def S_strings_CutPrefix : Vm.Spec := { ps := [.str, .str], rs := [.imm .str, .imm .bool], f := fun x => f_strings_CutPrefix fuel x.1 x.2 }
theorem f_strings_CutPrefix_holds : Vm.Spec.holds Tryd.prog 62 S_strings_CutPrefix := by
 have hB : BodiesOk Tryd.prog E_strings_CutPrefix := bodies_none rfl
 have hBS : BodiesStepped E_strings_CutPrefix LL_strings_CutPrefix := bodies_stepped_none rfl
 have hS : SpecsOk Tryd.prog E_strings_CutPrefix := specs_ok (by exact ⟨⟨by kernel_rfl, f_stringslite_CutPrefix_holds⟩, trivial⟩)
 have hE : EOk Tryd.prog E_strings_CutPrefix := eok_te ok
 exact fn_sound (L := LL_strings_CutPrefix) hE hS hB (draws_ok hE hS (by kernel_rfl)) hBS (fn := Tryd.f62) (by kernel_rfl) (c := bodyOf Tryd.f62) (by kernel_rfl) (stepped_none rfl) fun x r h => ⟨fuel, (f_strings_CutPrefix_run fuel x).trans h⟩
noncomputable def E_stringslite_Cut : Env := { te := te, spec := [(80, Vm.sIndex)], body := [] }
def LL_stringslite_Cut : Loops := []
def f_stringslite_Cut (k : Nat) (a0 : ByteArray) (a1 : ByteArray) : Option (ByteArray × ByteArray × Bool) :=
 (Vm.stdIndex a0 a1).bind fun r1 =>
 if decide (r1 ≥ 0) = true then
  if (0 : Int) ≤ r1 then
   if r1 ≤ a0.size then
    if (0 : Int) ≤ IntKind.i64.wrap (r1 + (a1.size : Int)) then
     if IntKind.i64.wrap (r1 + (a1.size : Int)) ≤ a0.size then
      some (a0.extract 0 r1.toNat, a0.extract (IntKind.i64.wrap (r1 + (a1.size : Int))).toNat a0.size, true)
     else none
    else none
   else none
  else none
 else
  some (a0, (⟨#[]⟩ : ByteArray), false)
theorem f_stringslite_Cut_run (k : Nat) (x : denL [.str, .str]) : runFn E_stringslite_Cut LL_stringslite_Cut k 71 Tryd.f71 [.str, .str] [.imm .str, .imm .str, .imm .bool] x = f_stringslite_Cut k x.1 x.2 := by kernel_rfl
noncomputable def S_stringslite_Cut : Vm.Spec := { ps := [.str, .str], rs := [.imm .str, .imm .str, .imm .bool], f := fun x => f_stringslite_Cut fuel x.1 x.2 }
theorem f_stringslite_Cut_holds : Vm.Spec.holds Tryd.prog 71 S_stringslite_Cut := by
 have hB : BodiesOk Tryd.prog E_stringslite_Cut := bodies_none rfl
 have hBS : BodiesStepped E_stringslite_Cut LL_stringslite_Cut := bodies_stepped_none rfl
 have hS : SpecsOk Tryd.prog E_stringslite_Cut := specs_ok (by exact ⟨⟨by kernel_rfl, g80_holds⟩, trivial⟩)
 have hE : EOk Tryd.prog E_stringslite_Cut := eok_te ok
 exact fn_sound (L := LL_stringslite_Cut) hE hS hB (draws_ok hE hS (by kernel_rfl)) hBS (fn := Tryd.f71) (by kernel_rfl) (c := bodyOf Tryd.f71) (by kernel_rfl) (stepped_none rfl) fun x r h => ⟨fuel, (f_stringslite_Cut_run fuel x).trans h⟩
noncomputable def E_strings_Cut : Env := { te := te, spec := [(71, S_stringslite_Cut)], body := [] }
def LL_strings_Cut : Loops := []
def f_strings_Cut (k : Nat) (a0 : ByteArray) (a1 : ByteArray) : Option (ByteArray × ByteArray × Bool) :=
 (f_stringslite_Cut fuel a0 a1).bind fun r1 =>
 some (r1.1, r1.2.1, r1.2.2)
theorem f_strings_Cut_run (k : Nat) (x : denL [.str, .str]) : runFn E_strings_Cut LL_strings_Cut k 63 Tryd.f63 [.str, .str] [.imm .str, .imm .str, .imm .bool] x = f_strings_Cut k x.1 x.2 := by kernel_rfl
noncomputable def S_strings_Cut : Vm.Spec := { ps := [.str, .str], rs := [.imm .str, .imm .str, .imm .bool], f := fun x => f_strings_Cut fuel x.1 x.2 }
theorem f_strings_Cut_holds : Vm.Spec.holds Tryd.prog 63 S_strings_Cut := by
 have hB : BodiesOk Tryd.prog E_strings_Cut := bodies_none rfl
 have hBS : BodiesStepped E_strings_Cut LL_strings_Cut := bodies_stepped_none rfl
 have hS : SpecsOk Tryd.prog E_strings_Cut := specs_ok (by exact ⟨⟨by kernel_rfl, f_stringslite_Cut_holds⟩, trivial⟩)
 have hE : EOk Tryd.prog E_strings_Cut := eok_te ok
 exact fn_sound (L := LL_strings_Cut) hE hS hB (draws_ok hE hS (by kernel_rfl)) hBS (fn := Tryd.f63) (by kernel_rfl) (c := bodyOf Tryd.f63) (by kernel_rfl) (stepped_none rfl) fun x r h => ⟨fuel, (f_strings_Cut_run fuel x).trans h⟩
noncomputable def E_nat_Read : Env := { te := te, spec := [], body := [(67, Tryd.f67)] }
def l_nat_Read_7H : Ann := { slots := [(5, .one (.val (.int .u32))), (20, .one (.val (.slice (.int .u8)))), (21, .one (.val (.int .i64))), (22, .one (.val (.int .i64)))], objs := [] }
def l_nat_Read_7X : Ann := { slots := [(5, .one (.val (.int .u32)))], objs := [] }
def l_nat_Read_7R : Ann := { slots := [], objs := [] }
def l_nat_Read_3H : Ann := { slots := [(0, .one (.val .str)), (3, .one (.own 144 (.int .u32))), (4, .one (.val (.int .i64)))], objs := [(144, .buf (.int .u32))] }
def l_nat_Read_3X : Ann := { slots := [(3, .one (.own 144 (.int .u32)))], objs := [(144, .buf (.int .u32))] }
def l_nat_Read_3R : Ann := { slots := [], objs := [] }
def l_nat_N_trim__nat_Read_1H : Ann := { slots := [(0, .one (.pre 148 (.int .u32)))], objs := [(148, .buf (.int .u32))] }
def l_nat_N_trim__nat_Read_1X : Ann := { slots := [(0, .one (.pre 148 (.int .u32)))], objs := [(148, .buf (.int .u32))] }
def l_nat_N_trim__nat_Read_1R : Ann := { slots := [], objs := [] }
def l_nat_Read_7 : Nat → Int → List Int → Int → Int → Option (LR l_nat_Read_7X l_nat_Read_7R)
 | 0, _, _, _, _ => none
 | m + 1, s5, s20, s21, s22 =>
  if decide (s22 < s21) = true then
   if (0 : Int) ≤ s22 then
    if s22 < s20.length then
     l_nat_Read_7 m (IntKind.u32.wrap ((IntKind.u32.wrap (s5 * 10)) + (IntKind.u32.wrap (IntKind.u8.wrap ((s20.getD s22.toNat 0) - 48))))) s20 s21 (IntKind.i64.wrap (s22 + 1))
    else none
   else none
  else
   some (.exit (s5, ()))
def l_nat_Read_7L : LSpec := { h := l_nat_Read_7H, x := l_nat_Read_7X, r := l_nat_Read_7R, xid := 2, rt := false, pins := [], f := fun k d => l_nat_Read_7 k d.1 d.2.1 d.2.2.1 d.2.2.2.1 }
def l_nat_Read_3 : Nat → ByteArray → Int → List Int → Option (LR l_nat_Read_3X l_nat_Read_3R)
 | 0, _, _, _ => none
 | m + 1, s0, s4, b144 =>
  if decide (s4 > 0) = true then
   if (0 : Int) ≤ s4 then
    if s4 ≤ s0.size then
     if (0 : Int) ≤ (if IntKind.i64.wrap (s4 - 9) > 0 then IntKind.i64.wrap (s4 - 9) else 0) then
      if (if IntKind.i64.wrap (s4 - 9) > 0 then IntKind.i64.wrap (s4 - 9) else 0) ≤ s4 then
       match l_nat_Read_7 m 0 ((s0.extract (if IntKind.i64.wrap (s4 - 9) > 0 then IntKind.i64.wrap (s4 - 9) else 0).toNat s4.toNat).data.toList.map fun c => (c.toNat : Int)) (((s0.extract (if IntKind.i64.wrap (s4 - 9) > 0 then IntKind.i64.wrap (s4 - 9) else 0).toNat s4.toNat).data.toList.map fun c => (c.toNat : Int)).length : Int) 0 with
       | none => none
       | some (.exit d1) =>
        if (b144.length + 1) * 4 ≤ 140737488355328 then
         l_nat_Read_3 m s0 (IntKind.i64.wrap (s4 - 9)) (b144 ++ [d1.1])
        else none
       | some (.ret d1) =>
        none
      else none
     else none
    else none
   else none
  else
   some (.exit (b144, ()))
def l_nat_Read_3L : LSpec := { h := l_nat_Read_3H, x := l_nat_Read_3X, r := l_nat_Read_3R, xid := 0, rt := false, pins := [], f := fun k d => l_nat_Read_3 k d.1 d.2.1 d.2.2.1 }
def l_nat_N_trim__nat_Read_1 : Nat → Nat → List Int → Option (LR l_nat_N_trim__nat_Read_1X l_nat_N_trim__nat_Read_1R)
 | 0, _, _ => none
 | m + 1, s0, b148 =>
  if decide ((s0 : Int) > 0) = true then
   if (0 : Int) ≤ IntKind.i64.wrap ((s0 : Int) - 1) then
    if IntKind.i64.wrap ((s0 : Int) - 1) < s0 then
     if (b148.getD ((IntKind.i64.wrap ((s0 : Int) - 1)).toNat) 0 == 0) = true then
      if (0 : Int) ≤ IntKind.i64.wrap ((s0 : Int) - 1) then
       if IntKind.i64.wrap ((s0 : Int) - 1) ≤ s0 then
        l_nat_N_trim__nat_Read_1 m ((IntKind.i64.wrap ((s0 : Int) - 1)).toNat) b148
       else none
      else none
     else
      some (.exit (s0, b148, ()))
    else none
   else none
  else
   some (.exit (s0, b148, ()))
def l_nat_N_trim__nat_Read_1L : LSpec := { h := l_nat_N_trim__nat_Read_1H, x := l_nat_N_trim__nat_Read_1X, r := l_nat_N_trim__nat_Read_1R, xid := 0, rt := false, pins := [148], f := fun k d => l_nat_N_trim__nat_Read_1 k d.1 d.2.1 }
def LL_nat_Read : Loops := [([64], [(3, l_nat_Read_3L), (7, l_nat_Read_7L)]), ([67, 64], [(1, l_nat_N_trim__nat_Read_1L)])]
def f_nat_Read (k : Nat) (a0 : ByteArray) : Option (List Int) :=
 match l_nat_Read_3 k a0 (a0.size : Int) [] with
 | none => none
 | some (.exit d1) =>
  match l_nat_N_trim__nat_Read_1 k d1.1.length d1.1 with
  | none => none
  | some (.exit d2) =>
   some (d2.2.1.take d2.1)
  | some (.ret d2) =>
   none
 | some (.ret d1) =>
  none
theorem l_nat_Read_7_step (m : Nat) (d : dens l_nat_Read_7H.tys) : l_nat_Read_7L.f (m + 1) d = round E_nat_Read LL_nat_Read m [64] 39 (loopN (bodyOf Tryd.f64) 1) l_nat_Read_7L (l_nat_Read_7L.f m) d := by kernel_rfl
theorem l_nat_Read_3_step (m : Nat) (d : dens l_nat_Read_3H.tys) : l_nat_Read_3L.f (m + 1) d = round E_nat_Read LL_nat_Read m [64] 39 (loopN (bodyOf Tryd.f64) 0) l_nat_Read_3L (l_nat_Read_3L.f m) d := by kernel_rfl
theorem l_nat_N_trim__nat_Read_1_step (m : Nat) (d : dens l_nat_N_trim__nat_Read_1H.tys) : l_nat_N_trim__nat_Read_1L.f (m + 1) d = round E_nat_Read LL_nat_Read m [67, 64] 21 (loopN (bodyOf Tryd.f67) 0) l_nat_N_trim__nat_Read_1L (l_nat_N_trim__nat_Read_1L.f m) d := by kernel_rfl
theorem f_nat_Read_run (k : Nat) (x : denL [.str]) : runFn E_nat_Read LL_nat_Read k 64 Tryd.f64 [.str] [.fresh (.int .u32)] x = f_nat_Read k x := by kernel_rfl
noncomputable def S_nat_Read : Vm.Spec := { ps := [.str], rs := [.fresh (.int .u32)], f := fun x => f_nat_Read fuel x }
theorem f_nat_Read_holds : Vm.Spec.holds Tryd.prog 64 S_nat_Read := by
 have hB : BodiesOk Tryd.prog E_nat_Read := bodies_ok (by exact ⟨by kernel_rfl, by kernel_rfl, trivial⟩)
 have hBS : BodiesStepped E_nat_Read LL_nat_Read := by
  refine bodies_stepped ?_
  exact ⟨(stepped_paths [[64]] (by exact ⟨stepped_of (ls := [(1, l_nat_N_trim__nat_Read_1L)]) rfl rfl ⟨by kernel_rfl, fun _ => rfl, l_nat_N_trim__nat_Read_1_step, stepsI_end (by kernel_rfl)⟩,  trivial⟩) rfl),  trivial⟩
 have hS : SpecsOk Tryd.prog E_nat_Read := specs_ok (by exact trivial)
 have hE : EOk Tryd.prog E_nat_Read := eok_te ok
 exact fn_sound (L := LL_nat_Read) hE hS hB (draws_ok hE hS (by kernel_rfl)) hBS (fn := Tryd.f64) (by kernel_rfl) (c := bodyOf Tryd.f64) (by kernel_rfl) (stepped_of (ls := [(3, l_nat_Read_3L), (7, l_nat_Read_7L)]) rfl rfl ⟨by kernel_rfl, fun _ => rfl, l_nat_Read_3_step, by kernel_rfl, fun _ => rfl, l_nat_Read_7_step, stepsI_end (by kernel_rfl)⟩) fun x r h => ⟨fuel, (f_nat_Read_run fuel x).trans h⟩
noncomputable def E_nat_N_Mul : Env := { te := te, spec := [], body := [(67, Tryd.f67)] }
def l_nat_N_Mul_7H : Ann := { slots := [(5, .one (.own 68 (.int .u32))), (6, .one (.val (.int .i64))), (7, .one (.val (.int .u32))), (8, .one (.val (.int .u64))), (25, .one (.val (.slice (.int .u32)))), (26, .one (.val (.int .i64))), (27, .one (.val (.int .i64)))], objs := [(68, .buf (.int .u32))] }
def l_nat_N_Mul_7X : Ann := { slots := [(5, .one (.own 68 (.int .u32))), (8, .one (.val (.int .u64)))], objs := [(68, .buf (.int .u32))] }
def l_nat_N_Mul_7R : Ann := { slots := [], objs := [] }
def l_nat_N_Mul_3H : Ann := { slots := [(1, .one (.val (.slice (.int .u32)))), (5, .one (.own 68 (.int .u32))), (18, .one (.val (.slice (.int .u32)))), (19, .one (.val (.int .i64))), (20, .one (.val (.int .i64)))], objs := [(68, .buf (.int .u32))] }
def l_nat_N_Mul_3X : Ann := { slots := [(5, .one (.own 68 (.int .u32)))], objs := [(68, .buf (.int .u32))] }
def l_nat_N_Mul_3R : Ann := { slots := [], objs := [] }
def l_nat_N_trim__nat_N_Mul_1H : Ann := { slots := [(0, .one (.pre 68 (.int .u32)))], objs := [(68, .buf (.int .u32))] }
def l_nat_N_trim__nat_N_Mul_1X : Ann := { slots := [(0, .one (.pre 68 (.int .u32)))], objs := [(68, .buf (.int .u32))] }
def l_nat_N_trim__nat_N_Mul_1R : Ann := { slots := [], objs := [] }
def l_nat_N_Mul_7 : Nat → Int → Int → Int → List Int → Int → Int → List Int → Option (LR l_nat_N_Mul_7X l_nat_N_Mul_7R)
 | 0, _, _, _, _, _, _, _ => none
 | m + 1, s6, s7, s8, s25, s26, s27, b68 =>
  if decide (s27 < s26) = true then
   if (0 : Int) ≤ s27 then
    if s27 < s25.length then
     if (0 : Int) ≤ IntKind.i64.wrap (s6 + s27) then
      if IntKind.i64.wrap (s6 + s27) < b68.length then
       if (0 : Int) ≤ IntKind.i64.wrap (s6 + s27) then
        if IntKind.i64.wrap (s6 + s27) < b68.length then
         l_nat_N_Mul_7 m s6 s7 (IntKind.u64.wrap ((IntKind.u64.wrap ((IntKind.u64.wrap ((IntKind.u64.wrap ((IntKind.u64.wrap (s7)) * (IntKind.u64.wrap (s25.getD s27.toNat 0)))) + (IntKind.u64.wrap (b68.getD ((IntKind.i64.wrap (s6 + s27)).toNat) 0)))) + s8)).tdiv 1000000000)) s25 s26 (IntKind.i64.wrap (s27 + 1)) (b68.set ((IntKind.i64.wrap (s6 + s27)).toNat) (IntKind.u32.wrap ((IntKind.u64.wrap ((IntKind.u64.wrap ((IntKind.u64.wrap ((IntKind.u64.wrap (s7)) * (IntKind.u64.wrap (s25.getD s27.toNat 0)))) + (IntKind.u64.wrap (b68.getD ((IntKind.i64.wrap (s6 + s27)).toNat) 0)))) + s8)).tmod 1000000000)))
        else none
       else none
      else none
     else none
    else none
   else none
  else
   some (.exit (s8, b68, ()))
def l_nat_N_Mul_7L : LSpec := { h := l_nat_N_Mul_7H, x := l_nat_N_Mul_7X, r := l_nat_N_Mul_7R, xid := 2, rt := false, pins := [68], f := fun k d => l_nat_N_Mul_7 k d.1 d.2.1 d.2.2.1 d.2.2.2.1 d.2.2.2.2.1 d.2.2.2.2.2.1 d.2.2.2.2.2.2.1 }
def l_nat_N_Mul_3 : Nat → List Int → List Int → Int → Int → List Int → Option (LR l_nat_N_Mul_3X l_nat_N_Mul_3R)
 | 0, _, _, _, _, _ => none
 | m + 1, s1, s18, s19, s20, b68 =>
  if decide (s20 < s19) = true then
   if (0 : Int) ≤ s20 then
    if s20 < s18.length then
     match l_nat_N_Mul_7 m s20 (s18.getD s20.toNat 0) 0 s1 (s1.length : Int) 0 b68 with
     | none => none
     | some (.exit d1) =>
      if (0 : Int) ≤ IntKind.i64.wrap (s20 + (s1.length : Int)) then
       if IntKind.i64.wrap (s20 + (s1.length : Int)) < d1.2.1.length then
        l_nat_N_Mul_3 m s1 s18 s19 (IntKind.i64.wrap (s20 + 1)) (d1.2.1.set ((IntKind.i64.wrap (s20 + (s1.length : Int))).toNat) (IntKind.u32.wrap (d1.1)))
       else none
      else none
     | some (.ret d1) =>
      none
    else none
   else none
  else
   some (.exit (b68, ()))
def l_nat_N_Mul_3L : LSpec := { h := l_nat_N_Mul_3H, x := l_nat_N_Mul_3X, r := l_nat_N_Mul_3R, xid := 0, rt := false, pins := [68], f := fun k d => l_nat_N_Mul_3 k d.1 d.2.1 d.2.2.1 d.2.2.2.1 d.2.2.2.2.1 }
def l_nat_N_trim__nat_N_Mul_1 : Nat → Nat → List Int → Option (LR l_nat_N_trim__nat_N_Mul_1X l_nat_N_trim__nat_N_Mul_1R)
 | 0, _, _ => none
 | m + 1, s0, b68 =>
  if decide ((s0 : Int) > 0) = true then
   if (0 : Int) ≤ IntKind.i64.wrap ((s0 : Int) - 1) then
    if IntKind.i64.wrap ((s0 : Int) - 1) < s0 then
     if (b68.getD ((IntKind.i64.wrap ((s0 : Int) - 1)).toNat) 0 == 0) = true then
      if (0 : Int) ≤ IntKind.i64.wrap ((s0 : Int) - 1) then
       if IntKind.i64.wrap ((s0 : Int) - 1) ≤ s0 then
        l_nat_N_trim__nat_N_Mul_1 m ((IntKind.i64.wrap ((s0 : Int) - 1)).toNat) b68
       else none
      else none
     else
      some (.exit (s0, b68, ()))
    else none
   else none
  else
   some (.exit (s0, b68, ()))
def l_nat_N_trim__nat_N_Mul_1L : LSpec := { h := l_nat_N_trim__nat_N_Mul_1H, x := l_nat_N_trim__nat_N_Mul_1X, r := l_nat_N_trim__nat_N_Mul_1R, xid := 0, rt := false, pins := [68], f := fun k d => l_nat_N_trim__nat_N_Mul_1 k d.1 d.2.1 }
def LL_nat_N_Mul : Loops := [([52], [(3, l_nat_N_Mul_3L), (7, l_nat_N_Mul_7L)]), ([67, 52], [(1, l_nat_N_trim__nat_N_Mul_1L)])]
def f_nat_N_Mul (k : Nat) (a0 : List Int) (a1 : List Int) : Option (List Int) :=
 if (0 : Int) ≤ IntKind.i64.wrap ((a0.length : Int) + (a1.length : Int)) then
  if IntKind.i64.wrap ((a0.length : Int) + (a1.length : Int)) ≤ IntKind.i64.wrap ((a0.length : Int) + (a1.length : Int)) then
   if (IntKind.i64.wrap ((a0.length : Int) + (a1.length : Int))) * 4 ≤ 281474976710656 then
    match l_nat_N_Mul_3 k a1 a0 (a0.length : Int) 0 (List.replicate ((IntKind.i64.wrap ((a0.length : Int) + (a1.length : Int))).toNat) 0) with
    | none => none
    | some (.exit d1) =>
     match l_nat_N_trim__nat_N_Mul_1 k d1.1.length d1.1 with
     | none => none
     | some (.exit d2) =>
      some (d2.2.1.take d2.1)
     | some (.ret d2) =>
      none
    | some (.ret d1) =>
     none
   else none
  else none
 else none
theorem l_nat_N_Mul_7_step (m : Nat) (d : dens l_nat_N_Mul_7H.tys) : l_nat_N_Mul_7L.f (m + 1) d = round E_nat_N_Mul LL_nat_N_Mul m [52] 69 (loopN (bodyOf Tryd.f52) 1) l_nat_N_Mul_7L (l_nat_N_Mul_7L.f m) d := by kernel_rfl
theorem l_nat_N_Mul_3_step (m : Nat) (d : dens l_nat_N_Mul_3H.tys) : l_nat_N_Mul_3L.f (m + 1) d = round E_nat_N_Mul LL_nat_N_Mul m [52] 69 (loopN (bodyOf Tryd.f52) 0) l_nat_N_Mul_3L (l_nat_N_Mul_3L.f m) d := by kernel_rfl
theorem l_nat_N_trim__nat_N_Mul_1_step (m : Nat) (d : dens l_nat_N_trim__nat_N_Mul_1H.tys) : l_nat_N_trim__nat_N_Mul_1L.f (m + 1) d = round E_nat_N_Mul LL_nat_N_Mul m [67, 52] 21 (loopN (bodyOf Tryd.f67) 0) l_nat_N_trim__nat_N_Mul_1L (l_nat_N_trim__nat_N_Mul_1L.f m) d := by kernel_rfl
theorem f_nat_N_Mul_run (k : Nat) (x : denL [.slice (.int .u32), .slice (.int .u32)]) : runFn E_nat_N_Mul LL_nat_N_Mul k 52 Tryd.f52 [.slice (.int .u32), .slice (.int .u32)] [.fresh (.int .u32)] x = f_nat_N_Mul k x.1 x.2 := by kernel_rfl
noncomputable def S_nat_N_Mul : Vm.Spec := { ps := [.slice (.int .u32), .slice (.int .u32)], rs := [.fresh (.int .u32)], f := fun x => f_nat_N_Mul fuel x.1 x.2 }
theorem f_nat_N_Mul_holds : Vm.Spec.holds Tryd.prog 52 S_nat_N_Mul := by
 have hB : BodiesOk Tryd.prog E_nat_N_Mul := bodies_ok (by exact ⟨by kernel_rfl, by kernel_rfl, trivial⟩)
 have hBS : BodiesStepped E_nat_N_Mul LL_nat_N_Mul := by
  refine bodies_stepped ?_
  exact ⟨(stepped_paths [[52]] (by exact ⟨stepped_of (ls := [(1, l_nat_N_trim__nat_N_Mul_1L)]) rfl rfl ⟨by kernel_rfl, fun _ => rfl, l_nat_N_trim__nat_N_Mul_1_step, stepsI_end (by kernel_rfl)⟩,  trivial⟩) rfl),  trivial⟩
 have hS : SpecsOk Tryd.prog E_nat_N_Mul := specs_ok (by exact trivial)
 have hE : EOk Tryd.prog E_nat_N_Mul := eok_te ok
 exact fn_sound (L := LL_nat_N_Mul) hE hS hB (draws_ok hE hS (by kernel_rfl)) hBS (fn := Tryd.f52) (by kernel_rfl) (c := bodyOf Tryd.f52) (by kernel_rfl) (stepped_of (ls := [(3, l_nat_N_Mul_3L), (7, l_nat_N_Mul_7L)]) rfl rfl ⟨by kernel_rfl, fun _ => rfl, l_nat_N_Mul_3_step, by kernel_rfl, fun _ => rfl, l_nat_N_Mul_7_step, stepsI_end (by kernel_rfl)⟩) fun x r h => ⟨fuel, (f_nat_N_Mul_run fuel x).trans h⟩
noncomputable def E_nat_N_Sub : Env := { te := te, spec := [], body := [(67, Tryd.f67)] }
def l_nat_N_Sub_4H : Ann := { slots := [(0, .one (.val (.slice (.int .u32)))), (1, .one (.val (.slice (.int .u32)))), (5, .one (.own 44 (.int .u32))), (6, .one (.val (.int .i64))), (13, .one (.val (.int .i64))), (14, .one (.val (.int .i64)))], objs := [(44, .buf (.int .u32))] }
def l_nat_N_Sub_4X : Ann := { slots := [(5, .one (.own 44 (.int .u32)))], objs := [(44, .buf (.int .u32))] }
def l_nat_N_Sub_4R : Ann := { slots := [], objs := [] }
def l_nat_N_trim__nat_N_Sub_1H : Ann := { slots := [(0, .one (.pre 44 (.int .u32)))], objs := [(44, .buf (.int .u32))] }
def l_nat_N_trim__nat_N_Sub_1X : Ann := { slots := [(0, .one (.pre 44 (.int .u32)))], objs := [(44, .buf (.int .u32))] }
def l_nat_N_trim__nat_N_Sub_1R : Ann := { slots := [], objs := [] }
def l_nat_N_Sub_4 : Nat → List Int → List Int → Int → Int → Int → List Int → Option (LR l_nat_N_Sub_4X l_nat_N_Sub_4R)
 | 0, _, _, _, _, _, _ => none
 | m + 1, s0, s1, s6, s13, s14, b44 =>
  if decide (s14 < s13) = true then
   if (0 : Int) ≤ s14 then
    if s14 < s0.length then
     if decide (s14 < (s1.length : Int)) = true then
      if (0 : Int) ≤ s14 then
       if s14 < s1.length then
        if decide (IntKind.i64.wrap ((IntKind.i64.wrap ((IntKind.i64.wrap (s0.getD s14.toNat 0)) - s6)) - (IntKind.i64.wrap (s1.getD s14.toNat 0))) < 0) = true then
         if (0 : Int) ≤ s14 then
          if s14 < b44.length then
           l_nat_N_Sub_4 m s0 s1 1 s13 (IntKind.i64.wrap (s14 + 1)) (b44.set s14.toNat (IntKind.u32.wrap (IntKind.i64.wrap ((IntKind.i64.wrap ((IntKind.i64.wrap ((IntKind.i64.wrap (s0.getD s14.toNat 0)) - s6)) - (IntKind.i64.wrap (s1.getD s14.toNat 0)))) + 1000000000))))
          else none
         else none
        else
         if (0 : Int) ≤ s14 then
          if s14 < b44.length then
           l_nat_N_Sub_4 m s0 s1 0 s13 (IntKind.i64.wrap (s14 + 1)) (b44.set s14.toNat (IntKind.u32.wrap (IntKind.i64.wrap ((IntKind.i64.wrap ((IntKind.i64.wrap (s0.getD s14.toNat 0)) - s6)) - (IntKind.i64.wrap (s1.getD s14.toNat 0))))))
          else none
         else none
       else none
      else none
     else
      if decide (IntKind.i64.wrap ((IntKind.i64.wrap (s0.getD s14.toNat 0)) - s6) < 0) = true then
       if (0 : Int) ≤ s14 then
        if s14 < b44.length then
         l_nat_N_Sub_4 m s0 s1 1 s13 (IntKind.i64.wrap (s14 + 1)) (b44.set s14.toNat (IntKind.u32.wrap (IntKind.i64.wrap ((IntKind.i64.wrap ((IntKind.i64.wrap (s0.getD s14.toNat 0)) - s6)) + 1000000000))))
        else none
       else none
      else
       if (0 : Int) ≤ s14 then
        if s14 < b44.length then
         l_nat_N_Sub_4 m s0 s1 0 s13 (IntKind.i64.wrap (s14 + 1)) (b44.set s14.toNat (IntKind.u32.wrap (IntKind.i64.wrap ((IntKind.i64.wrap (s0.getD s14.toNat 0)) - s6))))
        else none
       else none
    else none
   else none
  else
   some (.exit (b44, ()))
def l_nat_N_Sub_4L : LSpec := { h := l_nat_N_Sub_4H, x := l_nat_N_Sub_4X, r := l_nat_N_Sub_4R, xid := 0, rt := false, pins := [44], f := fun k d => l_nat_N_Sub_4 k d.1 d.2.1 d.2.2.1 d.2.2.2.1 d.2.2.2.2.1 d.2.2.2.2.2.1 }
def l_nat_N_trim__nat_N_Sub_1 : Nat → Nat → List Int → Option (LR l_nat_N_trim__nat_N_Sub_1X l_nat_N_trim__nat_N_Sub_1R)
 | 0, _, _ => none
 | m + 1, s0, b44 =>
  if decide ((s0 : Int) > 0) = true then
   if (0 : Int) ≤ IntKind.i64.wrap ((s0 : Int) - 1) then
    if IntKind.i64.wrap ((s0 : Int) - 1) < s0 then
     if (b44.getD ((IntKind.i64.wrap ((s0 : Int) - 1)).toNat) 0 == 0) = true then
      if (0 : Int) ≤ IntKind.i64.wrap ((s0 : Int) - 1) then
       if IntKind.i64.wrap ((s0 : Int) - 1) ≤ s0 then
        l_nat_N_trim__nat_N_Sub_1 m ((IntKind.i64.wrap ((s0 : Int) - 1)).toNat) b44
       else none
      else none
     else
      some (.exit (s0, b44, ()))
    else none
   else none
  else
   some (.exit (s0, b44, ()))
def l_nat_N_trim__nat_N_Sub_1L : LSpec := { h := l_nat_N_trim__nat_N_Sub_1H, x := l_nat_N_trim__nat_N_Sub_1X, r := l_nat_N_trim__nat_N_Sub_1R, xid := 0, rt := false, pins := [44], f := fun k d => l_nat_N_trim__nat_N_Sub_1 k d.1 d.2.1 }
def LL_nat_N_Sub : Loops := [([61], [(4, l_nat_N_Sub_4L)]), ([67, 61], [(1, l_nat_N_trim__nat_N_Sub_1L)])]
def f_nat_N_Sub (k : Nat) (a0 : List Int) (a1 : List Int) : Option (List Int) :=
 if (0 : Int) ≤ (a0.length : Int) then
  if (a0.length : Int) ≤ (a0.length : Int) then
   if (a0.length : Int) * 4 ≤ 281474976710656 then
    match l_nat_N_Sub_4 k a0 a1 0 (a0.length : Int) 0 (List.replicate ((a0.length : Int).toNat) 0) with
    | none => none
    | some (.exit d1) =>
     match l_nat_N_trim__nat_N_Sub_1 k d1.1.length d1.1 with
     | none => none
     | some (.exit d2) =>
      some (d2.2.1.take d2.1)
     | some (.ret d2) =>
      none
    | some (.ret d1) =>
     none
   else none
  else none
 else none
theorem l_nat_N_Sub_4_step (m : Nat) (d : dens l_nat_N_Sub_4H.tys) : l_nat_N_Sub_4L.f (m + 1) d = round E_nat_N_Sub LL_nat_N_Sub m [61] 47 (loopN (bodyOf Tryd.f61) 0) l_nat_N_Sub_4L (l_nat_N_Sub_4L.f m) d := by kernel_rfl
theorem l_nat_N_trim__nat_N_Sub_1_step (m : Nat) (d : dens l_nat_N_trim__nat_N_Sub_1H.tys) : l_nat_N_trim__nat_N_Sub_1L.f (m + 1) d = round E_nat_N_Sub LL_nat_N_Sub m [67, 61] 21 (loopN (bodyOf Tryd.f67) 0) l_nat_N_trim__nat_N_Sub_1L (l_nat_N_trim__nat_N_Sub_1L.f m) d := by kernel_rfl
theorem f_nat_N_Sub_run (k : Nat) (x : denL [.slice (.int .u32), .slice (.int .u32)]) : runFn E_nat_N_Sub LL_nat_N_Sub k 61 Tryd.f61 [.slice (.int .u32), .slice (.int .u32)] [.fresh (.int .u32)] x = f_nat_N_Sub k x.1 x.2 := by kernel_rfl
noncomputable def S_nat_N_Sub : Vm.Spec := { ps := [.slice (.int .u32), .slice (.int .u32)], rs := [.fresh (.int .u32)], f := fun x => f_nat_N_Sub fuel x.1 x.2 }
theorem f_nat_N_Sub_holds : Vm.Spec.holds Tryd.prog 61 S_nat_N_Sub := by
 have hB : BodiesOk Tryd.prog E_nat_N_Sub := bodies_ok (by exact ⟨by kernel_rfl, by kernel_rfl, trivial⟩)
 have hBS : BodiesStepped E_nat_N_Sub LL_nat_N_Sub := by
  refine bodies_stepped ?_
  exact ⟨(stepped_paths [[61]] (by exact ⟨stepped_of (ls := [(1, l_nat_N_trim__nat_N_Sub_1L)]) rfl rfl ⟨by kernel_rfl, fun _ => rfl, l_nat_N_trim__nat_N_Sub_1_step, stepsI_end (by kernel_rfl)⟩,  trivial⟩) rfl),  trivial⟩
 have hS : SpecsOk Tryd.prog E_nat_N_Sub := specs_ok (by exact trivial)
 have hE : EOk Tryd.prog E_nat_N_Sub := eok_te ok
 exact fn_sound (L := LL_nat_N_Sub) hE hS hB (draws_ok hE hS (by kernel_rfl)) hBS (fn := Tryd.f61) (by kernel_rfl) (c := bodyOf Tryd.f61) (by kernel_rfl) (stepped_of (ls := [(4, l_nat_N_Sub_4L)]) rfl rfl ⟨by kernel_rfl, fun _ => rfl, l_nat_N_Sub_4_step, stepsI_end (by kernel_rfl)⟩) fun x r h => ⟨fuel, (f_nat_N_Sub_run fuel x).trans h⟩
noncomputable def E_nat_N_trim : Env := { te := te, spec := [], body := [] }
def l_nat_N_trim_1H : Ann := { slots := [(0, .one (.val (.slice (.int .u32))))], objs := [] }
def l_nat_N_trim_1X : Ann := { slots := [(0, .one (.val (.slice (.int .u32))))], objs := [] }
def l_nat_N_trim_1R : Ann := { slots := [], objs := [] }
def l_nat_N_trim_1 : Nat → List Int → Option (LR l_nat_N_trim_1X l_nat_N_trim_1R)
 | 0, _ => none
 | m + 1, s0 =>
  if decide ((s0.length : Int) > 0) = true then
   if (0 : Int) ≤ IntKind.i64.wrap ((s0.length : Int) - 1) then
    if IntKind.i64.wrap ((s0.length : Int) - 1) < s0.length then
     if (s0.getD ((IntKind.i64.wrap ((s0.length : Int) - 1)).toNat) 0 == 0) = true then
      if (0 : Int) ≤ IntKind.i64.wrap ((s0.length : Int) - 1) then
       if IntKind.i64.wrap ((s0.length : Int) - 1) ≤ s0.length then
        l_nat_N_trim_1 m ((s0.take (IntKind.i64.wrap ((s0.length : Int) - 1)).toNat).drop 0)
       else none
      else none
     else
      some (.exit (s0, ()))
    else none
   else none
  else
   some (.exit (s0, ()))
def l_nat_N_trim_1L : LSpec := { h := l_nat_N_trim_1H, x := l_nat_N_trim_1X, r := l_nat_N_trim_1R, xid := 0, rt := false, pins := [], f := fun k d => l_nat_N_trim_1 k d.1 }
def LL_nat_N_trim : Loops := [([67], [(1, l_nat_N_trim_1L)])]
def f_nat_N_trim (k : Nat) (a0 : List Int) : Option (List Int) :=
 match l_nat_N_trim_1 k a0 with
 | none => none
 | some (.exit d1) =>
  some d1.1
 | some (.ret d1) =>
  none
theorem l_nat_N_trim_1_step (m : Nat) (d : dens l_nat_N_trim_1H.tys) : l_nat_N_trim_1L.f (m + 1) d = round E_nat_N_trim LL_nat_N_trim m [67] 21 (loopN (bodyOf Tryd.f67) 0) l_nat_N_trim_1L (l_nat_N_trim_1L.f m) d := by kernel_rfl
theorem f_nat_N_trim_run (k : Nat) (x : denL [.slice (.int .u32)]) : runFn E_nat_N_trim LL_nat_N_trim k 67 Tryd.f67 [.slice (.int .u32)] [.imm (.slice (.int .u32))] x = f_nat_N_trim k x := by kernel_rfl
noncomputable def S_nat_N_trim : Vm.Spec := { ps := [.slice (.int .u32)], rs := [.imm (.slice (.int .u32))], f := fun x => f_nat_N_trim fuel x }
theorem f_nat_N_trim_holds : Vm.Spec.holds Tryd.prog 67 S_nat_N_trim := by
 have hB : BodiesOk Tryd.prog E_nat_N_trim := bodies_none rfl
 have hBS : BodiesStepped E_nat_N_trim LL_nat_N_trim := bodies_stepped_none rfl
 have hS : SpecsOk Tryd.prog E_nat_N_trim := specs_ok (by exact trivial)
 have hE : EOk Tryd.prog E_nat_N_trim := eok_te ok
 exact fn_sound (L := LL_nat_N_trim) hE hS hB (draws_ok hE hS (by kernel_rfl)) hBS (fn := Tryd.f67) (by kernel_rfl) (c := bodyOf Tryd.f67) (by kernel_rfl) (stepped_of (ls := [(1, l_nat_N_trim_1L)]) rfl rfl ⟨by kernel_rfl, fun _ => rfl, l_nat_N_trim_1_step, stepsI_end (by kernel_rfl)⟩) fun x r h => ⟨fuel, (f_nat_N_trim_run fuel x).trans h⟩
noncomputable def E_nat_N_short : Env := { te := te, spec := [(67, S_nat_N_trim)], body := [] }
def l_nat_N_short_4H : Ann := { slots := [(0, .one (.val (.slice (.int .u32)))), (1, .one (.val (.int .u32))), (6, .one (.own 44 (.int .u32))), (7, .one (.val (.int .u64))), (8, .one (.val (.int .i64)))], objs := [(44, .buf (.int .u32))] }
def l_nat_N_short_4X : Ann := { slots := [(6, .one (.own 44 (.int .u32))), (7, .one (.val (.int .u64)))], objs := [(44, .buf (.int .u32))] }
def l_nat_N_short_4R : Ann := { slots := [], objs := [] }
def l_nat_N_short_4 : Nat → List Int → Int → Int → Int → List Int → Option (LR l_nat_N_short_4X l_nat_N_short_4R)
 | 0, _, _, _, _, _ => none
 | m + 1, s0, s1, s7, s8, b44 =>
  if decide (s8 ≥ 0) = true then
   if (0 : Int) ≤ s8 then
    if s8 < s0.length then
     if IntKind.u64.wrap (s1) = 0 then
      none
     else
      if (0 : Int) ≤ s8 then
       if s8 < b44.length then
        if IntKind.u64.wrap (s1) = 0 then
         none
        else
         l_nat_N_short_4 m s0 s1 ((IntKind.u64.wrap ((IntKind.u64.wrap (s7 * 1000000000)) + (IntKind.u64.wrap (s0.getD s8.toNat 0)))).tmod (IntKind.u64.wrap (s1))) (IntKind.i64.wrap (s8 - 1)) (b44.set s8.toNat (IntKind.u32.wrap (IntKind.u64.wrap ((IntKind.u64.wrap ((IntKind.u64.wrap (s7 * 1000000000)) + (IntKind.u64.wrap (s0.getD s8.toNat 0)))).tdiv (IntKind.u64.wrap (s1))))))
       else none
      else none
    else none
   else none
  else
   some (.exit (s7, b44, ()))
def l_nat_N_short_4L : LSpec := { h := l_nat_N_short_4H, x := l_nat_N_short_4X, r := l_nat_N_short_4R, xid := 0, rt := false, pins := [44], f := fun k d => l_nat_N_short_4 k d.1 d.2.1 d.2.2.1 d.2.2.2.1 d.2.2.2.2.1 }
def LL_nat_N_short : Loops := [([72], [(4, l_nat_N_short_4L)])]
def f_nat_N_short (k : Nat) (a0 : List Int) (a1 : Int) : Option ((List Int) × (List Int)) :=
 if (0 : Int) ≤ (a0.length : Int) then
  if (a0.length : Int) ≤ (a0.length : Int) then
   if (a0.length : Int) * 4 ≤ 281474976710656 then
    match l_nat_N_short_4 k a0 a1 0 (IntKind.i64.wrap ((a0.length : Int) - 1)) (List.replicate ((a0.length : Int).toNat) 0) with
    | none => none
    | some (.exit d1) =>
     (f_nat_N_trim fuel d1.2.1).bind fun r2 =>
     (f_nat_N_trim fuel [IntKind.u32.wrap (d1.1)]).bind fun r3 =>
     some (r2, r3)
    | some (.ret d1) =>
     none
   else none
  else none
 else none
theorem l_nat_N_short_4_step (m : Nat) (d : dens l_nat_N_short_4H.tys) : l_nat_N_short_4L.f (m + 1) d = round E_nat_N_short LL_nat_N_short m [72] 45 (loopN (bodyOf Tryd.f72) 0) l_nat_N_short_4L (l_nat_N_short_4L.f m) d := by kernel_rfl
theorem f_nat_N_short_run (k : Nat) (x : denL [.slice (.int .u32), .int .u32]) : runFn E_nat_N_short LL_nat_N_short k 72 Tryd.f72 [.slice (.int .u32), .int .u32] [.imm (.slice (.int .u32)), .imm (.slice (.int .u32))] x = f_nat_N_short k x.1 x.2 := by kernel_rfl
noncomputable def S_nat_N_short : Vm.Spec := { ps := [.slice (.int .u32), .int .u32], rs := [.imm (.slice (.int .u32)), .imm (.slice (.int .u32))], f := fun x => f_nat_N_short fuel x.1 x.2 }
theorem f_nat_N_short_holds : Vm.Spec.holds Tryd.prog 72 S_nat_N_short := by
 have hB : BodiesOk Tryd.prog E_nat_N_short := bodies_none rfl
 have hBS : BodiesStepped E_nat_N_short LL_nat_N_short := bodies_stepped_none rfl
 have hS : SpecsOk Tryd.prog E_nat_N_short := specs_ok (by exact ⟨⟨by kernel_rfl, f_nat_N_trim_holds⟩, trivial⟩)
 have hE : EOk Tryd.prog E_nat_N_short := eok_te ok
 exact fn_sound (L := LL_nat_N_short) hE hS hB (draws_ok hE hS (by kernel_rfl)) hBS (fn := Tryd.f72) (by kernel_rfl) (c := bodyOf Tryd.f72) (by kernel_rfl) (stepped_of (ls := [(4, l_nat_N_short_4L)]) rfl rfl ⟨by kernel_rfl, fun _ => rfl, l_nat_N_short_4_step, stepsI_end (by kernel_rfl)⟩) fun x r h => ⟨fuel, (f_nat_N_short_run fuel x).trans h⟩
noncomputable def E_nat_N_Div : Env := { te := te, spec := [(52, S_nat_N_Mul), (60, S_nat_N_Cmp), (67, S_nat_N_trim), (72, S_nat_N_short)], body := [(73, Tryd.f73), (74, Tryd.f74)] }
def l_nat_N_Div_7H : Ann := { slots := [(0, .one (.val (.slice (.int .u32)))), (7, .one (.own 188 (.int .u32)))], objs := [(188, .buf (.int .u32))] }
def l_nat_N_Div_7X : Ann := { slots := [(7, .one (.own 188 (.int .u32)))], objs := [(188, .buf (.int .u32))] }
def l_nat_N_Div_7R : Ann := { slots := [], objs := [] }
def l_nat_N_Div_16H : Ann := { slots := [(7, .one (.own 188 (.int .u32))), (8, .one (.own 204 (.int .u32))), (9, .one (.val (.int .i64))), (11, .one (.val (.int .i64))), (13, .one (.val (.int .u64))), (14, .one (.val (.int .u64)))], objs := [(188, .buf (.int .u32)), (204, .buf (.int .u32))] }
def l_nat_N_Div_16X : Ann := { slots := [(7, .one (.own 188 (.int .u32))), (8, .one (.own 204 (.int .u32))), (13, .one (.val (.int .u64)))], objs := [(188, .buf (.int .u32)), (204, .buf (.int .u32))] }
def l_nat_N_Div_16R : Ann := { slots := [], objs := [] }
def l_nat_N_minus__nat_N_Div_4H : Ann := { slots := [(0, .one (.own 188 (.int .u32))), (1, .one (.own 204 (.int .u32))), (2, .one (.val (.int .i64))), (3, .one (.val (.int .u64))), (9, .one (.val (.int .i64))), (10, .one (.val (.int .u64))), (11, .one (.val (.int .i64)))], objs := [(188, .buf (.int .u32)), (204, .buf (.int .u32))] }
def l_nat_N_minus__nat_N_Div_4X : Ann := { slots := [(9, .one (.val (.int .i64)))], objs := [(188, .buf (.int .u32)), (204, .buf (.int .u32))] }
def l_nat_N_minus__nat_N_Div_4R : Ann := { slots := [], objs := [] }
def l_nat_N_plus__nat_N_Div_2H : Ann := { slots := [(0, .one (.own 188 (.int .u32))), (1, .one (.own 204 (.int .u32))), (2, .one (.val (.int .i64))), (6, .one (.val (.int .u32))), (7, .one (.val (.int .i64)))], objs := [(188, .buf (.int .u32)), (204, .buf (.int .u32))] }
def l_nat_N_plus__nat_N_Div_2X : Ann := { slots := [], objs := [(188, .buf (.int .u32)), (204, .buf (.int .u32))] }
def l_nat_N_plus__nat_N_Div_2R : Ann := { slots := [], objs := [] }
def l_nat_N_Div_12H : Ann := { slots := [(7, .one (.own 188 (.int .u32))), (8, .one (.own 204 (.int .u32))), (9, .one (.val (.int .i64))), (10, .one (.own 264 (.int .u32))), (11, .one (.val (.int .i64)))], objs := [(188, .buf (.int .u32)), (204, .buf (.int .u32)), (264, .buf (.int .u32))] }
def l_nat_N_Div_12X : Ann := { slots := [(7, .one (.own 188 (.int .u32))), (10, .one (.own 264 (.int .u32)))], objs := [(188, .buf (.int .u32)), (264, .buf (.int .u32)), (204, .buf (.int .u32))] }
def l_nat_N_Div_12R : Ann := { slots := [], objs := [] }
def l_nat_N_Div_7 : Nat → List Int → List Int → Option (LR l_nat_N_Div_7X l_nat_N_Div_7R)
 | 0, _, _ => none
 | m + 1, s0, b188 =>
  if decide ((b188.length : Int) ≤ (s0.length : Int)) = true then
   if (b188.length + 1) * 4 ≤ 140737488355328 then
    l_nat_N_Div_7 m s0 (b188 ++ [0])
   else none
  else
   some (.exit (b188, ()))
def l_nat_N_Div_7L : LSpec := { h := l_nat_N_Div_7H, x := l_nat_N_Div_7X, r := l_nat_N_Div_7R, xid := 0, rt := false, pins := [], f := fun k d => l_nat_N_Div_7 k d.1 d.2.1 }
def l_nat_N_Div_16 : Nat → Int → Int → Int → Int → List Int → List Int → Option (LR l_nat_N_Div_16X l_nat_N_Div_16R)
 | 0, _, _, _, _, _, _ => none
 | m + 1, s9, s11, s13, s14, b188, b204 =>
  if decide (s13 ≥ 1000000000) = false then
   if (0 : Int) ≤ IntKind.i64.wrap (s9 - 2) then
    if IntKind.i64.wrap (s9 - 2) < b204.length then
     if (0 : Int) ≤ IntKind.i64.wrap ((IntKind.i64.wrap (s11 + s9)) - 2) then
      if IntKind.i64.wrap ((IntKind.i64.wrap (s11 + s9)) - 2) < b188.length then
       if decide (IntKind.u64.wrap (s13 * (IntKind.u64.wrap (b204.getD ((IntKind.i64.wrap (s9 - 2)).toNat) 0))) > IntKind.u64.wrap ((IntKind.u64.wrap (s14 * 1000000000)) + (IntKind.u64.wrap (b188.getD ((IntKind.i64.wrap ((IntKind.i64.wrap (s11 + s9)) - 2)).toNat) 0)))) = true then
        if (0 : Int) ≤ IntKind.i64.wrap (s9 - 1) then
         if IntKind.i64.wrap (s9 - 1) < b204.length then
          if decide (IntKind.u64.wrap (s14 + (IntKind.u64.wrap (b204.getD ((IntKind.i64.wrap (s9 - 1)).toNat) 0))) ≥ 1000000000) = true then
           some (.exit (IntKind.u64.wrap (s13 - 1), b188, b204, ()))
          else
           l_nat_N_Div_16 m s9 s11 (IntKind.u64.wrap (s13 - 1)) (IntKind.u64.wrap (s14 + (IntKind.u64.wrap (b204.getD ((IntKind.i64.wrap (s9 - 1)).toNat) 0)))) b188 b204
         else none
        else none
       else
        some (.exit (s13, b188, b204, ()))
      else none
     else none
    else none
   else none
  else
   if (0 : Int) ≤ IntKind.i64.wrap (s9 - 1) then
    if IntKind.i64.wrap (s9 - 1) < b204.length then
     if decide (IntKind.u64.wrap (s14 + (IntKind.u64.wrap (b204.getD ((IntKind.i64.wrap (s9 - 1)).toNat) 0))) ≥ 1000000000) = true then
      some (.exit (IntKind.u64.wrap (s13 - 1), b188, b204, ()))
     else
      l_nat_N_Div_16 m s9 s11 (IntKind.u64.wrap (s13 - 1)) (IntKind.u64.wrap (s14 + (IntKind.u64.wrap (b204.getD ((IntKind.i64.wrap (s9 - 1)).toNat) 0)))) b188 b204
    else none
   else none
def l_nat_N_Div_16L : LSpec := { h := l_nat_N_Div_16H, x := l_nat_N_Div_16X, r := l_nat_N_Div_16R, xid := 4, rt := false, pins := [188, 204], f := fun k d => l_nat_N_Div_16 k d.1 d.2.1 d.2.2.1 d.2.2.2.1 d.2.2.2.2.1 d.2.2.2.2.2.1 }
def l_nat_N_minus__nat_N_Div_4 : Nat → Int → Int → Int → Int → Int → List Int → List Int → Option (LR l_nat_N_minus__nat_N_Div_4X l_nat_N_minus__nat_N_Div_4R)
 | 0, _, _, _, _, _, _, _ => none
 | m + 1, s2, s3, s9, s10, s11, b188, b204 =>
  if decide (s11 ≤ (b204.length : Int)) = true then
   if decide (s11 < (b204.length : Int)) = true then
    if (0 : Int) ≤ s11 then
     if s11 < b204.length then
      if (0 : Int) ≤ IntKind.i64.wrap (s2 + s11) then
       if IntKind.i64.wrap (s2 + s11) < b188.length then
        if decide (IntKind.i64.wrap ((IntKind.i64.wrap ((IntKind.i64.wrap (b188.getD ((IntKind.i64.wrap (s2 + s11)).toNat) 0)) - (IntKind.i64.wrap ((IntKind.u64.wrap (s10 + (IntKind.u64.wrap (s3 * (IntKind.u64.wrap (b204.getD s11.toNat 0)))))).tmod 1000000000)))) - s9) < 0) = true then
         if (0 : Int) ≤ IntKind.i64.wrap (s2 + s11) then
          if IntKind.i64.wrap (s2 + s11) < b188.length then
           l_nat_N_minus__nat_N_Div_4 m s2 s3 1 (IntKind.u64.wrap ((IntKind.u64.wrap (s10 + (IntKind.u64.wrap (s3 * (IntKind.u64.wrap (b204.getD s11.toNat 0)))))).tdiv 1000000000)) (IntKind.i64.wrap (s11 + 1)) (b188.set ((IntKind.i64.wrap (s2 + s11)).toNat) (IntKind.u32.wrap (IntKind.i64.wrap ((IntKind.i64.wrap ((IntKind.i64.wrap ((IntKind.i64.wrap (b188.getD ((IntKind.i64.wrap (s2 + s11)).toNat) 0)) - (IntKind.i64.wrap ((IntKind.u64.wrap (s10 + (IntKind.u64.wrap (s3 * (IntKind.u64.wrap (b204.getD s11.toNat 0)))))).tmod 1000000000)))) - s9)) + 1000000000)))) b204
          else none
         else none
        else
         if (0 : Int) ≤ IntKind.i64.wrap (s2 + s11) then
          if IntKind.i64.wrap (s2 + s11) < b188.length then
           l_nat_N_minus__nat_N_Div_4 m s2 s3 0 (IntKind.u64.wrap ((IntKind.u64.wrap (s10 + (IntKind.u64.wrap (s3 * (IntKind.u64.wrap (b204.getD s11.toNat 0)))))).tdiv 1000000000)) (IntKind.i64.wrap (s11 + 1)) (b188.set ((IntKind.i64.wrap (s2 + s11)).toNat) (IntKind.u32.wrap (IntKind.i64.wrap ((IntKind.i64.wrap ((IntKind.i64.wrap (b188.getD ((IntKind.i64.wrap (s2 + s11)).toNat) 0)) - (IntKind.i64.wrap ((IntKind.u64.wrap (s10 + (IntKind.u64.wrap (s3 * (IntKind.u64.wrap (b204.getD s11.toNat 0)))))).tmod 1000000000)))) - s9)))) b204
          else none
         else none
       else none
      else none
     else none
    else none
   else
    if (0 : Int) ≤ IntKind.i64.wrap (s2 + s11) then
     if IntKind.i64.wrap (s2 + s11) < b188.length then
      if decide (IntKind.i64.wrap ((IntKind.i64.wrap ((IntKind.i64.wrap (b188.getD ((IntKind.i64.wrap (s2 + s11)).toNat) 0)) - (IntKind.i64.wrap (s10.tmod 1000000000)))) - s9) < 0) = true then
       if (0 : Int) ≤ IntKind.i64.wrap (s2 + s11) then
        if IntKind.i64.wrap (s2 + s11) < b188.length then
         l_nat_N_minus__nat_N_Div_4 m s2 s3 1 (IntKind.u64.wrap (s10.tdiv 1000000000)) (IntKind.i64.wrap (s11 + 1)) (b188.set ((IntKind.i64.wrap (s2 + s11)).toNat) (IntKind.u32.wrap (IntKind.i64.wrap ((IntKind.i64.wrap ((IntKind.i64.wrap ((IntKind.i64.wrap (b188.getD ((IntKind.i64.wrap (s2 + s11)).toNat) 0)) - (IntKind.i64.wrap (s10.tmod 1000000000)))) - s9)) + 1000000000)))) b204
        else none
       else none
      else
       if (0 : Int) ≤ IntKind.i64.wrap (s2 + s11) then
        if IntKind.i64.wrap (s2 + s11) < b188.length then
         l_nat_N_minus__nat_N_Div_4 m s2 s3 0 (IntKind.u64.wrap (s10.tdiv 1000000000)) (IntKind.i64.wrap (s11 + 1)) (b188.set ((IntKind.i64.wrap (s2 + s11)).toNat) (IntKind.u32.wrap (IntKind.i64.wrap ((IntKind.i64.wrap ((IntKind.i64.wrap (b188.getD ((IntKind.i64.wrap (s2 + s11)).toNat) 0)) - (IntKind.i64.wrap (s10.tmod 1000000000)))) - s9)))) b204
        else none
       else none
     else none
    else none
  else
   some (.exit (s9, b188, b204, ()))
def l_nat_N_minus__nat_N_Div_4L : LSpec := { h := l_nat_N_minus__nat_N_Div_4H, x := l_nat_N_minus__nat_N_Div_4X, r := l_nat_N_minus__nat_N_Div_4R, xid := 0, rt := false, pins := [188, 204], f := fun k d => l_nat_N_minus__nat_N_Div_4 k d.1 d.2.1 d.2.2.1 d.2.2.2.1 d.2.2.2.2.1 d.2.2.2.2.2.1 d.2.2.2.2.2.2.1 }
def l_nat_N_plus__nat_N_Div_2 : Nat → Int → Int → Int → List Int → List Int → Option (LR l_nat_N_plus__nat_N_Div_2X l_nat_N_plus__nat_N_Div_2R)
 | 0, _, _, _, _, _ => none
 | m + 1, s2, s6, s7, b188, b204 =>
  if decide (s7 ≤ (b204.length : Int)) = true then
   if (0 : Int) ≤ IntKind.i64.wrap (s2 + s7) then
    if IntKind.i64.wrap (s2 + s7) < b188.length then
     if decide (s7 < (b204.length : Int)) = true then
      if (0 : Int) ≤ s7 then
       if s7 < b204.length then
        if (0 : Int) ≤ IntKind.i64.wrap (s2 + s7) then
         if IntKind.i64.wrap (s2 + s7) < b188.length then
          l_nat_N_plus__nat_N_Div_2 m s2 (IntKind.u32.wrap ((IntKind.u32.wrap ((IntKind.u32.wrap ((b188.getD ((IntKind.i64.wrap (s2 + s7)).toNat) 0) + s6)) + (b204.getD s7.toNat 0))).tdiv 1000000000)) (IntKind.i64.wrap (s7 + 1)) (b188.set ((IntKind.i64.wrap (s2 + s7)).toNat) ((IntKind.u32.wrap ((IntKind.u32.wrap ((b188.getD ((IntKind.i64.wrap (s2 + s7)).toNat) 0) + s6)) + (b204.getD s7.toNat 0))).tmod 1000000000)) b204
         else none
        else none
       else none
      else none
     else
      if (0 : Int) ≤ IntKind.i64.wrap (s2 + s7) then
       if IntKind.i64.wrap (s2 + s7) < b188.length then
        l_nat_N_plus__nat_N_Div_2 m s2 (IntKind.u32.wrap ((IntKind.u32.wrap ((b188.getD ((IntKind.i64.wrap (s2 + s7)).toNat) 0) + s6)).tdiv 1000000000)) (IntKind.i64.wrap (s7 + 1)) (b188.set ((IntKind.i64.wrap (s2 + s7)).toNat) ((IntKind.u32.wrap ((b188.getD ((IntKind.i64.wrap (s2 + s7)).toNat) 0) + s6)).tmod 1000000000)) b204
       else none
      else none
    else none
   else none
  else
   some (.exit (b188, b204, ()))
def l_nat_N_plus__nat_N_Div_2L : LSpec := { h := l_nat_N_plus__nat_N_Div_2H, x := l_nat_N_plus__nat_N_Div_2X, r := l_nat_N_plus__nat_N_Div_2R, xid := 0, rt := false, pins := [188, 204], f := fun k d => l_nat_N_plus__nat_N_Div_2 k d.1 d.2.1 d.2.2.1 d.2.2.2.1 d.2.2.2.2.1 }
def l_nat_N_Div_12 : Nat → Int → Int → List Int → List Int → List Int → Option (LR l_nat_N_Div_12X l_nat_N_Div_12R)
 | 0, _, _, _, _, _ => none
 | m + 1, s9, s11, b188, b204, b264 =>
  if decide (s11 ≥ 0) = true then
   if (0 : Int) ≤ IntKind.i64.wrap (s11 + s9) then
    if IntKind.i64.wrap (s11 + s9) < b188.length then
     if (0 : Int) ≤ IntKind.i64.wrap ((IntKind.i64.wrap (s11 + s9)) - 1) then
      if IntKind.i64.wrap ((IntKind.i64.wrap (s11 + s9)) - 1) < b188.length then
       if (0 : Int) ≤ IntKind.i64.wrap (s9 - 1) then
        if IntKind.i64.wrap (s9 - 1) < b204.length then
         if IntKind.u64.wrap (b204.getD ((IntKind.i64.wrap (s9 - 1)).toNat) 0) = 0 then
          none
         else
          if (0 : Int) ≤ IntKind.i64.wrap (s9 - 1) then
           if IntKind.i64.wrap (s9 - 1) < b204.length then
            if IntKind.u64.wrap (b204.getD ((IntKind.i64.wrap (s9 - 1)).toNat) 0) = 0 then
             none
            else
             match l_nat_N_Div_16 m s9 s11 (IntKind.u64.wrap ((IntKind.u64.wrap ((IntKind.u64.wrap ((IntKind.u64.wrap (b188.getD ((IntKind.i64.wrap (s11 + s9)).toNat) 0)) * 1000000000)) + (IntKind.u64.wrap (b188.getD ((IntKind.i64.wrap ((IntKind.i64.wrap (s11 + s9)) - 1)).toNat) 0)))).tdiv (IntKind.u64.wrap (b204.getD ((IntKind.i64.wrap (s9 - 1)).toNat) 0)))) ((IntKind.u64.wrap ((IntKind.u64.wrap ((IntKind.u64.wrap (b188.getD ((IntKind.i64.wrap (s11 + s9)).toNat) 0)) * 1000000000)) + (IntKind.u64.wrap (b188.getD ((IntKind.i64.wrap ((IntKind.i64.wrap (s11 + s9)) - 1)).toNat) 0)))).tmod (IntKind.u64.wrap (b204.getD ((IntKind.i64.wrap (s9 - 1)).toNat) 0))) b188 b204 with
             | none => none
             | some (.exit d1) =>
              match l_nat_N_minus__nat_N_Div_4 m s11 d1.1 0 0 0 d1.2.1 d1.2.2.1 with
              | none => none
              | some (.exit d2) =>
               if decide (d2.1 > 0) = true then
                match l_nat_N_plus__nat_N_Div_2 m s11 0 0 d2.2.1 d2.2.2.1 with
                | none => none
                | some (.exit d3) =>
                 if (0 : Int) ≤ s11 then
                  if s11 < b264.length then
                   l_nat_N_Div_12 m s9 (IntKind.i64.wrap (s11 - 1)) d3.1 d3.2.1 (b264.set s11.toNat (IntKind.u32.wrap (IntKind.u64.wrap (d1.1 - 1))))
                  else none
                 else none
                | some (.ret d3) =>
                 none
               else
                if (0 : Int) ≤ s11 then
                 if s11 < b264.length then
                  l_nat_N_Div_12 m s9 (IntKind.i64.wrap (s11 - 1)) d2.2.1 d2.2.2.1 (b264.set s11.toNat (IntKind.u32.wrap (d1.1)))
                 else none
                else none
              | some (.ret d2) =>
               none
             | some (.ret d1) =>
              none
           else none
          else none
        else none
       else none
      else none
     else none
    else none
   else none
  else
   some (.exit (b188, b264, b204, ()))
def l_nat_N_Div_12L : LSpec := { h := l_nat_N_Div_12H, x := l_nat_N_Div_12X, r := l_nat_N_Div_12R, xid := 2, rt := false, pins := [188, 204, 264], f := fun k d => l_nat_N_Div_12 k d.1 d.2.1 d.2.2.1 d.2.2.2.1 d.2.2.2.2.1 }
def LL_nat_N_Div : Loops := [([66], [(7, l_nat_N_Div_7L), (12, l_nat_N_Div_12L), (16, l_nat_N_Div_16L)]), ([73, 66], [(4, l_nat_N_minus__nat_N_Div_4L)]), ([74, 66], [(2, l_nat_N_plus__nat_N_Div_2L)])]
def f_nat_N_Div (k : Nat) (a0 : List Int) (a1 : List Int) : Option ((List Int) × (List Int)) :=
 (f_nat_N_Cmp fuel a0 a1).bind fun r1 =>
 if decide (r1 < 0) = true then
  some ([], a0)
 else
  if ((a1.length : Int) == 1) = true then
   if (0 : Int) < a1.length then
    (f_nat_N_short fuel a0 (a1.getD 0 0)).bind fun r2 =>
    some (r2.1, r2.2)
   else none
  else
   if (0 : Int) ≤ IntKind.i64.wrap ((a1.length : Int) - 1) then
    if IntKind.i64.wrap ((a1.length : Int) - 1) < a1.length then
     if IntKind.u64.wrap ((IntKind.u64.wrap (a1.getD ((IntKind.i64.wrap ((a1.length : Int) - 1)).toNat) 0)) + 1) = 0 then
      none
     else
      (f_nat_N_Mul fuel a0 [IntKind.u32.wrap (IntKind.u64.wrap ((1000000000 : Int).tdiv (IntKind.u64.wrap ((IntKind.u64.wrap (a1.getD ((IntKind.i64.wrap ((a1.length : Int) - 1)).toNat) 0)) + 1))))]).bind fun r3 =>
      if (r3.length + 1) * 4 ≤ 140737488355328 then
       (f_nat_N_Mul fuel a1 [IntKind.u32.wrap (IntKind.u64.wrap ((1000000000 : Int).tdiv (IntKind.u64.wrap ((IntKind.u64.wrap (a1.getD ((IntKind.i64.wrap ((a1.length : Int) - 1)).toNat) 0)) + 1))))]).bind fun r4 =>
       match l_nat_N_Div_7 k a0 (r3 ++ [0]) with
       | none => none
       | some (.exit d5) =>
        if (0 : Int) ≤ IntKind.i64.wrap ((d5.1.length : Int) - (r4.length : Int)) then
         if IntKind.i64.wrap ((d5.1.length : Int) - (r4.length : Int)) ≤ IntKind.i64.wrap ((d5.1.length : Int) - (r4.length : Int)) then
          if (IntKind.i64.wrap ((d5.1.length : Int) - (r4.length : Int))) * 4 ≤ 281474976710656 then
           match l_nat_N_Div_12 k (r4.length : Int) (IntKind.i64.wrap ((IntKind.i64.wrap ((d5.1.length : Int) - (r4.length : Int))) - 1)) d5.1 r4 (List.replicate ((IntKind.i64.wrap ((d5.1.length : Int) - (r4.length : Int))).toNat) 0) with
           | none => none
           | some (.exit d6) =>
            (f_nat_N_trim fuel d6.1).bind fun r7 =>
            (f_nat_N_short fuel r7 (IntKind.u32.wrap (IntKind.u64.wrap ((1000000000 : Int).tdiv (IntKind.u64.wrap ((IntKind.u64.wrap (a1.getD ((IntKind.i64.wrap ((a1.length : Int) - 1)).toNat) 0)) + 1)))))).bind fun r8 =>
            (f_nat_N_trim fuel d6.2.1).bind fun r9 =>
            some (r9, r8.1)
           | some (.ret d6) =>
            none
          else none
         else none
        else none
       | some (.ret d5) =>
        none
      else none
    else none
   else none
theorem l_nat_N_Div_7_step (m : Nat) (d : dens l_nat_N_Div_7H.tys) : l_nat_N_Div_7L.f (m + 1) d = round E_nat_N_Div LL_nat_N_Div m [66] 171 (loopN (bodyOf Tryd.f66) 0) l_nat_N_Div_7L (l_nat_N_Div_7L.f m) d := by kernel_rfl
theorem l_nat_N_Div_16_step (m : Nat) (d : dens l_nat_N_Div_16H.tys) : l_nat_N_Div_16L.f (m + 1) d = round E_nat_N_Div LL_nat_N_Div m [66] 171 (loopN (bodyOf Tryd.f66) 2) l_nat_N_Div_16L (l_nat_N_Div_16L.f m) d := by kernel_rfl
theorem l_nat_N_minus__nat_N_Div_4_step (m : Nat) (d : dens l_nat_N_minus__nat_N_Div_4H.tys) : l_nat_N_minus__nat_N_Div_4L.f (m + 1) d = round E_nat_N_Div LL_nat_N_Div m [73, 66] 62 (loopN (bodyOf Tryd.f73) 0) l_nat_N_minus__nat_N_Div_4L (l_nat_N_minus__nat_N_Div_4L.f m) d := by kernel_rfl
theorem l_nat_N_plus__nat_N_Div_2_step (m : Nat) (d : dens l_nat_N_plus__nat_N_Div_2H.tys) : l_nat_N_plus__nat_N_Div_2L.f (m + 1) d = round E_nat_N_Div LL_nat_N_Div m [74, 66] 42 (loopN (bodyOf Tryd.f74) 0) l_nat_N_plus__nat_N_Div_2L (l_nat_N_plus__nat_N_Div_2L.f m) d := by kernel_rfl
theorem l_nat_N_Div_12_step (m : Nat) (d : dens l_nat_N_Div_12H.tys) : l_nat_N_Div_12L.f (m + 1) d = round E_nat_N_Div LL_nat_N_Div m [66] 171 (loopN (bodyOf Tryd.f66) 1) l_nat_N_Div_12L (l_nat_N_Div_12L.f m) d := by kernel_rfl
theorem f_nat_N_Div_run (k : Nat) (x : denL [.slice (.int .u32), .slice (.int .u32)]) : runFn E_nat_N_Div LL_nat_N_Div k 66 Tryd.f66 [.slice (.int .u32), .slice (.int .u32)] [.imm (.slice (.int .u32)), .imm (.slice (.int .u32))] x = f_nat_N_Div k x.1 x.2 := by kernel_rfl
noncomputable def S_nat_N_Div : Vm.Spec := { ps := [.slice (.int .u32), .slice (.int .u32)], rs := [.imm (.slice (.int .u32)), .imm (.slice (.int .u32))], f := fun x => f_nat_N_Div fuel x.1 x.2 }
theorem f_nat_N_Div_holds : Vm.Spec.holds Tryd.prog 66 S_nat_N_Div := by
 have hB : BodiesOk Tryd.prog E_nat_N_Div := bodies_ok (by exact ⟨by kernel_rfl, by kernel_rfl, by kernel_rfl, by kernel_rfl, trivial⟩)
 have hBS : BodiesStepped E_nat_N_Div LL_nat_N_Div := by
  refine bodies_stepped ?_
  exact ⟨(stepped_paths [[66]] (by exact ⟨stepped_of (ls := [(4, l_nat_N_minus__nat_N_Div_4L)]) rfl rfl ⟨by kernel_rfl, fun _ => rfl, l_nat_N_minus__nat_N_Div_4_step, stepsI_end (by kernel_rfl)⟩,  trivial⟩) rfl), (stepped_paths [[66]] (by exact ⟨stepped_of (ls := [(2, l_nat_N_plus__nat_N_Div_2L)]) rfl rfl ⟨by kernel_rfl, fun _ => rfl, l_nat_N_plus__nat_N_Div_2_step, stepsI_end (by kernel_rfl)⟩,  trivial⟩) rfl),  trivial⟩
 have hS : SpecsOk Tryd.prog E_nat_N_Div := specs_ok (by exact ⟨⟨by kernel_rfl, f_nat_N_Mul_holds⟩, ⟨by kernel_rfl, f_nat_N_Cmp_holds⟩, ⟨by kernel_rfl, f_nat_N_trim_holds⟩, ⟨by kernel_rfl, f_nat_N_short_holds⟩, trivial⟩)
 have hE : EOk Tryd.prog E_nat_N_Div := eok_te ok
 exact fn_sound (L := LL_nat_N_Div) hE hS hB (draws_ok hE hS (by kernel_rfl)) hBS (fn := Tryd.f66) (by kernel_rfl) (c := bodyOf Tryd.f66) (by kernel_rfl) (stepped_of (ls := [(7, l_nat_N_Div_7L), (12, l_nat_N_Div_12L), (16, l_nat_N_Div_16L)]) rfl rfl ⟨by kernel_rfl, fun _ => rfl, l_nat_N_Div_7_step, by kernel_rfl, fun _ => rfl, l_nat_N_Div_12_step, by kernel_rfl, fun _ => rfl, l_nat_N_Div_16_step, stepsI_end (by kernel_rfl)⟩) fun x r h => ⟨fuel, (f_nat_N_Div_run fuel x).trans h⟩
noncomputable def E_nat_N_Gcd : Env := { te := te, spec := [(66, S_nat_N_Div)], body := [] }
def l_nat_N_Gcd_1H : Ann := { slots := [(0, .one (.val (.slice (.int .u32)))), (1, .one (.val (.slice (.int .u32))))], objs := [] }
def l_nat_N_Gcd_1X : Ann := { slots := [(0, .one (.val (.slice (.int .u32))))], objs := [] }
def l_nat_N_Gcd_1R : Ann := { slots := [], objs := [] }
def l_nat_N_Gcd_1 : Nat → List Int → List Int → Option (LR l_nat_N_Gcd_1X l_nat_N_Gcd_1R)
 | 0, _, _ => none
 | m + 1, s0, s1 =>
  if decide ((s1.length : Int) > 0) = true then
   (f_nat_N_Div fuel s0 s1).bind fun r1 =>
   l_nat_N_Gcd_1 m s1 r1.2
  else
   some (.exit (s0, ()))
def l_nat_N_Gcd_1L : LSpec := { h := l_nat_N_Gcd_1H, x := l_nat_N_Gcd_1X, r := l_nat_N_Gcd_1R, xid := 0, rt := false, pins := [], f := fun k d => l_nat_N_Gcd_1 k d.1 d.2.1 }
def LL_nat_N_Gcd : Loops := [([65], [(1, l_nat_N_Gcd_1L)])]
def f_nat_N_Gcd (k : Nat) (a0 : List Int) (a1 : List Int) : Option (List Int) :=
 match l_nat_N_Gcd_1 k a0 a1 with
 | none => none
 | some (.exit d1) =>
  some d1.1
 | some (.ret d1) =>
  none
theorem l_nat_N_Gcd_1_step (m : Nat) (d : dens l_nat_N_Gcd_1H.tys) : l_nat_N_Gcd_1L.f (m + 1) d = round E_nat_N_Gcd LL_nat_N_Gcd m [65] 19 (loopN (bodyOf Tryd.f65) 0) l_nat_N_Gcd_1L (l_nat_N_Gcd_1L.f m) d := by kernel_rfl
theorem f_nat_N_Gcd_run (k : Nat) (x : denL [.slice (.int .u32), .slice (.int .u32)]) : runFn E_nat_N_Gcd LL_nat_N_Gcd k 65 Tryd.f65 [.slice (.int .u32), .slice (.int .u32)] [.imm (.slice (.int .u32))] x = f_nat_N_Gcd k x.1 x.2 := by kernel_rfl
noncomputable def S_nat_N_Gcd : Vm.Spec := { ps := [.slice (.int .u32), .slice (.int .u32)], rs := [.imm (.slice (.int .u32))], f := fun x => f_nat_N_Gcd fuel x.1 x.2 }
theorem f_nat_N_Gcd_holds : Vm.Spec.holds Tryd.prog 65 S_nat_N_Gcd := by
 have hB : BodiesOk Tryd.prog E_nat_N_Gcd := bodies_none rfl
 have hBS : BodiesStepped E_nat_N_Gcd LL_nat_N_Gcd := bodies_stepped_none rfl
 have hS : SpecsOk Tryd.prog E_nat_N_Gcd := specs_ok (by exact ⟨⟨by kernel_rfl, f_nat_N_Div_holds⟩, trivial⟩)
 have hE : EOk Tryd.prog E_nat_N_Gcd := eok_te ok
 exact fn_sound (L := LL_nat_N_Gcd) hE hS hB (draws_ok hE hS (by kernel_rfl)) hBS (fn := Tryd.f65) (by kernel_rfl) (c := bodyOf Tryd.f65) (by kernel_rfl) (stepped_of (ls := [(1, l_nat_N_Gcd_1L)]) rfl rfl ⟨by kernel_rfl, fun _ => rfl, l_nat_N_Gcd_1_step, stepsI_end (by kernel_rfl)⟩) fun x r h => ⟨fuel, (f_nat_N_Gcd_run fuel x).trans h⟩
noncomputable def E_nat_Check : Env := { te := te, spec := [], body := [] }
def l_nat_Check_4H : Ann := { slots := [(18, .one (.val (.slice (.int .u8)))), (19, .one (.val (.int .i64))), (20, .one (.val (.int .i64)))], objs := [] }
def l_nat_Check_4X : Ann := { slots := [], objs := [] }
def l_nat_Check_4R : Ann := { slots := [(2, .one (.val (.int .i64)))], objs := [] }
def l_nat_Check_4 : Nat → List Int → Int → Int → Option (LR l_nat_Check_4X l_nat_Check_4R)
 | 0, _, _, _ => none
 | m + 1, s18, s19, s20 =>
  if decide (s20 < s19) = true then
   if (0 : Int) ≤ s20 then
    if s20 < s18.length then
     if decide (s18.getD s20.toNat 0 < 48) = false then
      if decide (s18.getD s20.toNat 0 > 57) = true then
       some (.ret (5, ()))
      else
       l_nat_Check_4 m s18 s19 (IntKind.i64.wrap (s20 + 1))
     else
      some (.ret (5, ()))
    else none
   else none
  else
   some (.exit ())
def l_nat_Check_4L : LSpec := { h := l_nat_Check_4H, x := l_nat_Check_4X, r := l_nat_Check_4R, xid := 0, rt := true, pins := [], f := fun k d => l_nat_Check_4 k d.1 d.2.1 d.2.2.1 }
def LL_nat_Check : Loops := [([69], [(4, l_nat_Check_4L)])]
def f_nat_Check (k : Nat) (a0 : ByteArray) : Option (Int) :=
 if ((a0.toList == (⟨#[]⟩ : ByteArray).toList)) = false then
  if (0 : Int) < (a0.size : Int) then
   if (((a0.data.getD 0 0).toNat : Int) == 48) = true then
    if decide ((a0.size : Int) > 1) = true then
     some 5
    else
     match l_nat_Check_4 k (a0.data.toList.map fun c => (c.toNat : Int)) ((a0.data.toList.map fun c => (c.toNat : Int)).length : Int) 0 with
     | none => none
     | some (.exit d1) =>
      if decide ((a0.size : Int) > 2000) = true then
       some 2
      else
       some 0
     | some (.ret d1) =>
      some d1.1
   else
    match l_nat_Check_4 k (a0.data.toList.map fun c => (c.toNat : Int)) ((a0.data.toList.map fun c => (c.toNat : Int)).length : Int) 0 with
    | none => none
    | some (.exit d2) =>
     if decide ((a0.size : Int) > 2000) = true then
      some 2
     else
      some 0
    | some (.ret d2) =>
     some d2.1
  else none
 else
  some 5
theorem l_nat_Check_4_step (m : Nat) (d : dens l_nat_Check_4H.tys) : l_nat_Check_4L.f (m + 1) d = round E_nat_Check LL_nat_Check m [69] 34 (loopN (bodyOf Tryd.f69) 0) l_nat_Check_4L (l_nat_Check_4L.f m) d := by kernel_rfl
theorem f_nat_Check_run (k : Nat) (x : denL [.str]) : runFn E_nat_Check LL_nat_Check k 69 Tryd.f69 [.str] [.imm (.int .i64)] x = f_nat_Check k x := by kernel_rfl
noncomputable def S_nat_Check : Vm.Spec := { ps := [.str], rs := [.imm (.int .i64)], f := fun x => f_nat_Check fuel x }
theorem f_nat_Check_holds : Vm.Spec.holds Tryd.prog 69 S_nat_Check := by
 have hB : BodiesOk Tryd.prog E_nat_Check := bodies_none rfl
 have hBS : BodiesStepped E_nat_Check LL_nat_Check := bodies_stepped_none rfl
 have hS : SpecsOk Tryd.prog E_nat_Check := specs_ok (by exact trivial)
 have hE : EOk Tryd.prog E_nat_Check := eok_te ok
 exact fn_sound (L := LL_nat_Check) hE hS hB (draws_ok hE hS (by kernel_rfl)) hBS (fn := Tryd.f69) (by kernel_rfl) (c := bodyOf Tryd.f69) (by kernel_rfl) (stepped_of (ls := [(4, l_nat_Check_4L)]) rfl rfl ⟨by kernel_rfl, fun _ => rfl, l_nat_Check_4_step, stepsI_end (by kernel_rfl)⟩) fun x r h => ⟨fuel, (f_nat_Check_run fuel x).trans h⟩
noncomputable def E_rat_Check : Env := { te := te, spec := [(50, S_nat_Of), (60, S_nat_N_Cmp), (62, S_strings_CutPrefix), (63, S_strings_Cut), (64, S_nat_Read), (65, S_nat_N_Gcd), (69, S_nat_Check)], body := [] }
def LL_rat_Check : Loops := []
def f_rat_Check (k : Nat) (a0 : ByteArray) : Option (Int) :=
 (f_strings_CutPrefix fuel a0 (⟨#[45]⟩ : ByteArray)).bind fun r1 =>
 (f_strings_Cut fuel r1.1 (⟨#[47]⟩ : ByteArray)).bind fun r2 =>
 (f_nat_Check fuel r2.1).bind fun r3 =>
 if r2.2.2 = true then
  (f_nat_Check fuel r2.2.1).bind fun r4 =>
  if (r3 == 5) = false then
   if (r4 == 5) = false then
    if r1.2 = true then
     if ((r2.1.toList == (⟨#[48]⟩ : ByteArray).toList)) = true then
      some 5
     else
      if (r3 != 0) = false then
       if (r4 != 0) = true then
        some 2
       else
        if r2.2.2 = true then
         if ((r2.2.1.toList == (⟨#[48]⟩ : ByteArray).toList)) = false then
          if ((r2.2.1.toList == (⟨#[49]⟩ : ByteArray).toList)) = false then
           (f_nat_Read fuel r2.1).bind fun r5 =>
           (f_nat_Read fuel r2.2.1).bind fun r6 =>
           (f_nat_N_Gcd fuel r5 r6).bind fun r7 =>
           (f_nat_Of fuel 1).bind fun r8 =>
           (f_nat_N_Cmp fuel r7 r8).bind fun r9 =>
           if (r9 != 0) = true then
            some 3
           else
            some 0
          else
           some 3
         else
          some 3
        else
         some 0
      else
       some 2
    else
     if (r3 != 0) = false then
      if (r4 != 0) = true then
       some 2
      else
       if r2.2.2 = true then
        if ((r2.2.1.toList == (⟨#[48]⟩ : ByteArray).toList)) = false then
         if ((r2.2.1.toList == (⟨#[49]⟩ : ByteArray).toList)) = false then
          (f_nat_Read fuel r2.1).bind fun r10 =>
          (f_nat_Read fuel r2.2.1).bind fun r11 =>
          (f_nat_N_Gcd fuel r10 r11).bind fun r12 =>
          (f_nat_Of fuel 1).bind fun r13 =>
          (f_nat_N_Cmp fuel r12 r13).bind fun r14 =>
          if (r14 != 0) = true then
           some 3
          else
           some 0
         else
          some 3
        else
         some 3
       else
        some 0
     else
      some 2
   else
    some 5
  else
   some 5
 else
  if (r3 == 5) = false then
   if r1.2 = true then
    if ((r2.1.toList == (⟨#[48]⟩ : ByteArray).toList)) = true then
     some 5
    else
     if (r3 != 0) = false then
      if r2.2.2 = true then
       if ((r2.2.1.toList == (⟨#[48]⟩ : ByteArray).toList)) = false then
        if ((r2.2.1.toList == (⟨#[49]⟩ : ByteArray).toList)) = false then
         (f_nat_Read fuel r2.1).bind fun r15 =>
         (f_nat_Read fuel r2.2.1).bind fun r16 =>
         (f_nat_N_Gcd fuel r15 r16).bind fun r17 =>
         (f_nat_Of fuel 1).bind fun r18 =>
         (f_nat_N_Cmp fuel r17 r18).bind fun r19 =>
         if (r19 != 0) = true then
          some 3
         else
          some 0
        else
         some 3
       else
        some 3
      else
       some 0
     else
      some 2
   else
    if (r3 != 0) = false then
     if r2.2.2 = true then
      if ((r2.2.1.toList == (⟨#[48]⟩ : ByteArray).toList)) = false then
       if ((r2.2.1.toList == (⟨#[49]⟩ : ByteArray).toList)) = false then
        (f_nat_Read fuel r2.1).bind fun r20 =>
        (f_nat_Read fuel r2.2.1).bind fun r21 =>
        (f_nat_N_Gcd fuel r20 r21).bind fun r22 =>
        (f_nat_Of fuel 1).bind fun r23 =>
        (f_nat_N_Cmp fuel r22 r23).bind fun r24 =>
        if (r24 != 0) = true then
         some 3
        else
         some 0
       else
        some 3
      else
       some 3
     else
      some 0
    else
     some 2
  else
   some 5
theorem f_rat_Check_run (k : Nat) (x : denL [.str]) : runFn E_rat_Check LL_rat_Check k 58 Tryd.f58 [.str] [.imm (.int .i64)] x = f_rat_Check k x := by kernel_rfl
noncomputable def S_rat_Check : Vm.Spec := { ps := [.str], rs := [.imm (.int .i64)], f := fun x => f_rat_Check fuel x }
theorem f_rat_Check_holds : Vm.Spec.holds Tryd.prog 58 S_rat_Check := by
 have hB : BodiesOk Tryd.prog E_rat_Check := bodies_none rfl
 have hBS : BodiesStepped E_rat_Check LL_rat_Check := bodies_stepped_none rfl
 have hS : SpecsOk Tryd.prog E_rat_Check := specs_ok (by exact ⟨⟨by kernel_rfl, f_nat_Of_holds⟩, ⟨by kernel_rfl, f_nat_N_Cmp_holds⟩, ⟨by kernel_rfl, f_strings_CutPrefix_holds⟩, ⟨by kernel_rfl, f_strings_Cut_holds⟩, ⟨by kernel_rfl, f_nat_Read_holds⟩, ⟨by kernel_rfl, f_nat_N_Gcd_holds⟩, ⟨by kernel_rfl, f_nat_Check_holds⟩, trivial⟩)
 have hE : EOk Tryd.prog E_rat_Check := eok_te ok
 exact fn_sound (L := LL_rat_Check) hE hS hB (draws_ok hE hS (by kernel_rfl)) hBS (fn := Tryd.f58) (by kernel_rfl) (c := bodyOf Tryd.f58) (by kernel_rfl) (stepped_none rfl) fun x r h => ⟨fuel, (f_rat_Check_run fuel x).trans h⟩
noncomputable def E_rat_CheckAll : Env := { te := te, spec := [(58, S_rat_Check)], body := [] }
def l_rat_CheckAll_2H : Ann := { slots := [(6, .one (.val (.slice .str))), (7, .one (.val (.int .i64))), (8, .one (.val (.int .i64)))], objs := [] }
def l_rat_CheckAll_2X : Ann := { slots := [], objs := [] }
def l_rat_CheckAll_2R : Ann := { slots := [(2, .one (.val (.int .i64)))], objs := [] }
def l_rat_CheckAll_2 : Nat → List ByteArray → Int → Int → Option (LR l_rat_CheckAll_2X l_rat_CheckAll_2R)
 | 0, _, _, _ => none
 | m + 1, s6, s7, s8 =>
  if decide (s8 < s7) = true then
   if (0 : Int) ≤ s8 then
    if s8 < s6.length then
     (f_rat_Check fuel (s6.getD s8.toNat ByteArray.empty)).bind fun r1 =>
     if (r1 != 0) = true then
      some (.ret (r1, ()))
     else
      l_rat_CheckAll_2 m s6 s7 (IntKind.i64.wrap (s8 + 1))
    else none
   else none
  else
   some (.exit ())
def l_rat_CheckAll_2L : LSpec := { h := l_rat_CheckAll_2H, x := l_rat_CheckAll_2X, r := l_rat_CheckAll_2R, xid := 0, rt := true, pins := [], f := fun k d => l_rat_CheckAll_2 k d.1 d.2.1 d.2.2.1 }
def LL_rat_CheckAll : Loops := [([43], [(2, l_rat_CheckAll_2L)])]
def f_rat_CheckAll (k : Nat) (a0 : List ByteArray) : Option (Int) :=
 match l_rat_CheckAll_2 k a0 (a0.length : Int) 0 with
 | none => none
 | some (.exit d1) =>
  some 0
 | some (.ret d1) =>
  some d1.1
theorem l_rat_CheckAll_2_step (m : Nat) (d : dens l_rat_CheckAll_2H.tys) : l_rat_CheckAll_2L.f (m + 1) d = round E_rat_CheckAll LL_rat_CheckAll m [43] 18 (loopN (bodyOf Tryd.f43) 0) l_rat_CheckAll_2L (l_rat_CheckAll_2L.f m) d := by kernel_rfl
theorem f_rat_CheckAll_run (k : Nat) (x : denL [.slice .str]) : runFn E_rat_CheckAll LL_rat_CheckAll k 43 Tryd.f43 [.slice .str] [.imm (.int .i64)] x = f_rat_CheckAll k x := by kernel_rfl
noncomputable def S_rat_CheckAll : Vm.Spec := { ps := [.slice .str], rs := [.imm (.int .i64)], f := fun x => f_rat_CheckAll fuel x }
theorem f_rat_CheckAll_holds : Vm.Spec.holds Tryd.prog 43 S_rat_CheckAll := by
 have hB : BodiesOk Tryd.prog E_rat_CheckAll := bodies_none rfl
 have hBS : BodiesStepped E_rat_CheckAll LL_rat_CheckAll := bodies_stepped_none rfl
 have hS : SpecsOk Tryd.prog E_rat_CheckAll := specs_ok (by exact ⟨⟨by kernel_rfl, f_rat_Check_holds⟩, trivial⟩)
 have hE : EOk Tryd.prog E_rat_CheckAll := eok_te ok
 exact fn_sound (L := LL_rat_CheckAll) hE hS hB (draws_ok hE hS (by kernel_rfl)) hBS (fn := Tryd.f43) (by kernel_rfl) (c := bodyOf Tryd.f43) (by kernel_rfl) (stepped_of (ls := [(2, l_rat_CheckAll_2L)]) rfl rfl ⟨by kernel_rfl, fun _ => rfl, l_rat_CheckAll_2_step, stepsI_end (by kernel_rfl)⟩) fun x r h => ⟨fuel, (f_rat_CheckAll_run fuel x).trans h⟩
noncomputable def E_matrix_CheckVec : Env := { te := te, spec := [(43, S_rat_CheckAll)], body := [] }
def LL_matrix_CheckVec : Loops := []
def f_matrix_CheckVec (k : Nat) (a0 : List ByteArray) : Option (Int) :=
 if decide ((a0.length : Int) > 40) = true then
  some 2
 else
  (f_rat_CheckAll fuel a0).bind fun r1 =>
  some r1
theorem f_matrix_CheckVec_run (k : Nat) (x : denL [.slice .str]) : runFn E_matrix_CheckVec LL_matrix_CheckVec k 16 Tryd.f16 [.slice .str] [.imm (.int .i64)] x = f_matrix_CheckVec k x := by kernel_rfl
noncomputable def S_matrix_CheckVec : Vm.Spec := { ps := [.slice .str], rs := [.imm (.int .i64)], f := fun x => f_matrix_CheckVec fuel x }
theorem f_matrix_CheckVec_holds : Vm.Spec.holds Tryd.prog 16 S_matrix_CheckVec := by
 have hB : BodiesOk Tryd.prog E_matrix_CheckVec := bodies_none rfl
 have hBS : BodiesStepped E_matrix_CheckVec LL_matrix_CheckVec := bodies_stepped_none rfl
 have hS : SpecsOk Tryd.prog E_matrix_CheckVec := specs_ok (by exact ⟨⟨by kernel_rfl, f_rat_CheckAll_holds⟩, trivial⟩)
 have hE : EOk Tryd.prog E_matrix_CheckVec := eok_te ok
 exact fn_sound (L := LL_matrix_CheckVec) hE hS hB (draws_ok hE hS (by kernel_rfl)) hBS (fn := Tryd.f16) (by kernel_rfl) (c := bodyOf Tryd.f16) (by kernel_rfl) (stepped_none rfl) fun x r h => ⟨fuel, (f_matrix_CheckVec_run fuel x).trans h⟩
noncomputable def E_matrix_Check : Env := { te := te, spec := [(16, S_matrix_CheckVec)], body := [] }
def l_matrix_Check_4H : Ann := { slots := [(0, .one (.val (.slice (.slice .str)))), (9, .one (.val (.slice (.slice .str)))), (10, .one (.val (.int .i64))), (11, .one (.val (.int .i64)))], objs := [] }
def l_matrix_Check_4X : Ann := { slots := [], objs := [] }
def l_matrix_Check_4R : Ann := { slots := [(2, .one (.val (.int .i64)))], objs := [] }
def l_matrix_Check_4 : Nat → List (List ByteArray) → List (List ByteArray) → Int → Int → Option (LR l_matrix_Check_4X l_matrix_Check_4R)
 | 0, _, _, _, _ => none
 | m + 1, s0, s9, s10, s11 =>
  if decide (s11 < s10) = true then
   if (0 : Int) ≤ s11 then
    if s11 < s9.length then
     if (0 : Int) < s0.length then
      if (((s9.getD s11.toNat []).length : Int) != ((s0.getD 0 []).length : Int)) = true then
       some (.ret (3, ()))
      else
       (f_matrix_CheckVec fuel (s9.getD s11.toNat [])).bind fun r1 =>
       if (r1 != 0) = true then
        some (.ret (r1, ()))
       else
        l_matrix_Check_4 m s0 s9 s10 (IntKind.i64.wrap (s11 + 1))
     else none
    else none
   else none
  else
   some (.exit ())
def l_matrix_Check_4L : LSpec := { h := l_matrix_Check_4H, x := l_matrix_Check_4X, r := l_matrix_Check_4R, xid := 0, rt := true, pins := [], f := fun k d => l_matrix_Check_4 k d.1 d.2.1 d.2.2.1 d.2.2.2.1 }
def LL_matrix_Check : Loops := [([19], [(4, l_matrix_Check_4L)])]
def f_matrix_Check (k : Nat) (a0 : List (List ByteArray)) : Option (Int) :=
 if decide ((a0.length : Int) > 40) = true then
  some 2
 else
  match l_matrix_Check_4 k a0 a0 (a0.length : Int) 0 with
  | none => none
  | some (.exit d1) =>
   some 0
  | some (.ret d1) =>
   some d1.1
theorem l_matrix_Check_4_step (m : Nat) (d : dens l_matrix_Check_4H.tys) : l_matrix_Check_4L.f (m + 1) d = round E_matrix_Check LL_matrix_Check m [19] 28 (loopN (bodyOf Tryd.f19) 0) l_matrix_Check_4L (l_matrix_Check_4L.f m) d := by kernel_rfl
theorem f_matrix_Check_run (k : Nat) (x : denL [.slice (.slice .str)]) : runFn E_matrix_Check LL_matrix_Check k 19 Tryd.f19 [.slice (.slice .str)] [.imm (.int .i64)] x = f_matrix_Check k x := by kernel_rfl
noncomputable def S_matrix_Check : Vm.Spec := { ps := [.slice (.slice .str)], rs := [.imm (.int .i64)], f := fun x => f_matrix_Check fuel x }
theorem f_matrix_Check_holds : Vm.Spec.holds Tryd.prog 19 S_matrix_Check := by
 have hB : BodiesOk Tryd.prog E_matrix_Check := bodies_none rfl
 have hBS : BodiesStepped E_matrix_Check LL_matrix_Check := bodies_stepped_none rfl
 have hS : SpecsOk Tryd.prog E_matrix_Check := specs_ok (by exact ⟨⟨by kernel_rfl, f_matrix_CheckVec_holds⟩, trivial⟩)
 have hE : EOk Tryd.prog E_matrix_Check := eok_te ok
 exact fn_sound (L := LL_matrix_Check) hE hS hB (draws_ok hE hS (by kernel_rfl)) hBS (fn := Tryd.f19) (by kernel_rfl) (c := bodyOf Tryd.f19) (by kernel_rfl) (stepped_of (ls := [(4, l_matrix_Check_4L)]) rfl rfl ⟨by kernel_rfl, fun _ => rfl, l_matrix_Check_4_step, stepsI_end (by kernel_rfl)⟩) fun x r h => ⟨fuel, (f_matrix_Check_run fuel x).trans h⟩
noncomputable def E_matrix_Width : Env := { te := te, spec := [], body := [] }
def LL_matrix_Width : Loops := []
def f_matrix_Width (k : Nat) (a0 : List (List ByteArray)) : Option (Int) :=
 if ((a0.length : Int) == 0) = true then
  some 0
 else
  if (0 : Int) < a0.length then
   some ((a0.getD 0 []).length : Int)
  else none
theorem f_matrix_Width_run (k : Nat) (x : denL [.slice (.slice .str)]) : runFn E_matrix_Width LL_matrix_Width k 24 Tryd.f24 [.slice (.slice .str)] [.imm (.int .i64)] x = f_matrix_Width k x := by kernel_rfl
noncomputable def S_matrix_Width : Vm.Spec := { ps := [.slice (.slice .str)], rs := [.imm (.int .i64)], f := fun x => f_matrix_Width fuel x }
theorem f_matrix_Width_holds : Vm.Spec.holds Tryd.prog 24 S_matrix_Width := by
 have hB : BodiesOk Tryd.prog E_matrix_Width := bodies_none rfl
 have hBS : BodiesStepped E_matrix_Width LL_matrix_Width := bodies_stepped_none rfl
 have hS : SpecsOk Tryd.prog E_matrix_Width := specs_ok (by exact trivial)
 have hE : EOk Tryd.prog E_matrix_Width := eok_te ok
 exact fn_sound (L := LL_matrix_Width) hE hS hB (draws_ok hE hS (by kernel_rfl)) hBS (fn := Tryd.f24) (by kernel_rfl) (c := bodyOf Tryd.f24) (by kernel_rfl) (stepped_none rfl) fun x r h => ⟨fuel, (f_matrix_Width_run fuel x).trans h⟩
noncomputable def E_matrix_turned : Env := { te := te, spec := [], body := [] }
def l_matrix_turned_8H : Ann := { slots := [(3, .one (.own 60 (.slice (.pair .bool (.pair (.slice (.int .u32)) (.slice (.int .u32))))))), (22, .one (.val (.slice (.pair .bool (.pair (.slice (.int .u32)) (.slice (.int .u32))))))), (23, .one (.val (.int .i64))), (24, .one (.val (.int .i64)))], objs := [(60, .grid (.pair .bool (.pair (.slice (.int .u32)) (.slice (.int .u32)))))] }
def l_matrix_turned_8X : Ann := { slots := [(3, .one (.own 60 (.slice (.pair .bool (.pair (.slice (.int .u32)) (.slice (.int .u32)))))))], objs := [(60, .grid (.pair .bool (.pair (.slice (.int .u32)) (.slice (.int .u32)))))] }
def l_matrix_turned_8R : Ann := { slots := [], objs := [] }
def l_matrix_turned_5H : Ann := { slots := [(3, .one (.own 60 (.slice (.pair .bool (.pair (.slice (.int .u32)) (.slice (.int .u32))))))), (16, .one (.val (.slice (.slice (.pair .bool (.pair (.slice (.int .u32)) (.slice (.int .u32)))))))), (17, .one (.val (.int .i64))), (18, .one (.val (.int .i64)))], objs := [(60, .grid (.pair .bool (.pair (.slice (.int .u32)) (.slice (.int .u32)))))] }
def l_matrix_turned_5X : Ann := { slots := [(3, .one (.own 60 (.slice (.pair .bool (.pair (.slice (.int .u32)) (.slice (.int .u32)))))))], objs := [(60, .grid (.pair .bool (.pair (.slice (.int .u32)) (.slice (.int .u32)))))] }
def l_matrix_turned_5R : Ann := { slots := [], objs := [] }
def l_matrix_turned_8 : Nat → List (Bool × ((List Int) × (List Int))) → Int → Int → List (List (Bool × ((List Int) × (List Int)))) → Option (LR l_matrix_turned_8X l_matrix_turned_8R)
 | 0, _, _, _, _ => none
 | m + 1, s22, s23, s24, b60 =>
  if decide (s24 < s23) = true then
   if (0 : Int) ≤ s24 then
    if s24 < s22.length then
     if (0 : Int) ≤ s24 then
      if s24 < b60.length then
       if ((b60.getD s24.toNat []).length + 1) * 56 ≤ 140737488355328 then
        if (0 : Int) ≤ s24 then
         if s24 < b60.length then
          if s24.toNat = s24.toNat then
           l_matrix_turned_8 m s22 s23 (IntKind.i64.wrap (s24 + 1)) (b60.set s24.toNat ((b60.getD s24.toNat []) ++ [((s22.getD s24.toNat (false, ([], []))).1, ((s22.getD s24.toNat (false, ([], []))).2))]))
          else none
         else none
        else none
       else none
      else none
     else none
    else none
   else none
  else
   some (.exit (b60, ()))
def l_matrix_turned_8L : LSpec := { h := l_matrix_turned_8H, x := l_matrix_turned_8X, r := l_matrix_turned_8R, xid := 2, rt := false, pins := [60], f := fun k d => l_matrix_turned_8 k d.1 d.2.1 d.2.2.1 d.2.2.2.1 }
def l_matrix_turned_5 : Nat → List (List (Bool × ((List Int) × (List Int)))) → Int → Int → List (List (Bool × ((List Int) × (List Int)))) → Option (LR l_matrix_turned_5X l_matrix_turned_5R)
 | 0, _, _, _, _ => none
 | m + 1, s16, s17, s18, b60 =>
  if decide (s18 < s17) = true then
   if (0 : Int) ≤ s18 then
    if s18 < s16.length then
     match l_matrix_turned_8 m (s16.getD s18.toNat []) ((s16.getD s18.toNat []).length : Int) 0 b60 with
     | none => none
     | some (.exit d1) =>
      l_matrix_turned_5 m s16 s17 (IntKind.i64.wrap (s18 + 1)) d1.1
     | some (.ret d1) =>
      none
    else none
   else none
  else
   some (.exit (b60, ()))
def l_matrix_turned_5L : LSpec := { h := l_matrix_turned_5H, x := l_matrix_turned_5X, r := l_matrix_turned_5R, xid := 0, rt := false, pins := [60], f := fun k d => l_matrix_turned_5 k d.1 d.2.1 d.2.2.1 d.2.2.2.1 }
def LL_matrix_turned : Loops := [([25], [(5, l_matrix_turned_5L), (8, l_matrix_turned_8L)])]
def f_matrix_turned (k : Nat) (a0 : List (List (Bool × ((List Int) × (List Int))))) : Option (List (List (Bool × ((List Int) × (List Int))))) :=
 if ((a0.length : Int) == 0) = true then
  some []
 else
  if (0 : Int) < a0.length then
   if (0 : Int) ≤ ((a0.getD 0 []).length : Int) then
    if ((a0.getD 0 []).length : Int) ≤ ((a0.getD 0 []).length : Int) then
     if ((a0.getD 0 []).length : Int) * 24 ≤ 281474976710656 then
      match l_matrix_turned_5 k a0 (a0.length : Int) 0 (List.replicate (((a0.getD 0 []).length : Int).toNat) []) with
      | none => none
      | some (.exit d1) =>
       some d1.1
      | some (.ret d1) =>
       none
     else none
    else none
   else none
  else none
theorem l_matrix_turned_8_step (m : Nat) (d : dens l_matrix_turned_8H.tys) : l_matrix_turned_8L.f (m + 1) d = round E_matrix_turned LL_matrix_turned m [25] 42 (loopN (bodyOf Tryd.f25) 1) l_matrix_turned_8L (l_matrix_turned_8L.f m) d := by kernel_rfl
theorem l_matrix_turned_5_step (m : Nat) (d : dens l_matrix_turned_5H.tys) : l_matrix_turned_5L.f (m + 1) d = round E_matrix_turned LL_matrix_turned m [25] 42 (loopN (bodyOf Tryd.f25) 0) l_matrix_turned_5L (l_matrix_turned_5L.f m) d := by kernel_rfl
theorem f_matrix_turned_run (k : Nat) (x : denL [.slice (.slice (.pair .bool (.pair (.slice (.int .u32)) (.slice (.int .u32)))))]) : runFn E_matrix_turned LL_matrix_turned k 25 Tryd.f25 [.slice (.slice (.pair .bool (.pair (.slice (.int .u32)) (.slice (.int .u32)))))] [.imm (.slice (.slice (.pair .bool (.pair (.slice (.int .u32)) (.slice (.int .u32))))))] x = f_matrix_turned k x := by kernel_rfl
noncomputable def S_matrix_turned : Vm.Spec := { ps := [.slice (.slice (.pair .bool (.pair (.slice (.int .u32)) (.slice (.int .u32)))))], rs := [.imm (.slice (.slice (.pair .bool (.pair (.slice (.int .u32)) (.slice (.int .u32))))))], f := fun x => f_matrix_turned fuel x }
theorem f_matrix_turned_holds : Vm.Spec.holds Tryd.prog 25 S_matrix_turned := by
 have hB : BodiesOk Tryd.prog E_matrix_turned := bodies_none rfl
 have hBS : BodiesStepped E_matrix_turned LL_matrix_turned := bodies_stepped_none rfl
 have hS : SpecsOk Tryd.prog E_matrix_turned := specs_ok (by exact trivial)
 have hE : EOk Tryd.prog E_matrix_turned := eok_te ok
 exact fn_sound (L := LL_matrix_turned) hE hS hB (draws_ok hE hS (by kernel_rfl)) hBS (fn := Tryd.f25) (by kernel_rfl) (c := bodyOf Tryd.f25) (by kernel_rfl) (stepped_of (ls := [(5, l_matrix_turned_5L), (8, l_matrix_turned_8L)]) rfl rfl ⟨by kernel_rfl, fun _ => rfl, l_matrix_turned_5_step, by kernel_rfl, fun _ => rfl, l_matrix_turned_8_step, stepsI_end (by kernel_rfl)⟩) fun x r h => ⟨fuel, (f_matrix_turned_run fuel x).trans h⟩
noncomputable def E_rat_In : Env := { te := te, spec := [(50, S_nat_Of), (62, S_strings_CutPrefix), (63, S_strings_Cut), (64, S_nat_Read)], body := [] }
def LL_rat_In : Loops := []
def f_rat_In (k : Nat) (a0 : ByteArray) : Option (Bool × ((List Int) × (List Int))) :=
 (f_strings_CutPrefix fuel a0 (⟨#[45]⟩ : ByteArray)).bind fun r1 =>
 (f_strings_Cut fuel r1.1 (⟨#[47]⟩ : ByteArray)).bind fun r2 =>
 (f_nat_Read fuel r2.1).bind fun r3 =>
 (f_nat_Of fuel 1).bind fun r4 =>
 if r2.2.2 = true then
  (f_nat_Read fuel r2.2.1).bind fun r5 =>
  some (r1.2, (r3, r5))
 else
  some (r1.2, (r3, r4))
theorem f_rat_In_run (k : Nat) (x : denL [.str]) : runFn E_rat_In LL_rat_In k 48 Tryd.f48 [.str] [.imm (.pair .bool (.pair (.slice (.int .u32)) (.slice (.int .u32))))] x = f_rat_In k x := by kernel_rfl
noncomputable def S_rat_In : Vm.Spec := { ps := [.str], rs := [.imm (.pair .bool (.pair (.slice (.int .u32)) (.slice (.int .u32))))], f := fun x => f_rat_In fuel x }
theorem f_rat_In_holds : Vm.Spec.holds Tryd.prog 48 S_rat_In := by
 have hB : BodiesOk Tryd.prog E_rat_In := bodies_none rfl
 have hBS : BodiesStepped E_rat_In LL_rat_In := bodies_stepped_none rfl
 have hS : SpecsOk Tryd.prog E_rat_In := specs_ok (by exact ⟨⟨by kernel_rfl, f_nat_Of_holds⟩, ⟨by kernel_rfl, f_strings_CutPrefix_holds⟩, ⟨by kernel_rfl, f_strings_Cut_holds⟩, ⟨by kernel_rfl, f_nat_Read_holds⟩, trivial⟩)
 have hE : EOk Tryd.prog E_rat_In := eok_te ok
 exact fn_sound (L := LL_rat_In) hE hS hB (draws_ok hE hS (by kernel_rfl)) hBS (fn := Tryd.f48) (by kernel_rfl) (c := bodyOf Tryd.f48) (by kernel_rfl) (stepped_none rfl) fun x r h => ⟨fuel, (f_rat_In_run fuel x).trans h⟩
noncomputable def E_matrix_Row : Env := { te := te, spec := [(48, S_rat_In)], body := [] }
def l_matrix_Row_3H : Ann := { slots := [(3, .one (.own 64 (.pair .bool (.pair (.slice (.int .u32)) (.slice (.int .u32)))))), (6, .one (.val (.slice .str))), (7, .one (.val (.int .i64))), (8, .one (.val (.int .i64)))], objs := [(64, .buf (.pair .bool (.pair (.slice (.int .u32)) (.slice (.int .u32)))))] }
def l_matrix_Row_3X : Ann := { slots := [(3, .one (.own 64 (.pair .bool (.pair (.slice (.int .u32)) (.slice (.int .u32))))))], objs := [(64, .buf (.pair .bool (.pair (.slice (.int .u32)) (.slice (.int .u32)))))] }
def l_matrix_Row_3R : Ann := { slots := [], objs := [] }
def l_matrix_Row_3 : Nat → List ByteArray → Int → Int → List (Bool × ((List Int) × (List Int))) → Option (LR l_matrix_Row_3X l_matrix_Row_3R)
 | 0, _, _, _, _ => none
 | m + 1, s6, s7, s8, b64 =>
  if decide (s8 < s7) = true then
   if (0 : Int) ≤ s8 then
    if s8 < s6.length then
     (f_rat_In fuel (s6.getD s8.toNat ByteArray.empty)).bind fun r1 =>
     if (b64.length + 1) * 56 ≤ 140737488355328 then
      l_matrix_Row_3 m s6 s7 (IntKind.i64.wrap (s8 + 1)) (b64 ++ [r1])
     else none
    else none
   else none
  else
   some (.exit (b64, ()))
def l_matrix_Row_3L : LSpec := { h := l_matrix_Row_3H, x := l_matrix_Row_3X, r := l_matrix_Row_3R, xid := 0, rt := false, pins := [], f := fun k d => l_matrix_Row_3 k d.1 d.2.1 d.2.2.1 d.2.2.2.1 }
def LL_matrix_Row : Loops := [([33], [(3, l_matrix_Row_3L)])]
def f_matrix_Row (k : Nat) (a0 : List ByteArray) : Option (List (Bool × ((List Int) × (List Int)))) :=
 match l_matrix_Row_3 k a0 (a0.length : Int) 0 [] with
 | none => none
 | some (.exit d1) =>
  some d1.1
 | some (.ret d1) =>
  none
theorem l_matrix_Row_3_step (m : Nat) (d : dens l_matrix_Row_3H.tys) : l_matrix_Row_3L.f (m + 1) d = round E_matrix_Row LL_matrix_Row m [33] 19 (loopN (bodyOf Tryd.f33) 0) l_matrix_Row_3L (l_matrix_Row_3L.f m) d := by kernel_rfl
theorem f_matrix_Row_run (k : Nat) (x : denL [.slice .str]) : runFn E_matrix_Row LL_matrix_Row k 33 Tryd.f33 [.slice .str] [.fresh (.pair .bool (.pair (.slice (.int .u32)) (.slice (.int .u32))))] x = f_matrix_Row k x := by kernel_rfl
noncomputable def S_matrix_Row : Vm.Spec := { ps := [.slice .str], rs := [.fresh (.pair .bool (.pair (.slice (.int .u32)) (.slice (.int .u32))))], f := fun x => f_matrix_Row fuel x }
theorem f_matrix_Row_holds : Vm.Spec.holds Tryd.prog 33 S_matrix_Row := by
 have hB : BodiesOk Tryd.prog E_matrix_Row := bodies_none rfl
 have hBS : BodiesStepped E_matrix_Row LL_matrix_Row := bodies_stepped_none rfl
 have hS : SpecsOk Tryd.prog E_matrix_Row := specs_ok (by exact ⟨⟨by kernel_rfl, f_rat_In_holds⟩, trivial⟩)
 have hE : EOk Tryd.prog E_matrix_Row := eok_te ok
 exact fn_sound (L := LL_matrix_Row) hE hS hB (draws_ok hE hS (by kernel_rfl)) hBS (fn := Tryd.f33) (by kernel_rfl) (c := bodyOf Tryd.f33) (by kernel_rfl) (stepped_of (ls := [(3, l_matrix_Row_3L)]) rfl rfl ⟨by kernel_rfl, fun _ => rfl, l_matrix_Row_3_step, stepsI_end (by kernel_rfl)⟩) fun x r h => ⟨fuel, (f_matrix_Row_run fuel x).trans h⟩
noncomputable def E_rat_low : Env := { te := te, spec := [(50, S_nat_Of), (60, S_nat_N_Cmp), (65, S_nat_N_Gcd), (66, S_nat_N_Div)], body := [] }
def LL_rat_low : Loops := []
def f_rat_low (k : Nat) (a0 : Bool) (a1 : List Int) (a2 : List Int) : Option (Bool × ((List Int) × (List Int))) :=
 if ((a1.length : Int) == 0) = true then
  some (false, ([], []))
 else
  (f_nat_N_Gcd fuel a1 a2).bind fun r1 =>
  (f_nat_Of fuel 1).bind fun r2 =>
  (f_nat_N_Cmp fuel r1 r2).bind fun r3 =>
  if decide (r3 > 0) = true then
   (f_nat_N_Div fuel a1 r1).bind fun r4 =>
   (f_nat_N_Div fuel a2 r1).bind fun r5 =>
   some (a0, (r4.1, r5.1))
  else
   some (a0, (a1, a2))
theorem f_rat_low_run (k : Nat) (x : denL [.bool, .slice (.int .u32), .slice (.int .u32)]) : runFn E_rat_low LL_rat_low k 51 Tryd.f51 [.bool, .slice (.int .u32), .slice (.int .u32)] [.imm (.pair .bool (.pair (.slice (.int .u32)) (.slice (.int .u32))))] x = f_rat_low k x.1 x.2.1 x.2.2 := by kernel_rfl
noncomputable def S_rat_low : Vm.Spec := { ps := [.bool, .slice (.int .u32), .slice (.int .u32)], rs := [.imm (.pair .bool (.pair (.slice (.int .u32)) (.slice (.int .u32))))], f := fun x => f_rat_low fuel x.1 x.2.1 x.2.2 }
theorem f_rat_low_holds : Vm.Spec.holds Tryd.prog 51 S_rat_low := by
 have hB : BodiesOk Tryd.prog E_rat_low := bodies_none rfl
 have hBS : BodiesStepped E_rat_low LL_rat_low := bodies_stepped_none rfl
 have hS : SpecsOk Tryd.prog E_rat_low := specs_ok (by exact ⟨⟨by kernel_rfl, f_nat_Of_holds⟩, ⟨by kernel_rfl, f_nat_N_Cmp_holds⟩, ⟨by kernel_rfl, f_nat_N_Gcd_holds⟩, ⟨by kernel_rfl, f_nat_N_Div_holds⟩, trivial⟩)
 have hE : EOk Tryd.prog E_rat_low := eok_te ok
 exact fn_sound (L := LL_rat_low) hE hS hB (draws_ok hE hS (by kernel_rfl)) hBS (fn := Tryd.f51) (by kernel_rfl) (c := bodyOf Tryd.f51) (by kernel_rfl) (stepped_none rfl) fun x r h => ⟨fuel, (f_rat_low_run fuel x).trans h⟩
noncomputable def E_rat_Q_whole : Env := { te := te, spec := [(50, S_nat_Of)], body := [] }
def LL_rat_Q_whole : Loops := []
def f_rat_Q_whole (k : Nat) (a0 : Bool × ((List Int) × (List Int))) : Option (List Int) :=
 if ((a0.2.2.length : Int) == 0) = true then
  (f_nat_Of fuel 1).bind fun r1 =>
  some r1
 else
  some a0.2.2
theorem f_rat_Q_whole_run (k : Nat) (x : denL [.pair .bool (.pair (.slice (.int .u32)) (.slice (.int .u32)))]) : runFn E_rat_Q_whole LL_rat_Q_whole k 53 Tryd.f53 [.pair .bool (.pair (.slice (.int .u32)) (.slice (.int .u32)))] [.imm (.slice (.int .u32))] x = f_rat_Q_whole k x := by kernel_rfl
noncomputable def S_rat_Q_whole : Vm.Spec := { ps := [.pair .bool (.pair (.slice (.int .u32)) (.slice (.int .u32)))], rs := [.imm (.slice (.int .u32))], f := fun x => f_rat_Q_whole fuel x }
theorem f_rat_Q_whole_holds : Vm.Spec.holds Tryd.prog 53 S_rat_Q_whole := by
 have hB : BodiesOk Tryd.prog E_rat_Q_whole := bodies_none rfl
 have hBS : BodiesStepped E_rat_Q_whole LL_rat_Q_whole := bodies_stepped_none rfl
 have hS : SpecsOk Tryd.prog E_rat_Q_whole := specs_ok (by exact ⟨⟨by kernel_rfl, f_nat_Of_holds⟩, trivial⟩)
 have hE : EOk Tryd.prog E_rat_Q_whole := eok_te ok
 exact fn_sound (L := LL_rat_Q_whole) hE hS hB (draws_ok hE hS (by kernel_rfl)) hBS (fn := Tryd.f53) (by kernel_rfl) (c := bodyOf Tryd.f53) (by kernel_rfl) (stepped_none rfl) fun x r h => ⟨fuel, (f_rat_Q_whole_run fuel x).trans h⟩
noncomputable def E_rat_Q_Mul : Env := { te := te, spec := [(51, S_rat_low), (52, S_nat_N_Mul), (53, S_rat_Q_whole)], body := [] }
def LL_rat_Q_Mul : Loops := []
def f_rat_Q_Mul (k : Nat) (a0 : Bool × ((List Int) × (List Int))) (a1 : Bool × ((List Int) × (List Int))) : Option (Bool × ((List Int) × (List Int))) :=
 if ((a0.2.1.length : Int) == 0) = false then
  if ((a1.2.1.length : Int) == 0) = true then
   some (false, ([], []))
  else
   (f_nat_N_Mul fuel a0.2.1 a1.2.1).bind fun r1 =>
   (f_rat_Q_whole fuel a0).bind fun r2 =>
   (f_rat_Q_whole fuel a1).bind fun r3 =>
   (f_nat_N_Mul fuel r2 r3).bind fun r4 =>
   (f_rat_low fuel (!(a0.1 == a1.1)) r1 r4).bind fun r5 =>
   some r5
 else
  some (false, ([], []))
theorem f_rat_Q_Mul_run (k : Nat) (x : denL [.pair .bool (.pair (.slice (.int .u32)) (.slice (.int .u32))), .pair .bool (.pair (.slice (.int .u32)) (.slice (.int .u32)))]) : runFn E_rat_Q_Mul LL_rat_Q_Mul k 39 Tryd.f39 [.pair .bool (.pair (.slice (.int .u32)) (.slice (.int .u32))), .pair .bool (.pair (.slice (.int .u32)) (.slice (.int .u32)))] [.imm (.pair .bool (.pair (.slice (.int .u32)) (.slice (.int .u32))))] x = f_rat_Q_Mul k x.1 x.2 := by kernel_rfl
noncomputable def S_rat_Q_Mul : Vm.Spec := { ps := [.pair .bool (.pair (.slice (.int .u32)) (.slice (.int .u32))), .pair .bool (.pair (.slice (.int .u32)) (.slice (.int .u32)))], rs := [.imm (.pair .bool (.pair (.slice (.int .u32)) (.slice (.int .u32))))], f := fun x => f_rat_Q_Mul fuel x.1 x.2 }
theorem f_rat_Q_Mul_holds : Vm.Spec.holds Tryd.prog 39 S_rat_Q_Mul := by
 have hB : BodiesOk Tryd.prog E_rat_Q_Mul := bodies_none rfl
 have hBS : BodiesStepped E_rat_Q_Mul LL_rat_Q_Mul := bodies_stepped_none rfl
 have hS : SpecsOk Tryd.prog E_rat_Q_Mul := specs_ok (by exact ⟨⟨by kernel_rfl, f_rat_low_holds⟩, ⟨by kernel_rfl, f_nat_N_Mul_holds⟩, ⟨by kernel_rfl, f_rat_Q_whole_holds⟩, trivial⟩)
 have hE : EOk Tryd.prog E_rat_Q_Mul := eok_te ok
 exact fn_sound (L := LL_rat_Q_Mul) hE hS hB (draws_ok hE hS (by kernel_rfl)) hBS (fn := Tryd.f39) (by kernel_rfl) (c := bodyOf Tryd.f39) (by kernel_rfl) (stepped_none rfl) fun x r h => ⟨fuel, (f_rat_Q_Mul_run fuel x).trans h⟩
noncomputable def E_nat_N_Add : Env := { te := te, spec := [], body := [] }
def l_nat_N_Add_6H : Ann := { slots := [(1, .one (.val (.slice (.int .u32)))), (5, .one (.own 76 (.int .u32))), (6, .one (.val (.int .u32))), (20, .one (.val (.slice (.int .u32)))), (21, .one (.val (.int .i64))), (22, .one (.val (.int .i64)))], objs := [(76, .buf (.int .u32))] }
def l_nat_N_Add_6X : Ann := { slots := [(5, .one (.own 76 (.int .u32))), (6, .one (.val (.int .u32)))], objs := [(76, .buf (.int .u32))] }
def l_nat_N_Add_6R : Ann := { slots := [], objs := [] }
def l_nat_N_Add_6 : Nat → List Int → Int → List Int → Int → Int → List Int → Option (LR l_nat_N_Add_6X l_nat_N_Add_6R)
 | 0, _, _, _, _, _, _ => none
 | m + 1, s1, s6, s20, s21, s22, b76 =>
  if decide (s22 < s21) = true then
   if (0 : Int) ≤ s22 then
    if s22 < s20.length then
     if decide (s22 < (s1.length : Int)) = true then
      if (0 : Int) ≤ s22 then
       if s22 < s1.length then
        if (b76.length + 1) * 4 ≤ 140737488355328 then
         l_nat_N_Add_6 m s1 (IntKind.u32.wrap ((IntKind.u32.wrap ((IntKind.u32.wrap ((s20.getD s22.toNat 0) + s6)) + (s1.getD s22.toNat 0))).tdiv 1000000000)) s20 s21 (IntKind.i64.wrap (s22 + 1)) (b76 ++ [(IntKind.u32.wrap ((IntKind.u32.wrap ((s20.getD s22.toNat 0) + s6)) + (s1.getD s22.toNat 0))).tmod 1000000000])
        else none
       else none
      else none
     else
      if (b76.length + 1) * 4 ≤ 140737488355328 then
       l_nat_N_Add_6 m s1 (IntKind.u32.wrap ((IntKind.u32.wrap ((s20.getD s22.toNat 0) + s6)).tdiv 1000000000)) s20 s21 (IntKind.i64.wrap (s22 + 1)) (b76 ++ [(IntKind.u32.wrap ((s20.getD s22.toNat 0) + s6)).tmod 1000000000])
      else none
    else none
   else none
  else
   some (.exit (s6, b76, ()))
def l_nat_N_Add_6L : LSpec := { h := l_nat_N_Add_6H, x := l_nat_N_Add_6X, r := l_nat_N_Add_6R, xid := 0, rt := false, pins := [], f := fun k d => l_nat_N_Add_6 k d.1 d.2.1 d.2.2.1 d.2.2.2.1 d.2.2.2.2.1 d.2.2.2.2.2.1 }
def LL_nat_N_Add : Loops := [([59], [(6, l_nat_N_Add_6L)])]
def f_nat_N_Add (k : Nat) (a0 : List Int) (a1 : List Int) : Option (List Int) :=
 if decide ((a0.length : Int) < (a1.length : Int)) = true then
  if (0 : Int) ≤ IntKind.i64.wrap ((a1.length : Int) + 1) then
   if (IntKind.i64.wrap ((a1.length : Int) + 1)) * 4 ≤ 281474976710656 then
    match l_nat_N_Add_6 k a0 0 a1 (a1.length : Int) 0 (List.replicate 0 0) with
    | none => none
    | some (.exit d1) =>
     if decide (d1.1 > 0) = true then
      if (d1.2.1.length + 1) * 4 ≤ 140737488355328 then
       some (d1.2.1 ++ [d1.1])
      else none
     else
      some d1.2.1
    | some (.ret d1) =>
     none
   else none
  else none
 else
  if (0 : Int) ≤ IntKind.i64.wrap ((a0.length : Int) + 1) then
   if (IntKind.i64.wrap ((a0.length : Int) + 1)) * 4 ≤ 281474976710656 then
    match l_nat_N_Add_6 k a1 0 a0 (a0.length : Int) 0 (List.replicate 0 0) with
    | none => none
    | some (.exit d2) =>
     if decide (d2.1 > 0) = true then
      if (d2.2.1.length + 1) * 4 ≤ 140737488355328 then
       some (d2.2.1 ++ [d2.1])
      else none
     else
      some d2.2.1
    | some (.ret d2) =>
     none
   else none
  else none
theorem l_nat_N_Add_6_step (m : Nat) (d : dens l_nat_N_Add_6H.tys) : l_nat_N_Add_6L.f (m + 1) d = round E_nat_N_Add LL_nat_N_Add m [59] 55 (loopN (bodyOf Tryd.f59) 0) l_nat_N_Add_6L (l_nat_N_Add_6L.f m) d := by kernel_rfl
theorem f_nat_N_Add_run (k : Nat) (x : denL [.slice (.int .u32), .slice (.int .u32)]) : runFn E_nat_N_Add LL_nat_N_Add k 59 Tryd.f59 [.slice (.int .u32), .slice (.int .u32)] [.fresh (.int .u32)] x = f_nat_N_Add k x.1 x.2 := by kernel_rfl
noncomputable def S_nat_N_Add : Vm.Spec := { ps := [.slice (.int .u32), .slice (.int .u32)], rs := [.fresh (.int .u32)], f := fun x => f_nat_N_Add fuel x.1 x.2 }
theorem f_nat_N_Add_holds : Vm.Spec.holds Tryd.prog 59 S_nat_N_Add := by
 have hB : BodiesOk Tryd.prog E_nat_N_Add := bodies_none rfl
 have hBS : BodiesStepped E_nat_N_Add LL_nat_N_Add := bodies_stepped_none rfl
 have hS : SpecsOk Tryd.prog E_nat_N_Add := specs_ok (by exact trivial)
 have hE : EOk Tryd.prog E_nat_N_Add := eok_te ok
 exact fn_sound (L := LL_nat_N_Add) hE hS hB (draws_ok hE hS (by kernel_rfl)) hBS (fn := Tryd.f59) (by kernel_rfl) (c := bodyOf Tryd.f59) (by kernel_rfl) (stepped_of (ls := [(6, l_nat_N_Add_6L)]) rfl rfl ⟨by kernel_rfl, fun _ => rfl, l_nat_N_Add_6_step, stepsI_end (by kernel_rfl)⟩) fun x r h => ⟨fuel, (f_nat_N_Add_run fuel x).trans h⟩
noncomputable def E_rat_Q_Add : Env := { te := te, spec := [(51, S_rat_low), (52, S_nat_N_Mul), (53, S_rat_Q_whole), (59, S_nat_N_Add), (60, S_nat_N_Cmp), (61, S_nat_N_Sub)], body := [] }
def LL_rat_Q_Add : Loops := []
def f_rat_Q_Add (k : Nat) (a0 : Bool × ((List Int) × (List Int))) (a1 : Bool × ((List Int) × (List Int))) : Option (Bool × ((List Int) × (List Int))) :=
 if ((a0.2.1.length : Int) == 0) = true then
  some a1
 else
  if ((a1.2.1.length : Int) == 0) = true then
   some a0
  else
   (f_rat_Q_whole fuel a1).bind fun r1 =>
   (f_nat_N_Mul fuel a0.2.1 r1).bind fun r2 =>
   (f_rat_Q_whole fuel a0).bind fun r3 =>
   (f_nat_N_Mul fuel a1.2.1 r3).bind fun r4 =>
   (f_rat_Q_whole fuel a0).bind fun r5 =>
   (f_rat_Q_whole fuel a1).bind fun r6 =>
   (f_nat_N_Mul fuel r5 r6).bind fun r7 =>
   if (a0.1 == a1.1) = true then
    (f_nat_N_Add fuel r2 r4).bind fun r8 =>
    (f_rat_low fuel a0.1 r8 r7).bind fun r9 =>
    some r9
   else
    (f_nat_N_Cmp fuel r2 r4).bind fun r10 =>
    if decide (r10 ≥ 0) = true then
     (f_nat_N_Sub fuel r2 r4).bind fun r11 =>
     (f_rat_low fuel a0.1 r11 r7).bind fun r12 =>
     some r12
    else
     (f_nat_N_Sub fuel r4 r2).bind fun r13 =>
     (f_rat_low fuel a1.1 r13 r7).bind fun r14 =>
     some r14
theorem f_rat_Q_Add_run (k : Nat) (x : denL [.pair .bool (.pair (.slice (.int .u32)) (.slice (.int .u32))), .pair .bool (.pair (.slice (.int .u32)) (.slice (.int .u32)))]) : runFn E_rat_Q_Add LL_rat_Q_Add k 46 Tryd.f46 [.pair .bool (.pair (.slice (.int .u32)) (.slice (.int .u32))), .pair .bool (.pair (.slice (.int .u32)) (.slice (.int .u32)))] [.imm (.pair .bool (.pair (.slice (.int .u32)) (.slice (.int .u32))))] x = f_rat_Q_Add k x.1 x.2 := by kernel_rfl
noncomputable def S_rat_Q_Add : Vm.Spec := { ps := [.pair .bool (.pair (.slice (.int .u32)) (.slice (.int .u32))), .pair .bool (.pair (.slice (.int .u32)) (.slice (.int .u32)))], rs := [.imm (.pair .bool (.pair (.slice (.int .u32)) (.slice (.int .u32))))], f := fun x => f_rat_Q_Add fuel x.1 x.2 }
theorem f_rat_Q_Add_holds : Vm.Spec.holds Tryd.prog 46 S_rat_Q_Add := by
 have hB : BodiesOk Tryd.prog E_rat_Q_Add := bodies_none rfl
 have hBS : BodiesStepped E_rat_Q_Add LL_rat_Q_Add := bodies_stepped_none rfl
 have hS : SpecsOk Tryd.prog E_rat_Q_Add := specs_ok (by exact ⟨⟨by kernel_rfl, f_rat_low_holds⟩, ⟨by kernel_rfl, f_nat_N_Mul_holds⟩, ⟨by kernel_rfl, f_rat_Q_whole_holds⟩, ⟨by kernel_rfl, f_nat_N_Add_holds⟩, ⟨by kernel_rfl, f_nat_N_Cmp_holds⟩, ⟨by kernel_rfl, f_nat_N_Sub_holds⟩, trivial⟩)
 have hE : EOk Tryd.prog E_rat_Q_Add := eok_te ok
 exact fn_sound (L := LL_rat_Q_Add) hE hS hB (draws_ok hE hS (by kernel_rfl)) hBS (fn := Tryd.f46) (by kernel_rfl) (c := bodyOf Tryd.f46) (by kernel_rfl) (stepped_none rfl) fun x r h => ⟨fuel, (f_rat_Q_Add_run fuel x).trans h⟩
noncomputable def E_matrix_product : Env := { te := te, spec := [(39, S_rat_Q_Mul), (46, S_rat_Q_Add)], body := [] }
def l_matrix_product_3H : Ann := { slots := [(1, .one (.val (.slice (.pair .bool (.pair (.slice (.int .u32)) (.slice (.int .u32))))))), (5, .one (.fix (.pbox 20 0))), (8, .one (.val (.slice (.pair .bool (.pair (.slice (.int .u32)) (.slice (.int .u32))))))), (9, .one (.val (.int .i64))), (10, .one (.val (.int .i64)))], objs := [(20, .box [.val .bool, .val (.slice (.int .u32)), .val (.slice (.int .u32))])] }
def l_matrix_product_3X : Ann := { slots := [(5, .one (.fix (.pbox 20 0)))], objs := [(20, .box [.val .bool, .val (.slice (.int .u32)), .val (.slice (.int .u32))])] }
def l_matrix_product_3R : Ann := { slots := [], objs := [] }
def l_matrix_product_3 : Nat → List (Bool × ((List Int) × (List Int))) → List (Bool × ((List Int) × (List Int))) → Int → Int → Bool → List Int → List Int → Option (LR l_matrix_product_3X l_matrix_product_3R)
 | 0, _, _, _, _, _, _, _ => none
 | m + 1, s1, s8, s9, s10, b20_0, b20_1, b20_2 =>
  if decide (s10 < s9) = true then
   if (0 : Int) ≤ s10 then
    if s10 < s8.length then
     if (0 : Int) ≤ s10 then
      if s10 < s1.length then
       (f_rat_Q_Mul fuel ((s8.getD s10.toNat (false, ([], []))).1, ((s8.getD s10.toNat (false, ([], []))).2)) ((s1.getD s10.toNat (false, ([], []))).1, ((s1.getD s10.toNat (false, ([], []))).2))).bind fun r1 =>
       (f_rat_Q_Add fuel (b20_0, (b20_1, b20_2)) r1).bind fun r2 =>
       l_matrix_product_3 m s1 s8 s9 (IntKind.i64.wrap (s10 + 1)) r2.1 r2.2.1 r2.2.2
      else none
     else none
    else none
   else none
  else
   some (.exit (b20_0, b20_1, b20_2, ()))
def l_matrix_product_3L : LSpec := { h := l_matrix_product_3H, x := l_matrix_product_3X, r := l_matrix_product_3R, xid := 0, rt := false, pins := [20], f := fun k d => l_matrix_product_3 k d.1 d.2.1 d.2.2.1 d.2.2.2.1 d.2.2.2.2.1 d.2.2.2.2.2.1 d.2.2.2.2.2.2.1 }
def LL_matrix_product : Loops := [([27], [(3, l_matrix_product_3L)])]
def f_matrix_product (k : Nat) (a0 : List (Bool × ((List Int) × (List Int)))) (a1 : List (Bool × ((List Int) × (List Int)))) : Option (Bool × ((List Int) × (List Int))) :=
 match l_matrix_product_3 k a1 a0 (a0.length : Int) 0 false [] [] with
 | none => none
 | some (.exit d1) =>
  some (d1.1, (d1.2.1, d1.2.2.1))
 | some (.ret d1) =>
  none
theorem l_matrix_product_3_step (m : Nat) (d : dens l_matrix_product_3H.tys) : l_matrix_product_3L.f (m + 1) d = round E_matrix_product LL_matrix_product m [27] 25 (loopN (bodyOf Tryd.f27) 0) l_matrix_product_3L (l_matrix_product_3L.f m) d := by kernel_rfl
theorem f_matrix_product_run (k : Nat) (x : denL [.slice (.pair .bool (.pair (.slice (.int .u32)) (.slice (.int .u32)))), .slice (.pair .bool (.pair (.slice (.int .u32)) (.slice (.int .u32))))]) : runFn E_matrix_product LL_matrix_product k 27 Tryd.f27 [.slice (.pair .bool (.pair (.slice (.int .u32)) (.slice (.int .u32)))), .slice (.pair .bool (.pair (.slice (.int .u32)) (.slice (.int .u32))))] [.imm (.pair .bool (.pair (.slice (.int .u32)) (.slice (.int .u32))))] x = f_matrix_product k x.1 x.2 := by kernel_rfl
noncomputable def S_matrix_product : Vm.Spec := { ps := [.slice (.pair .bool (.pair (.slice (.int .u32)) (.slice (.int .u32)))), .slice (.pair .bool (.pair (.slice (.int .u32)) (.slice (.int .u32))))], rs := [.imm (.pair .bool (.pair (.slice (.int .u32)) (.slice (.int .u32))))], f := fun x => f_matrix_product fuel x.1 x.2 }
theorem f_matrix_product_holds : Vm.Spec.holds Tryd.prog 27 S_matrix_product := by
 have hB : BodiesOk Tryd.prog E_matrix_product := bodies_none rfl
 have hBS : BodiesStepped E_matrix_product LL_matrix_product := bodies_stepped_none rfl
 have hS : SpecsOk Tryd.prog E_matrix_product := specs_ok (by exact ⟨⟨by kernel_rfl, f_rat_Q_Mul_holds⟩, ⟨by kernel_rfl, f_rat_Q_Add_holds⟩, trivial⟩)
 have hE : EOk Tryd.prog E_matrix_product := eok_te ok
 exact fn_sound (L := LL_matrix_product) hE hS hB (draws_ok hE hS (by kernel_rfl)) hBS (fn := Tryd.f27) (by kernel_rfl) (c := bodyOf Tryd.f27) (by kernel_rfl) (stepped_of (ls := [(3, l_matrix_product_3L)]) rfl rfl ⟨by kernel_rfl, fun _ => rfl, l_matrix_product_3_step, stepsI_end (by kernel_rfl)⟩) fun x r h => ⟨fuel, (f_matrix_product_run fuel x).trans h⟩
noncomputable def E_strings_trimLeftByte : Env := { te := te, spec := [], body := [] }
def l_strings_trimLeftByte_1H : Ann := { slots := [(0, .one (.val .str)), (1, .one (.val (.int .u8)))], objs := [] }
def l_strings_trimLeftByte_1X : Ann := { slots := [(0, .one (.val .str))], objs := [] }
def l_strings_trimLeftByte_1R : Ann := { slots := [], objs := [] }
def l_strings_trimLeftByte_1 : Nat → ByteArray → Int → Option (LR l_strings_trimLeftByte_1X l_strings_trimLeftByte_1R)
 | 0, _, _ => none
 | m + 1, s0, s1 =>
  if decide ((s0.size : Int) > 0) = true then
   if (0 : Int) < (s0.size : Int) then
    if (((s0.data.getD 0 0).toNat : Int) == s1) = true then
     if (1 : Int) ≤ s0.size then
      l_strings_trimLeftByte_1 m (s0.extract 1 s0.size) s1
     else none
    else
     some (.exit (s0, ()))
   else none
  else
   some (.exit (s0, ()))
def l_strings_trimLeftByte_1L : LSpec := { h := l_strings_trimLeftByte_1H, x := l_strings_trimLeftByte_1X, r := l_strings_trimLeftByte_1R, xid := 0, rt := false, pins := [], f := fun k d => l_strings_trimLeftByte_1 k d.1 d.2.1 }
def LL_strings_trimLeftByte : Loops := [([75], [(1, l_strings_trimLeftByte_1L)])]
def f_strings_trimLeftByte (k : Nat) (a0 : ByteArray) (a1 : Int) : Option (ByteArray) :=
 match l_strings_trimLeftByte_1 k a0 a1 with
 | none => none
 | some (.exit d1) =>
  some d1.1
 | some (.ret d1) =>
  none
theorem l_strings_trimLeftByte_1_step (m : Nat) (d : dens l_strings_trimLeftByte_1H.tys) : l_strings_trimLeftByte_1L.f (m + 1) d = round E_strings_trimLeftByte LL_strings_trimLeftByte m [75] 17 (loopN (bodyOf Tryd.f75) 0) l_strings_trimLeftByte_1L (l_strings_trimLeftByte_1L.f m) d := by kernel_rfl
theorem f_strings_trimLeftByte_run (k : Nat) (x : denL [.str, .int .u8]) : runFn E_strings_trimLeftByte LL_strings_trimLeftByte k 75 Tryd.f75 [.str, .int .u8] [.imm .str] x = f_strings_trimLeftByte k x.1 x.2 := by kernel_rfl
noncomputable def S_strings_trimLeftByte : Vm.Spec := { ps := [.str, .int .u8], rs := [.imm .str], f := fun x => f_strings_trimLeftByte fuel x.1 x.2 }
theorem f_strings_trimLeftByte_holds : Vm.Spec.holds Tryd.prog 75 S_strings_trimLeftByte := by
 have hB : BodiesOk Tryd.prog E_strings_trimLeftByte := bodies_none rfl
 have hBS : BodiesStepped E_strings_trimLeftByte LL_strings_trimLeftByte := bodies_stepped_none rfl
 have hS : SpecsOk Tryd.prog E_strings_trimLeftByte := specs_ok (by exact trivial)
 have hE : EOk Tryd.prog E_strings_trimLeftByte := eok_te ok
 exact fn_sound (L := LL_strings_trimLeftByte) hE hS hB (draws_ok hE hS (by kernel_rfl)) hBS (fn := Tryd.f75) (by kernel_rfl) (c := bodyOf Tryd.f75) (by kernel_rfl) (stepped_of (ls := [(1, l_strings_trimLeftByte_1L)]) rfl rfl ⟨by kernel_rfl, fun _ => rfl, l_strings_trimLeftByte_1_step, stepsI_end (by kernel_rfl)⟩) fun x r h => ⟨fuel, (f_strings_trimLeftByte_run fuel x).trans h⟩
noncomputable def E_strings_TrimLeft : Env := { te := te, spec := [(75, S_strings_trimLeftByte)], body := [] }
def LL_strings_TrimLeft : Loops := []
def f_strings_TrimLeft (k : Nat) (a0 : ByteArray) (a1 : ByteArray) : Option (ByteArray) :=
 if ((a0.toList == (⟨#[]⟩ : ByteArray).toList)) = false then
  if ((a1.toList == (⟨#[]⟩ : ByteArray).toList)) = true then
   some a0
  else
   if ((a1.size : Int) == 1) = true then
    if (0 : Int) < (a1.size : Int) then
     if decide (((a1.data.getD 0 0).toNat : Int) < 128) = true then
      if (0 : Int) < (a1.size : Int) then
       (f_strings_trimLeftByte fuel a0 ((a1.data.getD 0 0).toNat : Int)).bind fun r1 =>
       some r1
      else none
     else none
    else none
   else none
 else
  some a0
theorem f_strings_TrimLeft_run (k : Nat) (x : denL [.str, .str]) : runFn E_strings_TrimLeft LL_strings_TrimLeft k 68 Tryd.f68 [.str, .str] [.imm .str] x = f_strings_TrimLeft k x.1 x.2 := by kernel_rfl
noncomputable def S_strings_TrimLeft : Vm.Spec := { ps := [.str, .str], rs := [.imm .str], f := fun x => f_strings_TrimLeft fuel x.1 x.2 }
theorem f_strings_TrimLeft_holds : Vm.Spec.holds Tryd.prog 68 S_strings_TrimLeft := by
 have hB : BodiesOk Tryd.prog E_strings_TrimLeft := bodies_none rfl
 have hBS : BodiesStepped E_strings_TrimLeft LL_strings_TrimLeft := bodies_stepped_none rfl
 have hS : SpecsOk Tryd.prog E_strings_TrimLeft := specs_ok (by exact ⟨⟨by kernel_rfl, f_strings_trimLeftByte_holds⟩, trivial⟩)
 have hE : EOk Tryd.prog E_strings_TrimLeft := eok_te ok
 exact fn_sound (L := LL_strings_TrimLeft) hE hS hB (draws_ok hE hS (by kernel_rfl)) hBS (fn := Tryd.f68) (by kernel_rfl) (c := bodyOf Tryd.f68) (by kernel_rfl) (stepped_none rfl) fun x r h => ⟨fuel, (f_strings_TrimLeft_run fuel x).trans h⟩
noncomputable def E_nat_N_Text : Env := { te := te, spec := [(68, S_strings_TrimLeft)], body := [] }
def l_nat_N_Text_10H : Ann := { slots := [(5, .one (.val (.int .u32))), (6, .one (.fix (.pbox 24 0))), (7, .one (.val (.int .i64)))], objs := [(24, .box [.val (.arr 9 (.int .u8))])] }
def l_nat_N_Text_10X : Ann := { slots := [(6, .one (.fix (.pbox 24 0)))], objs := [(24, .box [.val (.arr 9 (.int .u8))])] }
def l_nat_N_Text_10R : Ann := { slots := [], objs := [] }
def l_nat_N_Text_5H : Ann := { slots := [(0, .one (.val (.slice (.int .u32)))), (3, .one (.own 56 (.int .u8))), (4, .one (.val (.int .i64)))], objs := [(56, .buf (.int .u8))] }
def l_nat_N_Text_5X : Ann := { slots := [(3, .one (.own 56 (.int .u8)))], objs := [(56, .buf (.int .u8))] }
def l_nat_N_Text_5R : Ann := { slots := [], objs := [] }
def l_nat_N_Text_10 : Nat → Int → Int → List Int → Option (LR l_nat_N_Text_10X l_nat_N_Text_10R)
 | 0, _, _, _ => none
 | m + 1, s5, s7, b24_0 =>
  if decide (s7 ≥ 0) = true then
   if (0 : Int) ≤ s7 then
    if s7 < 9 then
     l_nat_N_Text_10 m (IntKind.u32.wrap (s5.tdiv 10)) (IntKind.i64.wrap (s7 - 1)) (b24_0.set s7.toNat (IntKind.u8.wrap (IntKind.u32.wrap (48 + (s5.tmod 10)))))
    else none
   else none
  else
   some (.exit (b24_0, ()))
def l_nat_N_Text_10L : LSpec := { h := l_nat_N_Text_10H, x := l_nat_N_Text_10X, r := l_nat_N_Text_10R, xid := 2, rt := false, pins := [24], f := fun k d => l_nat_N_Text_10 k d.1 d.2.1 d.2.2.1 }
def l_nat_N_Text_5 : Nat → List Int → Int → List Int → Option (LR l_nat_N_Text_5X l_nat_N_Text_5R)
 | 0, _, _, _ => none
 | m + 1, s0, s4, b56 =>
  if decide (s4 ≥ 0) = true then
   if (0 : Int) ≤ s4 then
    if s4 < s0.length then
     match l_nat_N_Text_10 m (s0.getD s4.toNat 0) 8 (List.replicate 9 0) with
     | none => none
     | some (.exit d1) =>
      if (b56.length + ((d1.1.take 9).drop 0).length) * 1 ≤ 140737488355328 then
       l_nat_N_Text_5 m s0 (IntKind.i64.wrap (s4 - 1)) (b56 ++ ((d1.1.take 9).drop 0))
      else none
     | some (.ret d1) =>
      none
    else none
   else none
  else
   some (.exit (b56, ()))
def l_nat_N_Text_5L : LSpec := { h := l_nat_N_Text_5H, x := l_nat_N_Text_5X, r := l_nat_N_Text_5R, xid := 0, rt := false, pins := [], f := fun k d => l_nat_N_Text_5 k d.1 d.2.1 d.2.2.1 }
def LL_nat_N_Text : Loops := [([57], [(5, l_nat_N_Text_5L), (10, l_nat_N_Text_10L)])]
def f_nat_N_Text (k : Nat) (a0 : List Int) : Option (ByteArray) :=
 if ((a0.length : Int) == 0) = true then
  some (⟨#[48]⟩ : ByteArray)
 else
  if (0 : Int) ≤ IntKind.i64.wrap (9 * (a0.length : Int)) then
   if (IntKind.i64.wrap (9 * (a0.length : Int))) * 1 ≤ 281474976710656 then
    match l_nat_N_Text_5 k a0 (IntKind.i64.wrap ((a0.length : Int) - 1)) (List.replicate 0 0) with
    | none => none
    | some (.exit d1) =>
     (f_strings_TrimLeft fuel (⟨(d1.1.map fun n => UInt8.ofNat n.toNat).toArray⟩ : ByteArray) (⟨#[48]⟩ : ByteArray)).bind fun r2 =>
     some r2
    | some (.ret d1) =>
     none
   else none
  else none
theorem l_nat_N_Text_10_step (m : Nat) (d : dens l_nat_N_Text_10H.tys) : l_nat_N_Text_10L.f (m + 1) d = round E_nat_N_Text LL_nat_N_Text m [57] 44 (loopN (bodyOf Tryd.f57) 1) l_nat_N_Text_10L (l_nat_N_Text_10L.f m) d := by kernel_rfl
theorem l_nat_N_Text_5_step (m : Nat) (d : dens l_nat_N_Text_5H.tys) : l_nat_N_Text_5L.f (m + 1) d = round E_nat_N_Text LL_nat_N_Text m [57] 44 (loopN (bodyOf Tryd.f57) 0) l_nat_N_Text_5L (l_nat_N_Text_5L.f m) d := by kernel_rfl
theorem f_nat_N_Text_run (k : Nat) (x : denL [.slice (.int .u32)]) : runFn E_nat_N_Text LL_nat_N_Text k 57 Tryd.f57 [.slice (.int .u32)] [.imm .str] x = f_nat_N_Text k x := by kernel_rfl
noncomputable def S_nat_N_Text : Vm.Spec := { ps := [.slice (.int .u32)], rs := [.imm .str], f := fun x => f_nat_N_Text fuel x }
theorem f_nat_N_Text_holds : Vm.Spec.holds Tryd.prog 57 S_nat_N_Text := by
 have hB : BodiesOk Tryd.prog E_nat_N_Text := bodies_none rfl
 have hBS : BodiesStepped E_nat_N_Text LL_nat_N_Text := bodies_stepped_none rfl
 have hS : SpecsOk Tryd.prog E_nat_N_Text := specs_ok (by exact ⟨⟨by kernel_rfl, f_strings_TrimLeft_holds⟩, trivial⟩)
 have hE : EOk Tryd.prog E_nat_N_Text := eok_te ok
 exact fn_sound (L := LL_nat_N_Text) hE hS hB (draws_ok hE hS (by kernel_rfl)) hBS (fn := Tryd.f57) (by kernel_rfl) (c := bodyOf Tryd.f57) (by kernel_rfl) (stepped_of (ls := [(5, l_nat_N_Text_5L), (10, l_nat_N_Text_10L)]) rfl rfl ⟨by kernel_rfl, fun _ => rfl, l_nat_N_Text_5_step, by kernel_rfl, fun _ => rfl, l_nat_N_Text_10_step, stepsI_end (by kernel_rfl)⟩) fun x r h => ⟨fuel, (f_nat_N_Text_run fuel x).trans h⟩
noncomputable def E_nat_N_Digits : Env := { te := te, spec := [(57, S_nat_N_Text)], body := [] }
def LL_nat_N_Digits : Loops := []
def f_nat_N_Digits (k : Nat) (a0 : List Int) : Option (Int) :=
 (f_nat_N_Text fuel a0).bind fun r1 =>
 some (r1.size : Int)
theorem f_nat_N_Digits_run (k : Nat) (x : denL [.slice (.int .u32)]) : runFn E_nat_N_Digits LL_nat_N_Digits k 56 Tryd.f56 [.slice (.int .u32)] [.imm (.int .i64)] x = f_nat_N_Digits k x := by kernel_rfl
noncomputable def S_nat_N_Digits : Vm.Spec := { ps := [.slice (.int .u32)], rs := [.imm (.int .i64)], f := fun x => f_nat_N_Digits fuel x }
theorem f_nat_N_Digits_holds : Vm.Spec.holds Tryd.prog 56 S_nat_N_Digits := by
 have hB : BodiesOk Tryd.prog E_nat_N_Digits := bodies_none rfl
 have hBS : BodiesStepped E_nat_N_Digits LL_nat_N_Digits := bodies_stepped_none rfl
 have hS : SpecsOk Tryd.prog E_nat_N_Digits := specs_ok (by exact ⟨⟨by kernel_rfl, f_nat_N_Text_holds⟩, trivial⟩)
 have hE : EOk Tryd.prog E_nat_N_Digits := eok_te ok
 exact fn_sound (L := LL_nat_N_Digits) hE hS hB (draws_ok hE hS (by kernel_rfl)) hBS (fn := Tryd.f56) (by kernel_rfl) (c := bodyOf Tryd.f56) (by kernel_rfl) (stepped_none rfl) fun x r h => ⟨fuel, (f_nat_N_Digits_run fuel x).trans h⟩
noncomputable def E_rat_Fits : Env := { te := te, spec := [(56, S_nat_N_Digits)], body := [] }
def LL_rat_Fits : Loops := []
def f_rat_Fits (k : Nat) (a0 : Bool × ((List Int) × (List Int))) : Option (Int) :=
 (f_nat_N_Digits fuel a0.2.1).bind fun r1 =>
 if decide (r1 > 2000) = false then
  (f_nat_N_Digits fuel a0.2.2).bind fun r2 =>
  if decide (r2 > 2000) = true then
   some 2
  else
   some 0
 else
  some 2
theorem f_rat_Fits_run (k : Nat) (x : denL [.pair .bool (.pair (.slice (.int .u32)) (.slice (.int .u32)))]) : runFn E_rat_Fits LL_rat_Fits k 41 Tryd.f41 [.pair .bool (.pair (.slice (.int .u32)) (.slice (.int .u32)))] [.imm (.int .i64)] x = f_rat_Fits k x := by kernel_rfl
noncomputable def S_rat_Fits : Vm.Spec := { ps := [.pair .bool (.pair (.slice (.int .u32)) (.slice (.int .u32)))], rs := [.imm (.int .i64)], f := fun x => f_rat_Fits fuel x }
theorem f_rat_Fits_holds : Vm.Spec.holds Tryd.prog 41 S_rat_Fits := by
 have hB : BodiesOk Tryd.prog E_rat_Fits := bodies_none rfl
 have hBS : BodiesStepped E_rat_Fits LL_rat_Fits := bodies_stepped_none rfl
 have hS : SpecsOk Tryd.prog E_rat_Fits := specs_ok (by exact ⟨⟨by kernel_rfl, f_nat_N_Digits_holds⟩, trivial⟩)
 have hE : EOk Tryd.prog E_rat_Fits := eok_te ok
 exact fn_sound (L := LL_rat_Fits) hE hS hB (draws_ok hE hS (by kernel_rfl)) hBS (fn := Tryd.f41) (by kernel_rfl) (c := bodyOf Tryd.f41) (by kernel_rfl) (stepped_none rfl) fun x r h => ⟨fuel, (f_rat_Fits_run fuel x).trans h⟩
noncomputable def E_rat_Q_Out : Env := { te := te, spec := [(53, S_rat_Q_whole), (57, S_nat_N_Text)], body := [] }
def LL_rat_Q_Out : Loops := []
def f_rat_Q_Out (k : Nat) (a0 : Bool × ((List Int) × (List Int))) : Option (ByteArray) :=
 if ((a0.2.1.length : Int) == 0) = true then
  some (⟨#[48]⟩ : ByteArray)
 else
  (f_nat_N_Text fuel a0.2.1).bind fun r1 =>
  if a0.1 = true then
   if (⟨#[45]⟩ : ByteArray).size + r1.size ≤ 4611686018427387904 then
    (f_rat_Q_whole fuel a0).bind fun r2 =>
    (f_nat_N_Text fuel r2).bind fun r3 =>
    if (!(r3.toList == (⟨#[49]⟩ : ByteArray).toList)) = true then
     if (⟨#[47]⟩ : ByteArray).size + r3.size ≤ 4611686018427387904 then
      if ((⟨#[45]⟩ : ByteArray) ++ r1).size + ((⟨#[47]⟩ : ByteArray) ++ r3).size ≤ 4611686018427387904 then
       some (((⟨#[45]⟩ : ByteArray) ++ r1) ++ ((⟨#[47]⟩ : ByteArray) ++ r3))
      else none
     else none
    else
     some ((⟨#[45]⟩ : ByteArray) ++ r1)
   else none
  else
   (f_rat_Q_whole fuel a0).bind fun r4 =>
   (f_nat_N_Text fuel r4).bind fun r5 =>
   if (!(r5.toList == (⟨#[49]⟩ : ByteArray).toList)) = true then
    if (⟨#[47]⟩ : ByteArray).size + r5.size ≤ 4611686018427387904 then
     if r1.size + ((⟨#[47]⟩ : ByteArray) ++ r5).size ≤ 4611686018427387904 then
      some (r1 ++ ((⟨#[47]⟩ : ByteArray) ++ r5))
     else none
    else none
   else
    some r1
theorem f_rat_Q_Out_run (k : Nat) (x : denL [.pair .bool (.pair (.slice (.int .u32)) (.slice (.int .u32)))]) : runFn E_rat_Q_Out LL_rat_Q_Out k 42 Tryd.f42 [.pair .bool (.pair (.slice (.int .u32)) (.slice (.int .u32)))] [.imm .str] x = f_rat_Q_Out k x := by kernel_rfl
noncomputable def S_rat_Q_Out : Vm.Spec := { ps := [.pair .bool (.pair (.slice (.int .u32)) (.slice (.int .u32)))], rs := [.imm .str], f := fun x => f_rat_Q_Out fuel x }
theorem f_rat_Q_Out_holds : Vm.Spec.holds Tryd.prog 42 S_rat_Q_Out := by
 have hB : BodiesOk Tryd.prog E_rat_Q_Out := bodies_none rfl
 have hBS : BodiesStepped E_rat_Q_Out LL_rat_Q_Out := bodies_stepped_none rfl
 have hS : SpecsOk Tryd.prog E_rat_Q_Out := specs_ok (by exact ⟨⟨by kernel_rfl, f_rat_Q_whole_holds⟩, ⟨by kernel_rfl, f_nat_N_Text_holds⟩, trivial⟩)
 have hE : EOk Tryd.prog E_rat_Q_Out := eok_te ok
 exact fn_sound (L := LL_rat_Q_Out) hE hS hB (draws_ok hE hS (by kernel_rfl)) hBS (fn := Tryd.f42) (by kernel_rfl) (c := bodyOf Tryd.f42) (by kernel_rfl) (stepped_none rfl) fun x r h => ⟨fuel, (f_rat_Q_Out_run fuel x).trans h⟩
noncomputable def E_matrix_Out : Env := { te := te, spec := [(41, S_rat_Fits), (42, S_rat_Q_Out)], body := [] }
def l_matrix_Out_3H : Ann := { slots := [(4, .one (.own 92 .str)), (8, .one (.val (.slice (.pair .bool (.pair (.slice (.int .u32)) (.slice (.int .u32))))))), (9, .one (.val (.int .i64))), (10, .one (.val (.int .i64)))], objs := [(92, .buf .str)] }
def l_matrix_Out_3X : Ann := { slots := [(4, .one (.own 92 .str))], objs := [(92, .buf .str)] }
def l_matrix_Out_3R : Ann := { slots := [(2, .one (.fix .nil)), (3, .one (.val (.int .i64)))], objs := [] }
def l_matrix_Out_3 : Nat → List (Bool × ((List Int) × (List Int))) → Int → Int → List ByteArray → Option (LR l_matrix_Out_3X l_matrix_Out_3R)
 | 0, _, _, _, _ => none
 | m + 1, s8, s9, s10, b92 =>
  if decide (s10 < s9) = true then
   if (0 : Int) ≤ s10 then
    if s10 < s8.length then
     (f_rat_Fits fuel ((s8.getD s10.toNat (false, ([], []))).1, ((s8.getD s10.toNat (false, ([], []))).2))).bind fun r1 =>
     if (r1 != 0) = true then
      some (.ret (r1, ()))
     else
      (f_rat_Q_Out fuel ((s8.getD s10.toNat (false, ([], []))).1, ((s8.getD s10.toNat (false, ([], []))).2))).bind fun r2 =>
      if (b92.length + 1) * 16 ≤ 140737488355328 then
       l_matrix_Out_3 m s8 s9 (IntKind.i64.wrap (s10 + 1)) (b92 ++ [r2])
      else none
    else none
   else none
  else
   some (.exit (b92, ()))
def l_matrix_Out_3L : LSpec := { h := l_matrix_Out_3H, x := l_matrix_Out_3X, r := l_matrix_Out_3R, xid := 0, rt := true, pins := [], f := fun k d => l_matrix_Out_3 k d.1 d.2.1 d.2.2.1 d.2.2.2.1 }
def LL_matrix_Out : Loops := [([34], [(3, l_matrix_Out_3L)])]
def f_matrix_Out (k : Nat) (a0 : List (Bool × ((List Int) × (List Int)))) : Option (List ByteArray × Int) :=
 match l_matrix_Out_3 k a0 (a0.length : Int) 0 [] with
 | none => none
 | some (.exit d1) =>
  some (d1.1, 0)
 | some (.ret d1) =>
  some ([], d1.1)
theorem l_matrix_Out_3_step (m : Nat) (d : dens l_matrix_Out_3H.tys) : l_matrix_Out_3L.f (m + 1) d = round E_matrix_Out LL_matrix_Out m [34] 26 (loopN (bodyOf Tryd.f34) 0) l_matrix_Out_3L (l_matrix_Out_3L.f m) d := by kernel_rfl
theorem f_matrix_Out_run (k : Nat) (x : denL [.slice (.pair .bool (.pair (.slice (.int .u32)) (.slice (.int .u32))))]) : runFn E_matrix_Out LL_matrix_Out k 34 Tryd.f34 [.slice (.pair .bool (.pair (.slice (.int .u32)) (.slice (.int .u32))))] [.fresh .str, .imm (.int .i64)] x = f_matrix_Out k x := by kernel_rfl
noncomputable def S_matrix_Out : Vm.Spec := { ps := [.slice (.pair .bool (.pair (.slice (.int .u32)) (.slice (.int .u32))))], rs := [.fresh .str, .imm (.int .i64)], f := fun x => f_matrix_Out fuel x }
theorem f_matrix_Out_holds : Vm.Spec.holds Tryd.prog 34 S_matrix_Out := by
 have hB : BodiesOk Tryd.prog E_matrix_Out := bodies_none rfl
 have hBS : BodiesStepped E_matrix_Out LL_matrix_Out := bodies_stepped_none rfl
 have hS : SpecsOk Tryd.prog E_matrix_Out := specs_ok (by exact ⟨⟨by kernel_rfl, f_rat_Fits_holds⟩, ⟨by kernel_rfl, f_rat_Q_Out_holds⟩, trivial⟩)
 have hE : EOk Tryd.prog E_matrix_Out := eok_te ok
 exact fn_sound (L := LL_matrix_Out) hE hS hB (draws_ok hE hS (by kernel_rfl)) hBS (fn := Tryd.f34) (by kernel_rfl) (c := bodyOf Tryd.f34) (by kernel_rfl) (stepped_of (ls := [(3, l_matrix_Out_3L)]) rfl rfl ⟨by kernel_rfl, fun _ => rfl, l_matrix_Out_3_step, stepsI_end (by kernel_rfl)⟩) fun x r h => ⟨fuel, (f_matrix_Out_run fuel x).trans h⟩
noncomputable def E_matrix_OutAll : Env := { te := te, spec := [(34, S_matrix_Out)], body := [] }
def l_matrix_OutAll_3H : Ann := { slots := [(4, .one (.own 104 (.slice .str))), (9, .one (.val (.slice (.slice (.pair .bool (.pair (.slice (.int .u32)) (.slice (.int .u32)))))))), (10, .one (.val (.int .i64))), (11, .one (.val (.int .i64)))], objs := [(104, .buf (.slice .str))] }
def l_matrix_OutAll_3X : Ann := { slots := [(4, .one (.own 104 (.slice .str)))], objs := [(104, .buf (.slice .str))] }
def l_matrix_OutAll_3R : Ann := { slots := [(2, .one (.fix .nil)), (3, .one (.val (.int .i64)))], objs := [] }
def l_matrix_OutAll_3 : Nat → List (List (Bool × ((List Int) × (List Int)))) → Int → Int → List (List ByteArray) → Option (LR l_matrix_OutAll_3X l_matrix_OutAll_3R)
 | 0, _, _, _, _ => none
 | m + 1, s9, s10, s11, b104 =>
  if decide (s11 < s10) = true then
   if (0 : Int) ≤ s11 then
    if s11 < s9.length then
     (f_matrix_Out fuel (s9.getD s11.toNat [])).bind fun r1 =>
     if (r1.2 != 0) = true then
      some (.ret (r1.2, ()))
     else
      if (b104.length + 1) * 24 ≤ 140737488355328 then
       l_matrix_OutAll_3 m s9 s10 (IntKind.i64.wrap (s11 + 1)) (b104 ++ [r1.1])
      else none
    else none
   else none
  else
   some (.exit (b104, ()))
def l_matrix_OutAll_3L : LSpec := { h := l_matrix_OutAll_3H, x := l_matrix_OutAll_3X, r := l_matrix_OutAll_3R, xid := 0, rt := true, pins := [], f := fun k d => l_matrix_OutAll_3 k d.1 d.2.1 d.2.2.1 d.2.2.2.1 }
def LL_matrix_OutAll : Loops := [([28], [(3, l_matrix_OutAll_3L)])]
def f_matrix_OutAll (k : Nat) (a0 : List (List (Bool × ((List Int) × (List Int))))) : Option (List (List ByteArray) × Int) :=
 match l_matrix_OutAll_3 k a0 (a0.length : Int) 0 [] with
 | none => none
 | some (.exit d1) =>
  some (d1.1, 0)
 | some (.ret d1) =>
  some ([], d1.1)
theorem l_matrix_OutAll_3_step (m : Nat) (d : dens l_matrix_OutAll_3H.tys) : l_matrix_OutAll_3L.f (m + 1) d = round E_matrix_OutAll LL_matrix_OutAll m [28] 29 (loopN (bodyOf Tryd.f28) 0) l_matrix_OutAll_3L (l_matrix_OutAll_3L.f m) d := by kernel_rfl
theorem f_matrix_OutAll_run (k : Nat) (x : denL [.slice (.slice (.pair .bool (.pair (.slice (.int .u32)) (.slice (.int .u32)))))]) : runFn E_matrix_OutAll LL_matrix_OutAll k 28 Tryd.f28 [.slice (.slice (.pair .bool (.pair (.slice (.int .u32)) (.slice (.int .u32)))))] [.fresh (.slice .str), .imm (.int .i64)] x = f_matrix_OutAll k x := by kernel_rfl
noncomputable def S_matrix_OutAll : Vm.Spec := { ps := [.slice (.slice (.pair .bool (.pair (.slice (.int .u32)) (.slice (.int .u32)))))], rs := [.fresh (.slice .str), .imm (.int .i64)], f := fun x => f_matrix_OutAll fuel x }
theorem f_matrix_OutAll_holds : Vm.Spec.holds Tryd.prog 28 S_matrix_OutAll := by
 have hB : BodiesOk Tryd.prog E_matrix_OutAll := bodies_none rfl
 have hBS : BodiesStepped E_matrix_OutAll LL_matrix_OutAll := bodies_stepped_none rfl
 have hS : SpecsOk Tryd.prog E_matrix_OutAll := specs_ok (by exact ⟨⟨by kernel_rfl, f_matrix_Out_holds⟩, trivial⟩)
 have hE : EOk Tryd.prog E_matrix_OutAll := eok_te ok
 exact fn_sound (L := LL_matrix_OutAll) hE hS hB (draws_ok hE hS (by kernel_rfl)) hBS (fn := Tryd.f28) (by kernel_rfl) (c := bodyOf Tryd.f28) (by kernel_rfl) (stepped_of (ls := [(3, l_matrix_OutAll_3L)]) rfl rfl ⟨by kernel_rfl, fun _ => rfl, l_matrix_OutAll_3_step, stepsI_end (by kernel_rfl)⟩) fun x r h => ⟨fuel, (f_matrix_OutAll_run fuel x).trans h⟩
noncomputable def E_gamehallkeep2_fine : Env := { te := te, spec := [], body := [(29, Tryd.f29), (30, Tryd.f30), (47, Tryd.f47)] }
def l_slices_IndexFunc_Errno__slices_ContainsFunc_Errno__gamehallkeep2_fine_2H : Ann := { slots := [(0, .one (.val (.slice (.int .i64)))), (1, .one (.fix (.func 30))), (7, .one (.val (.int .i64))), (8, .one (.val (.int .i64)))], objs := [] }
def l_slices_IndexFunc_Errno__slices_ContainsFunc_Errno__gamehallkeep2_fine_2X : Ann := { slots := [], objs := [] }
def l_slices_IndexFunc_Errno__slices_ContainsFunc_Errno__gamehallkeep2_fine_2R : Ann := { slots := [(4, .one (.val (.int .i64)))], objs := [] }
def l_slices_IndexFunc_Errno__slices_ContainsFunc_Errno__gamehallkeep2_fine_2 : Nat → List Int → Int → Int → Option (LR l_slices_IndexFunc_Errno__slices_ContainsFunc_Errno__gamehallkeep2_fine_2X l_slices_IndexFunc_Errno__slices_ContainsFunc_Errno__gamehallkeep2_fine_2R)
 | 0, _, _, _ => none
 | m + 1, s0, s7, s8 =>
  if decide (s8 < s7) = true then
   if (0 : Int) ≤ s8 then
    if s8 < s0.length then
     if (s0.getD s8.toNat 0 != 0) = true then
      some (.ret (s8, ()))
     else
      l_slices_IndexFunc_Errno__slices_ContainsFunc_Errno__gamehallkeep2_fine_2 m s0 s7 (IntKind.i64.wrap (s8 + 1))
    else none
   else none
  else
   some (.exit ())
def l_slices_IndexFunc_Errno__slices_ContainsFunc_Errno__gamehallkeep2_fine_2L : LSpec := { h := l_slices_IndexFunc_Errno__slices_ContainsFunc_Errno__gamehallkeep2_fine_2H, x := l_slices_IndexFunc_Errno__slices_ContainsFunc_Errno__gamehallkeep2_fine_2X, r := l_slices_IndexFunc_Errno__slices_ContainsFunc_Errno__gamehallkeep2_fine_2R, xid := 0, rt := true, pins := [], f := fun k d => l_slices_IndexFunc_Errno__slices_ContainsFunc_Errno__gamehallkeep2_fine_2 k d.1 d.2.1 d.2.2.1 }
def LL_gamehallkeep2_fine : Loops := [([47, 29, 9], [(2, l_slices_IndexFunc_Errno__slices_ContainsFunc_Errno__gamehallkeep2_fine_2L)])]
def f_gamehallkeep2_fine (k : Nat) (a0 : List Int) : Option (Bool) :=
 match l_slices_IndexFunc_Errno__slices_ContainsFunc_Errno__gamehallkeep2_fine_2 k a0 (a0.length : Int) 0 with
 | none => none
 | some (.exit d1) =>
  some true
 | some (.ret d1) =>
  some (!(decide (d1.1 ≥ 0)))
theorem l_slices_IndexFunc_Errno__slices_ContainsFunc_Errno__gamehallkeep2_fine_2_step (m : Nat) (d : dens l_slices_IndexFunc_Errno__slices_ContainsFunc_Errno__gamehallkeep2_fine_2H.tys) : l_slices_IndexFunc_Errno__slices_ContainsFunc_Errno__gamehallkeep2_fine_2L.f (m + 1) d = round E_gamehallkeep2_fine LL_gamehallkeep2_fine m [47, 29, 9] 19 (loopN (bodyOf Tryd.f47) 0) l_slices_IndexFunc_Errno__slices_ContainsFunc_Errno__gamehallkeep2_fine_2L (l_slices_IndexFunc_Errno__slices_ContainsFunc_Errno__gamehallkeep2_fine_2L.f m) d := by kernel_rfl
theorem f_gamehallkeep2_fine_run (k : Nat) (x : denL [.slice (.int .i64)]) : runFn E_gamehallkeep2_fine LL_gamehallkeep2_fine k 9 Tryd.f9 [.slice (.int .i64)] [.imm .bool] x = f_gamehallkeep2_fine k x := by kernel_rfl
noncomputable def S_gamehallkeep2_fine : Vm.Spec := { ps := [.slice (.int .i64)], rs := [.imm .bool], f := fun x => f_gamehallkeep2_fine fuel x }
theorem f_gamehallkeep2_fine_holds : Vm.Spec.holds Tryd.prog 9 S_gamehallkeep2_fine := by
 have hB : BodiesOk Tryd.prog E_gamehallkeep2_fine := bodies_ok (by exact ⟨by kernel_rfl, by kernel_rfl, by kernel_rfl, by kernel_rfl, by kernel_rfl, by kernel_rfl, trivial⟩)
 have hBS : BodiesStepped E_gamehallkeep2_fine LL_gamehallkeep2_fine := by
  refine bodies_stepped ?_
  exact ⟨(fun _ => stepped_noloop (by kernel_rfl)), (fun _ => stepped_noloop (by kernel_rfl)), (stepped_paths [[29, 9]] (by exact ⟨stepped_of (ls := [(2, l_slices_IndexFunc_Errno__slices_ContainsFunc_Errno__gamehallkeep2_fine_2L)]) rfl rfl ⟨by kernel_rfl, fun _ => rfl, l_slices_IndexFunc_Errno__slices_ContainsFunc_Errno__gamehallkeep2_fine_2_step, stepsI_end (by kernel_rfl)⟩,  trivial⟩) rfl),  trivial⟩
 have hS : SpecsOk Tryd.prog E_gamehallkeep2_fine := specs_ok (by exact trivial)
 have hE : EOk Tryd.prog E_gamehallkeep2_fine := eok_te ok
 exact fn_sound (L := LL_gamehallkeep2_fine) hE hS hB (draws_ok hE hS (by kernel_rfl)) hBS (fn := Tryd.f9) (by kernel_rfl) (c := bodyOf Tryd.f9) (by kernel_rfl) (stepped_none rfl) fun x r h => ⟨fuel, (f_gamehallkeep2_fine_run fuel x).trans h⟩
noncomputable def E_slices_Equal_Rat : Env := { te := te, spec := [], body := [] }
def l_slices_Equal_Rat_4H : Ann := { slots := [(0, .one (.val (.slice .str))), (1, .one (.val (.slice .str))), (12, .one (.val (.int .i64))), (13, .one (.val (.int .i64)))], objs := [] }
def l_slices_Equal_Rat_4X : Ann := { slots := [], objs := [] }
def l_slices_Equal_Rat_4R : Ann := { slots := [(4, .one (.val .bool))], objs := [] }
def l_slices_Equal_Rat_4 : Nat → List ByteArray → List ByteArray → Int → Int → Option (LR l_slices_Equal_Rat_4X l_slices_Equal_Rat_4R)
 | 0, _, _, _, _ => none
 | m + 1, s0, s1, s12, s13 =>
  if decide (s13 < s12) = true then
   if (0 : Int) ≤ s13 then
    if s13 < s0.length then
     if (0 : Int) ≤ s13 then
      if s13 < s1.length then
       if (!((s0.getD s13.toNat ByteArray.empty).toList == (s1.getD s13.toNat ByteArray.empty).toList)) = true then
        some (.ret (false, ()))
       else
        l_slices_Equal_Rat_4 m s0 s1 s12 (IntKind.i64.wrap (s13 + 1))
      else none
     else none
    else none
   else none
  else
   some (.exit ())
def l_slices_Equal_Rat_4L : LSpec := { h := l_slices_Equal_Rat_4H, x := l_slices_Equal_Rat_4X, r := l_slices_Equal_Rat_4R, xid := 0, rt := true, pins := [], f := fun k d => l_slices_Equal_Rat_4 k d.1 d.2.1 d.2.2.1 d.2.2.2.1 }
def LL_slices_Equal_Rat : Loops := [([12], [(4, l_slices_Equal_Rat_4L)])]
def f_slices_Equal_Rat (k : Nat) (a0 : List ByteArray) (a1 : List ByteArray) : Option (Bool) :=
 if ((a0.length : Int) != (a1.length : Int)) = true then
  some false
 else
  match l_slices_Equal_Rat_4 k a0 a1 (a0.length : Int) 0 with
  | none => none
  | some (.exit d1) =>
   some true
  | some (.ret d1) =>
   some d1.1
theorem l_slices_Equal_Rat_4_step (m : Nat) (d : dens l_slices_Equal_Rat_4H.tys) : l_slices_Equal_Rat_4L.f (m + 1) d = round E_slices_Equal_Rat LL_slices_Equal_Rat m [12] 26 (loopN (bodyOf Tryd.f12) 0) l_slices_Equal_Rat_4L (l_slices_Equal_Rat_4L.f m) d := by kernel_rfl
theorem f_slices_Equal_Rat_run (k : Nat) (x : denL [.slice .str, .slice .str]) : runFn E_slices_Equal_Rat LL_slices_Equal_Rat k 12 Tryd.f12 [.slice .str, .slice .str] [.imm .bool] x = f_slices_Equal_Rat k x.1 x.2 := by kernel_rfl
noncomputable def S_slices_Equal_Rat : Vm.Spec := { ps := [.slice .str, .slice .str], rs := [.imm .bool], f := fun x => f_slices_Equal_Rat fuel x.1 x.2 }
theorem f_slices_Equal_Rat_holds : Vm.Spec.holds Tryd.prog 12 S_slices_Equal_Rat := by
 have hB : BodiesOk Tryd.prog E_slices_Equal_Rat := bodies_none rfl
 have hBS : BodiesStepped E_slices_Equal_Rat LL_slices_Equal_Rat := bodies_stepped_none rfl
 have hS : SpecsOk Tryd.prog E_slices_Equal_Rat := specs_ok (by exact trivial)
 have hE : EOk Tryd.prog E_slices_Equal_Rat := eok_te ok
 exact fn_sound (L := LL_slices_Equal_Rat) hE hS hB (draws_ok hE hS (by kernel_rfl)) hBS (fn := Tryd.f12) (by kernel_rfl) (c := bodyOf Tryd.f12) (by kernel_rfl) (stepped_of (ls := [(4, l_slices_Equal_Rat_4L)]) rfl rfl ⟨by kernel_rfl, fun _ => rfl, l_slices_Equal_Rat_4_step, stepsI_end (by kernel_rfl)⟩) fun x r h => ⟨fuel, (f_slices_Equal_Rat_run fuel x).trans h⟩
noncomputable def E_matrix_Same : Env := { te := te, spec := [(12, S_slices_Equal_Rat)], body := [(31, Tryd.f31), (32, Tryd.f32)] }
def l_slices_EqualFunc_Vec__matrix_Same_4H : Ann := { slots := [(1, .one (.val (.slice (.slice .str)))), (2, .one (.fix (.func 32))), (15, .one (.val (.slice (.slice .str)))), (16, .one (.val (.int .i64))), (17, .one (.val (.int .i64)))], objs := [] }
def l_slices_EqualFunc_Vec__matrix_Same_4X : Ann := { slots := [], objs := [] }
def l_slices_EqualFunc_Vec__matrix_Same_4R : Ann := { slots := [(6, .one (.val .bool))], objs := [] }
def l_slices_EqualFunc_Vec__matrix_Same_4 : Nat → List (List ByteArray) → List (List ByteArray) → Int → Int → Option (LR l_slices_EqualFunc_Vec__matrix_Same_4X l_slices_EqualFunc_Vec__matrix_Same_4R)
 | 0, _, _, _, _ => none
 | m + 1, s1, s15, s16, s17 =>
  if decide (s17 < s16) = true then
   if (0 : Int) ≤ s17 then
    if s17 < s15.length then
     if (0 : Int) ≤ s17 then
      if s17 < s1.length then
       (f_slices_Equal_Rat fuel (s15.getD s17.toNat []) (s1.getD s17.toNat [])).bind fun r1 =>
       if (!r1) = true then
        some (.ret (false, ()))
       else
        l_slices_EqualFunc_Vec__matrix_Same_4 m s1 s15 s16 (IntKind.i64.wrap (s17 + 1))
      else none
     else none
    else none
   else none
  else
   some (.exit ())
def l_slices_EqualFunc_Vec__matrix_Same_4L : LSpec := { h := l_slices_EqualFunc_Vec__matrix_Same_4H, x := l_slices_EqualFunc_Vec__matrix_Same_4X, r := l_slices_EqualFunc_Vec__matrix_Same_4R, xid := 0, rt := true, pins := [], f := fun k d => l_slices_EqualFunc_Vec__matrix_Same_4 k d.1 d.2.1 d.2.2.1 d.2.2.2.1 }
def LL_matrix_Same : Loops := [([31, 10], [(4, l_slices_EqualFunc_Vec__matrix_Same_4L)])]
def f_matrix_Same (k : Nat) (a0 : List (List ByteArray)) (a1 : List (List ByteArray)) : Option (Bool) :=
 if ((a0.length : Int) != (a1.length : Int)) = true then
  some false
 else
  match l_slices_EqualFunc_Vec__matrix_Same_4 k a1 a0 (a0.length : Int) 0 with
  | none => none
  | some (.exit d1) =>
   some true
  | some (.ret d1) =>
   some d1.1
theorem l_slices_EqualFunc_Vec__matrix_Same_4_step (m : Nat) (d : dens l_slices_EqualFunc_Vec__matrix_Same_4H.tys) : l_slices_EqualFunc_Vec__matrix_Same_4L.f (m + 1) d = round E_matrix_Same LL_matrix_Same m [31, 10] 32 (loopN (bodyOf Tryd.f31) 0) l_slices_EqualFunc_Vec__matrix_Same_4L (l_slices_EqualFunc_Vec__matrix_Same_4L.f m) d := by kernel_rfl
theorem f_matrix_Same_run (k : Nat) (x : denL [.slice (.slice .str), .slice (.slice .str)]) : runFn E_matrix_Same LL_matrix_Same k 10 Tryd.f10 [.slice (.slice .str), .slice (.slice .str)] [.imm .bool] x = f_matrix_Same k x.1 x.2 := by kernel_rfl
noncomputable def S_matrix_Same : Vm.Spec := { ps := [.slice (.slice .str), .slice (.slice .str)], rs := [.imm .bool], f := fun x => f_matrix_Same fuel x.1 x.2 }
theorem f_matrix_Same_holds : Vm.Spec.holds Tryd.prog 10 S_matrix_Same := by
 have hB : BodiesOk Tryd.prog E_matrix_Same := bodies_ok (by exact ⟨by kernel_rfl, by kernel_rfl, by kernel_rfl, by kernel_rfl, trivial⟩)
 have hBS : BodiesStepped E_matrix_Same LL_matrix_Same := by
  refine bodies_stepped ?_
  exact ⟨(stepped_paths [[10]] (by exact ⟨stepped_of (ls := [(4, l_slices_EqualFunc_Vec__matrix_Same_4L)]) rfl rfl ⟨by kernel_rfl, fun _ => rfl, l_slices_EqualFunc_Vec__matrix_Same_4_step, stepsI_end (by kernel_rfl)⟩,  trivial⟩) rfl), (fun _ => stepped_noloop (by kernel_rfl)),  trivial⟩
 have hS : SpecsOk Tryd.prog E_matrix_Same := specs_ok (by exact ⟨⟨by kernel_rfl, f_slices_Equal_Rat_holds⟩, trivial⟩)
 have hE : EOk Tryd.prog E_matrix_Same := eok_te ok
 exact fn_sound (L := LL_matrix_Same) hE hS hB (draws_ok hE hS (by kernel_rfl)) hBS (fn := Tryd.f10) (by kernel_rfl) (c := bodyOf Tryd.f10) (by kernel_rfl) (stepped_none rfl) fun x r h => ⟨fuel, (f_matrix_Same_run fuel x).trans h⟩
noncomputable def E_matrix_Transpose : Env := { te := te, spec := [(19, S_matrix_Check), (24, S_matrix_Width)], body := [] }
def l_matrix_Transpose_10H : Ann := { slots := [(6, .one (.val (.int .i64))), (7, .one (.own 128 .str)), (20, .one (.val (.slice (.slice .str)))), (21, .one (.val (.int .i64))), (22, .one (.val (.int .i64)))], objs := [(128, .buf .str)] }
def l_matrix_Transpose_10X : Ann := { slots := [(7, .one (.own 128 .str))], objs := [(128, .buf .str)] }
def l_matrix_Transpose_10R : Ann := { slots := [], objs := [] }
def l_matrix_Transpose_6H : Ann := { slots := [(0, .one (.val (.slice (.slice .str)))), (5, .one (.own 148 (.slice .str))), (16, .one (.val (.int .i64))), (17, .one (.val (.int .i64)))], objs := [(148, .buf (.slice .str))] }
def l_matrix_Transpose_6X : Ann := { slots := [(5, .one (.own 148 (.slice .str)))], objs := [(148, .buf (.slice .str))] }
def l_matrix_Transpose_6R : Ann := { slots := [], objs := [] }
def l_matrix_Transpose_10 : Nat → Int → List (List ByteArray) → Int → Int → List ByteArray → Option (LR l_matrix_Transpose_10X l_matrix_Transpose_10R)
 | 0, _, _, _, _, _ => none
 | m + 1, s6, s20, s21, s22, b128 =>
  if decide (s22 < s21) = true then
   if (0 : Int) ≤ s22 then
    if s22 < s20.length then
     if (0 : Int) ≤ s6 then
      if s6 < (s20.getD s22.toNat []).length then
       if (b128.length + 1) * 16 ≤ 140737488355328 then
        l_matrix_Transpose_10 m s6 s20 s21 (IntKind.i64.wrap (s22 + 1)) (b128 ++ [(s20.getD s22.toNat []).getD s6.toNat ByteArray.empty])
       else none
      else none
     else none
    else none
   else none
  else
   some (.exit (b128, ()))
def l_matrix_Transpose_10L : LSpec := { h := l_matrix_Transpose_10H, x := l_matrix_Transpose_10X, r := l_matrix_Transpose_10R, xid := 2, rt := false, pins := [], f := fun k d => l_matrix_Transpose_10 k d.1 d.2.1 d.2.2.1 d.2.2.2.1 d.2.2.2.2.1 }
def l_matrix_Transpose_6 : Nat → List (List ByteArray) → Int → Int → List (List ByteArray) → Option (LR l_matrix_Transpose_6X l_matrix_Transpose_6R)
 | 0, _, _, _, _ => none
 | m + 1, s0, s16, s17, b148 =>
  if decide (s17 < s16) = true then
   match l_matrix_Transpose_10 m s17 s0 (s0.length : Int) 0 [] with
   | none => none
   | some (.exit d1) =>
    if (b148.length + 1) * 24 ≤ 140737488355328 then
     l_matrix_Transpose_6 m s0 s16 (IntKind.i64.wrap (s17 + 1)) (b148 ++ [d1.1])
    else none
   | some (.ret d1) =>
    none
  else
   some (.exit (b148, ()))
def l_matrix_Transpose_6L : LSpec := { h := l_matrix_Transpose_6H, x := l_matrix_Transpose_6X, r := l_matrix_Transpose_6R, xid := 0, rt := false, pins := [], f := fun k d => l_matrix_Transpose_6 k d.1 d.2.1 d.2.2.1 d.2.2.2.1 }
def LL_matrix_Transpose : Loops := [([13], [(6, l_matrix_Transpose_6L), (10, l_matrix_Transpose_10L)])]
def f_matrix_Transpose (k : Nat) (a0 : List (List ByteArray)) : Option (List (List ByteArray) × Int) :=
 (f_matrix_Check fuel a0).bind fun r1 =>
 if (r1 != 0) = true then
  some ([], r1)
 else
  (f_matrix_Width fuel a0).bind fun r2 =>
  match l_matrix_Transpose_6 k a0 r2 0 [] with
  | none => none
  | some (.exit d3) =>
   some (d3.1, 0)
  | some (.ret d3) =>
   none
theorem l_matrix_Transpose_10_step (m : Nat) (d : dens l_matrix_Transpose_10H.tys) : l_matrix_Transpose_10L.f (m + 1) d = round E_matrix_Transpose LL_matrix_Transpose m [13] 40 (loopN (bodyOf Tryd.f13) 1) l_matrix_Transpose_10L (l_matrix_Transpose_10L.f m) d := by kernel_rfl
theorem l_matrix_Transpose_6_step (m : Nat) (d : dens l_matrix_Transpose_6H.tys) : l_matrix_Transpose_6L.f (m + 1) d = round E_matrix_Transpose LL_matrix_Transpose m [13] 40 (loopN (bodyOf Tryd.f13) 0) l_matrix_Transpose_6L (l_matrix_Transpose_6L.f m) d := by kernel_rfl
theorem f_matrix_Transpose_run (k : Nat) (x : denL [.slice (.slice .str)]) : runFn E_matrix_Transpose LL_matrix_Transpose k 13 Tryd.f13 [.slice (.slice .str)] [.fresh (.slice .str), .imm (.int .i64)] x = f_matrix_Transpose k x := by kernel_rfl
noncomputable def S_matrix_Transpose : Vm.Spec := { ps := [.slice (.slice .str)], rs := [.fresh (.slice .str), .imm (.int .i64)], f := fun x => f_matrix_Transpose fuel x }
theorem f_matrix_Transpose_holds : Vm.Spec.holds Tryd.prog 13 S_matrix_Transpose := by
 have hB : BodiesOk Tryd.prog E_matrix_Transpose := bodies_none rfl
 have hBS : BodiesStepped E_matrix_Transpose LL_matrix_Transpose := bodies_stepped_none rfl
 have hS : SpecsOk Tryd.prog E_matrix_Transpose := specs_ok (by exact ⟨⟨by kernel_rfl, f_matrix_Check_holds⟩, ⟨by kernel_rfl, f_matrix_Width_holds⟩, trivial⟩)
 have hE : EOk Tryd.prog E_matrix_Transpose := eok_te ok
 exact fn_sound (L := LL_matrix_Transpose) hE hS hB (draws_ok hE hS (by kernel_rfl)) hBS (fn := Tryd.f13) (by kernel_rfl) (c := bodyOf Tryd.f13) (by kernel_rfl) (stepped_of (ls := [(6, l_matrix_Transpose_6L), (10, l_matrix_Transpose_10L)]) rfl rfl ⟨by kernel_rfl, fun _ => rfl, l_matrix_Transpose_6_step, by kernel_rfl, fun _ => rfl, l_matrix_Transpose_10_step, stepsI_end (by kernel_rfl)⟩) fun x r h => ⟨fuel, (f_matrix_Transpose_run fuel x).trans h⟩
noncomputable def E_rat_Q_Sign : Env := { te := te, spec := [], body := [] }
def LL_rat_Q_Sign : Loops := []
def f_rat_Q_Sign (k : Nat) (a0 : Bool × ((List Int) × (List Int))) : Option (Int) :=
 if ((a0.2.1.length : Int) == 0) = true then
  some 0
 else
  if a0.1 = true then
   some (-1)
  else
   some 1
theorem f_rat_Q_Sign_run (k : Nat) (x : denL [.pair .bool (.pair (.slice (.int .u32)) (.slice (.int .u32)))]) : runFn E_rat_Q_Sign LL_rat_Q_Sign k 37 Tryd.f37 [.pair .bool (.pair (.slice (.int .u32)) (.slice (.int .u32)))] [.imm (.int .i64)] x = f_rat_Q_Sign k x := by kernel_rfl
noncomputable def S_rat_Q_Sign : Vm.Spec := { ps := [.pair .bool (.pair (.slice (.int .u32)) (.slice (.int .u32)))], rs := [.imm (.int .i64)], f := fun x => f_rat_Q_Sign fuel x }
theorem f_rat_Q_Sign_holds : Vm.Spec.holds Tryd.prog 37 S_rat_Q_Sign := by
 have hB : BodiesOk Tryd.prog E_rat_Q_Sign := bodies_none rfl
 have hBS : BodiesStepped E_rat_Q_Sign LL_rat_Q_Sign := bodies_stepped_none rfl
 have hS : SpecsOk Tryd.prog E_rat_Q_Sign := specs_ok (by exact trivial)
 have hE : EOk Tryd.prog E_rat_Q_Sign := eok_te ok
 exact fn_sound (L := LL_rat_Q_Sign) hE hS hB (draws_ok hE hS (by kernel_rfl)) hBS (fn := Tryd.f37) (by kernel_rfl) (c := bodyOf Tryd.f37) (by kernel_rfl) (stepped_none rfl) fun x r h => ⟨fuel, (f_rat_Q_Sign_run fuel x).trans h⟩
noncomputable def E_rat_Q_Quo : Env := { te := te, spec := [(51, S_rat_low), (52, S_nat_N_Mul), (53, S_rat_Q_whole)], body := [] }
def LL_rat_Q_Quo : Loops := []
def f_rat_Q_Quo (k : Nat) (a0 : Bool × ((List Int) × (List Int))) (a1 : Bool × ((List Int) × (List Int))) : Option (Bool × ((List Int) × (List Int))) :=
 if ((a0.2.1.length : Int) == 0) = false then
  if ((a1.2.1.length : Int) == 0) = true then
   some (false, ([], []))
  else
   (f_rat_Q_whole fuel a1).bind fun r1 =>
   (f_nat_N_Mul fuel a0.2.1 r1).bind fun r2 =>
   (f_rat_Q_whole fuel a0).bind fun r3 =>
   (f_nat_N_Mul fuel r3 a1.2.1).bind fun r4 =>
   (f_rat_low fuel (!(a0.1 == a1.1)) r2 r4).bind fun r5 =>
   some r5
 else
  some (false, ([], []))
theorem f_rat_Q_Quo_run (k : Nat) (x : denL [.pair .bool (.pair (.slice (.int .u32)) (.slice (.int .u32))), .pair .bool (.pair (.slice (.int .u32)) (.slice (.int .u32)))]) : runFn E_rat_Q_Quo LL_rat_Q_Quo k 54 Tryd.f54 [.pair .bool (.pair (.slice (.int .u32)) (.slice (.int .u32))), .pair .bool (.pair (.slice (.int .u32)) (.slice (.int .u32)))] [.imm (.pair .bool (.pair (.slice (.int .u32)) (.slice (.int .u32))))] x = f_rat_Q_Quo k x.1 x.2 := by kernel_rfl
noncomputable def S_rat_Q_Quo : Vm.Spec := { ps := [.pair .bool (.pair (.slice (.int .u32)) (.slice (.int .u32))), .pair .bool (.pair (.slice (.int .u32)) (.slice (.int .u32)))], rs := [.imm (.pair .bool (.pair (.slice (.int .u32)) (.slice (.int .u32))))], f := fun x => f_rat_Q_Quo fuel x.1 x.2 }
theorem f_rat_Q_Quo_holds : Vm.Spec.holds Tryd.prog 54 S_rat_Q_Quo := by
 have hB : BodiesOk Tryd.prog E_rat_Q_Quo := bodies_none rfl
 have hBS : BodiesStepped E_rat_Q_Quo LL_rat_Q_Quo := bodies_stepped_none rfl
 have hS : SpecsOk Tryd.prog E_rat_Q_Quo := specs_ok (by exact ⟨⟨by kernel_rfl, f_rat_low_holds⟩, ⟨by kernel_rfl, f_nat_N_Mul_holds⟩, ⟨by kernel_rfl, f_rat_Q_whole_holds⟩, trivial⟩)
 have hE : EOk Tryd.prog E_rat_Q_Quo := eok_te ok
 exact fn_sound (L := LL_rat_Q_Quo) hE hS hB (draws_ok hE hS (by kernel_rfl)) hBS (fn := Tryd.f54) (by kernel_rfl) (c := bodyOf Tryd.f54) (by kernel_rfl) (stepped_none rfl) fun x r h => ⟨fuel, (f_rat_Q_Quo_run fuel x).trans h⟩
noncomputable def E_rat_Q_Neg : Env := { te := te, spec := [], body := [] }
def LL_rat_Q_Neg : Loops := []
def f_rat_Q_Neg (k : Nat) (a0 : Bool × ((List Int) × (List Int))) : Option (Bool × ((List Int) × (List Int))) :=
 if ((a0.2.1.length : Int) == 0) = true then
  some a0
 else
  some (!a0.1, a0.2)
theorem f_rat_Q_Neg_run (k : Nat) (x : denL [.pair .bool (.pair (.slice (.int .u32)) (.slice (.int .u32)))]) : runFn E_rat_Q_Neg LL_rat_Q_Neg k 38 Tryd.f38 [.pair .bool (.pair (.slice (.int .u32)) (.slice (.int .u32)))] [.imm (.pair .bool (.pair (.slice (.int .u32)) (.slice (.int .u32))))] x = f_rat_Q_Neg k x := by kernel_rfl
noncomputable def S_rat_Q_Neg : Vm.Spec := { ps := [.pair .bool (.pair (.slice (.int .u32)) (.slice (.int .u32)))], rs := [.imm (.pair .bool (.pair (.slice (.int .u32)) (.slice (.int .u32))))], f := fun x => f_rat_Q_Neg fuel x }
theorem f_rat_Q_Neg_holds : Vm.Spec.holds Tryd.prog 38 S_rat_Q_Neg := by
 have hB : BodiesOk Tryd.prog E_rat_Q_Neg := bodies_none rfl
 have hBS : BodiesStepped E_rat_Q_Neg LL_rat_Q_Neg := bodies_stepped_none rfl
 have hS : SpecsOk Tryd.prog E_rat_Q_Neg := specs_ok (by exact trivial)
 have hE : EOk Tryd.prog E_rat_Q_Neg := eok_te ok
 exact fn_sound (L := LL_rat_Q_Neg) hE hS hB (draws_ok hE hS (by kernel_rfl)) hBS (fn := Tryd.f38) (by kernel_rfl) (c := bodyOf Tryd.f38) (by kernel_rfl) (stepped_none rfl) fun x r h => ⟨fuel, (f_rat_Q_Neg_run fuel x).trans h⟩
noncomputable def E_rat_Q_Sub : Env := { te := te, spec := [(38, S_rat_Q_Neg), (46, S_rat_Q_Add)], body := [] }
def LL_rat_Q_Sub : Loops := []
def f_rat_Q_Sub (k : Nat) (a0 : Bool × ((List Int) × (List Int))) (a1 : Bool × ((List Int) × (List Int))) : Option (Bool × ((List Int) × (List Int))) :=
 (f_rat_Q_Neg fuel a1).bind fun r1 =>
 (f_rat_Q_Add fuel a0 r1).bind fun r2 =>
 some r2
theorem f_rat_Q_Sub_run (k : Nat) (x : denL [.pair .bool (.pair (.slice (.int .u32)) (.slice (.int .u32))), .pair .bool (.pair (.slice (.int .u32)) (.slice (.int .u32)))]) : runFn E_rat_Q_Sub LL_rat_Q_Sub k 55 Tryd.f55 [.pair .bool (.pair (.slice (.int .u32)) (.slice (.int .u32))), .pair .bool (.pair (.slice (.int .u32)) (.slice (.int .u32)))] [.imm (.pair .bool (.pair (.slice (.int .u32)) (.slice (.int .u32))))] x = f_rat_Q_Sub k x.1 x.2 := by kernel_rfl
noncomputable def S_rat_Q_Sub : Vm.Spec := { ps := [.pair .bool (.pair (.slice (.int .u32)) (.slice (.int .u32))), .pair .bool (.pair (.slice (.int .u32)) (.slice (.int .u32)))], rs := [.imm (.pair .bool (.pair (.slice (.int .u32)) (.slice (.int .u32))))], f := fun x => f_rat_Q_Sub fuel x.1 x.2 }
theorem f_rat_Q_Sub_holds : Vm.Spec.holds Tryd.prog 55 S_rat_Q_Sub := by
 have hB : BodiesOk Tryd.prog E_rat_Q_Sub := bodies_none rfl
 have hBS : BodiesStepped E_rat_Q_Sub LL_rat_Q_Sub := bodies_stepped_none rfl
 have hS : SpecsOk Tryd.prog E_rat_Q_Sub := specs_ok (by exact ⟨⟨by kernel_rfl, f_rat_Q_Neg_holds⟩, ⟨by kernel_rfl, f_rat_Q_Add_holds⟩, trivial⟩)
 have hE : EOk Tryd.prog E_rat_Q_Sub := eok_te ok
 exact fn_sound (L := LL_rat_Q_Sub) hE hS hB (draws_ok hE hS (by kernel_rfl)) hBS (fn := Tryd.f55) (by kernel_rfl) (c := bodyOf Tryd.f55) (by kernel_rfl) (stepped_none rfl) fun x r h => ⟨fuel, (f_rat_Q_Sub_run fuel x).trans h⟩
noncomputable def E_slices_Clone_Q : Env := { te := te, spec := [], body := [] }
def LL_slices_Clone_Q : Loops := []
def f_slices_Clone_Q (k : Nat) (a0 : Option (List (Bool × ((List Int) × (List Int))))) : Option (List (Bool × ((List Int) × (List Int)))) :=
 if a0.isNone = true then
  some []
 else
  if (0 + (a0.getD []).length) * 56 ≤ 140737488355328 then
   some ([] ++ (a0.getD []))
  else none
theorem f_slices_Clone_Q_run (k : Nat) (x : denL [.nsl (.pair .bool (.pair (.slice (.int .u32)) (.slice (.int .u32))))]) : runFn E_slices_Clone_Q LL_slices_Clone_Q k 49 Tryd.f49 [.nsl (.pair .bool (.pair (.slice (.int .u32)) (.slice (.int .u32))))] [.fresh (.pair .bool (.pair (.slice (.int .u32)) (.slice (.int .u32))))] x = f_slices_Clone_Q k x := by kernel_rfl
noncomputable def S_slices_Clone_Q : Vm.Spec := { ps := [.nsl (.pair .bool (.pair (.slice (.int .u32)) (.slice (.int .u32))))], rs := [.fresh (.pair .bool (.pair (.slice (.int .u32)) (.slice (.int .u32))))], f := fun x => f_slices_Clone_Q fuel x }
theorem f_slices_Clone_Q_holds : Vm.Spec.holds Tryd.prog 49 S_slices_Clone_Q := by
 have hB : BodiesOk Tryd.prog E_slices_Clone_Q := bodies_none rfl
 have hBS : BodiesStepped E_slices_Clone_Q LL_slices_Clone_Q := bodies_stepped_none rfl
 have hS : SpecsOk Tryd.prog E_slices_Clone_Q := specs_ok (by exact trivial)
 have hE : EOk Tryd.prog E_slices_Clone_Q := eok_te ok
 exact fn_sound (L := LL_slices_Clone_Q) hE hS hB (draws_ok hE hS (by kernel_rfl)) hBS (fn := Tryd.f49) (by kernel_rfl) (c := bodyOf Tryd.f49) (by kernel_rfl) (stepped_none rfl) fun x r h => ⟨fuel, (f_slices_Clone_Q_run fuel x).trans h⟩
def f_slices_Clone_Qs (x : List (Bool × ((List Int) × (List Int)))) := f_slices_Clone_Q fuel (some x)
noncomputable def S_slices_Clone_Qs : Vm.Spec := { ps := [.slice (.pair .bool (.pair (.slice (.int .u32)) (.slice (.int .u32))))], rs := [.fresh (.pair .bool (.pair (.slice (.int .u32)) (.slice (.int .u32))))], f := f_slices_Clone_Qs }
theorem f_slices_Clone_Qs_holds : Vm.Spec.holds Tryd.prog 49 S_slices_Clone_Qs := holds_nsl f_slices_Clone_Q_holds fun xs r h => ⟨h, fun e => by subst e; exact h⟩
noncomputable def E_matrix_Unique : Env := { te := te, spec := [(37, S_rat_Q_Sign), (39, S_rat_Q_Mul), (49, S_slices_Clone_Qs), (54, S_rat_Q_Quo), (55, S_rat_Q_Sub)], body := [(40, Tryd.f40)], rows := true }
def l_matrix_Unique_3H : Ann := { slots := [(1, .one (.val (.slice (.pair .bool (.pair (.slice (.int .u32)) (.slice (.int .u32))))))), (8, .one (.grd 140 (.pair .bool (.pair (.slice (.int .u32)) (.slice (.int .u32)))))), (18, .one (.val (.slice (.slice (.pair .bool (.pair (.slice (.int .u32)) (.slice (.int .u32)))))))), (19, .one (.val (.int .i64))), (20, .one (.val (.int .i64)))], objs := [(140, .mat (.pair .bool (.pair (.slice (.int .u32)) (.slice (.int .u32)))))] }
def l_matrix_Unique_3X : Ann := { slots := [(8, .one (.grd 140 (.pair .bool (.pair (.slice (.int .u32)) (.slice (.int .u32))))))], objs := [(140, .mat (.pair .bool (.pair (.slice (.int .u32)) (.slice (.int .u32)))))] }
def l_matrix_Unique_3R : Ann := { slots := [], objs := [] }
def l_matrix_Unique_12H : Ann := { slots := [(8, .one (.grd 140 (.pair .bool (.pair (.slice (.int .u32)) (.slice (.int .u32)))))), (12, .one (.val (.int .i64))), (13, .one (.val (.int .i64)))], objs := [(140, .mat (.pair .bool (.pair (.slice (.int .u32)) (.slice (.int .u32)))))] }
def l_matrix_Unique_12X : Ann := { slots := [(8, .one (.grd 140 (.pair .bool (.pair (.slice (.int .u32)) (.slice (.int .u32)))))), (13, .one (.val (.int .i64)))], objs := [(140, .mat (.pair .bool (.pair (.slice (.int .u32)) (.slice (.int .u32)))))] }
def l_matrix_Unique_12R : Ann := { slots := [], objs := [] }
def l_matrix_Sweep__matrix_Unique_2H : Ann := { slots := [(0, .one (.grd 140 (.pair .bool (.pair (.slice (.int .u32)) (.slice (.int .u32)))))), (1, .one (.val (.int .i64))), (6, .one (.fix (.pbox 4024 0))), (22, .one (.val (.int .i64))), (23, .one (.val (.int .i64)))], objs := [(140, .mat (.pair .bool (.pair (.slice (.int .u32)) (.slice (.int .u32))))), (4024, .box [.val .bool, .val (.slice (.int .u32)), .val (.slice (.int .u32))])] }
def l_matrix_Sweep__matrix_Unique_2X : Ann := { slots := [(0, .one (.grd 140 (.pair .bool (.pair (.slice (.int .u32)) (.slice (.int .u32))))))], objs := [(140, .mat (.pair .bool (.pair (.slice (.int .u32)) (.slice (.int .u32))))), (4024, .box [.val .bool, .val (.slice (.int .u32)), .val (.slice (.int .u32))])] }
def l_matrix_Sweep__matrix_Unique_2R : Ann := { slots := [], objs := [] }
def l_matrix_Sweep__matrix_Unique_12H : Ann := { slots := [(0, .one (.grd 140 (.pair .bool (.pair (.slice (.int .u32)) (.slice (.int .u32)))))), (1, .one (.val (.int .i64))), (8, .one (.val (.int .i64))), (9, .one (.fix (.pbox 36 0))), (66, .one (.val (.int .i64))), (67, .one (.val (.int .i64)))], objs := [(140, .mat (.pair .bool (.pair (.slice (.int .u32)) (.slice (.int .u32))))), (36, .box [.val .bool, .val (.slice (.int .u32)), .val (.slice (.int .u32))])] }
def l_matrix_Sweep__matrix_Unique_12X : Ann := { slots := [(0, .one (.grd 140 (.pair .bool (.pair (.slice (.int .u32)) (.slice (.int .u32))))))], objs := [(140, .mat (.pair .bool (.pair (.slice (.int .u32)) (.slice (.int .u32))))), (36, .box [.val .bool, .val (.slice (.int .u32)), .val (.slice (.int .u32))])] }
def l_matrix_Sweep__matrix_Unique_12R : Ann := { slots := [], objs := [] }
def l_matrix_Sweep__matrix_Unique_7H : Ann := { slots := [(0, .one (.grd 140 (.pair .bool (.pair (.slice (.int .u32)) (.slice (.int .u32)))))), (1, .one (.val (.int .i64))), (2, .one (.val (.int .i64))), (43, .one (.val (.int .i64))), (44, .one (.val (.int .i64)))], objs := [(140, .mat (.pair .bool (.pair (.slice (.int .u32)) (.slice (.int .u32)))))] }
def l_matrix_Sweep__matrix_Unique_7X : Ann := { slots := [], objs := [(140, .mat (.pair .bool (.pair (.slice (.int .u32)) (.slice (.int .u32)))))] }
def l_matrix_Sweep__matrix_Unique_7R : Ann := { slots := [], objs := [] }
def l_matrix_Unique_9H : Ann := { slots := [(8, .one (.grd 140 (.pair .bool (.pair (.slice (.int .u32)) (.slice (.int .u32)))))), (11, .one (.val (.int .i64))), (37, .one (.val (.int .i64))), (38, .one (.val (.int .i64)))], objs := [(140, .mat (.pair .bool (.pair (.slice (.int .u32)) (.slice (.int .u32)))))] }
def l_matrix_Unique_9X : Ann := { slots := [(8, .one (.grd 140 (.pair .bool (.pair (.slice (.int .u32)) (.slice (.int .u32)))))), (11, .one (.val (.int .i64)))], objs := [(140, .mat (.pair .bool (.pair (.slice (.int .u32)) (.slice (.int .u32)))))] }
def l_matrix_Unique_9R : Ann := { slots := [], objs := [] }
def l_matrix_Unique_20H : Ann := { slots := [(2, .one (.val (.int .i64))), (86, .one (.val (.slice (.slice (.pair .bool (.pair (.slice (.int .u32)) (.slice (.int .u32)))))))), (87, .one (.val (.int .i64))), (88, .one (.val (.int .i64)))], objs := [] }
def l_matrix_Unique_20X : Ann := { slots := [], objs := [] }
def l_matrix_Unique_20R : Ann := { slots := [(6, .one (.fix .nil)), (7, .one (.val (.int .i64)))], objs := [] }
def l_matrix_Unique_29H : Ann := { slots := [(2, .one (.val (.int .i64))), (8, .one (.val (.slice (.slice (.pair .bool (.pair (.slice (.int .u32)) (.slice (.int .u32)))))))), (16, .one (.own 412 (.pair .bool (.pair (.slice (.int .u32)) (.slice (.int .u32)))))), (105, .one (.val (.int .i64))), (106, .one (.val (.int .i64)))], objs := [(412, .buf (.pair .bool (.pair (.slice (.int .u32)) (.slice (.int .u32)))))] }
def l_matrix_Unique_29X : Ann := { slots := [(16, .one (.own 412 (.pair .bool (.pair (.slice (.int .u32)) (.slice (.int .u32))))))], objs := [(412, .buf (.pair .bool (.pair (.slice (.int .u32)) (.slice (.int .u32)))))] }
def l_matrix_Unique_29R : Ann := { slots := [], objs := [] }
def l_matrix_Unique_3 : Nat → List (Bool × ((List Int) × (List Int))) → List (List (Bool × ((List Int) × (List Int)))) → Int → Int → List (List (Bool × ((List Int) × (List Int)))) → Option (LR l_matrix_Unique_3X l_matrix_Unique_3R)
 | 0, _, _, _, _, _ => none
 | m + 1, s1, s18, s19, s20, b140 =>
  if decide (s20 < s19) = true then
   if (0 : Int) ≤ s20 then
    if s20 < s18.length then
     if (0 : Int) ≤ s20 then
      if s20 < s1.length then
       (f_slices_Clone_Qs (s18.getD s20.toNat [])).bind fun r1 =>
       if (r1.length + 1) * 56 ≤ 140737488355328 then
        if (b140.length + 1) * 24 ≤ 140737488355328 then
         l_matrix_Unique_3 m s1 s18 s19 (IntKind.i64.wrap (s20 + 1)) (b140 ++ [r1 ++ [((s1.getD s20.toNat (false, ([], []))).1, ((s1.getD s20.toNat (false, ([], []))).2))]])
        else none
       else none
      else none
     else none
    else none
   else none
  else
   some (.exit (b140, ()))
def l_matrix_Unique_3L : LSpec := { h := l_matrix_Unique_3H, x := l_matrix_Unique_3X, r := l_matrix_Unique_3R, xid := 0, rt := false, pins := [], f := fun k d => l_matrix_Unique_3 k d.1 d.2.1 d.2.2.1 d.2.2.2.1 d.2.2.2.2.1 }
def l_matrix_Unique_12 : Nat → Int → Int → List (List (Bool × ((List Int) × (List Int)))) → Option (LR l_matrix_Unique_12X l_matrix_Unique_12R)
 | 0, _, _, _ => none
 | m + 1, s12, s13, b140 =>
  if decide (s13 < (b140.length : Int)) = true then
   if (0 : Int) ≤ s13 then
    if s13 < b140.length then
     if (0 : Int) ≤ s12 then
      if s12 < (b140.getD s13.toNat []).length then
       (f_rat_Q_Sign fuel (((b140.getD s13.toNat []).getD s12.toNat (false, ([], []))).1, (((b140.getD s13.toNat []).getD s12.toNat (false, ([], []))).2))).bind fun r1 =>
       if (r1 == 0) = true then
        l_matrix_Unique_12 m s12 (IntKind.i64.wrap (s13 + 1)) b140
       else
        some (.exit (s13, b140, ()))
      else none
     else none
    else none
   else none
  else
   some (.exit (s13, b140, ()))
def l_matrix_Unique_12L : LSpec := { h := l_matrix_Unique_12H, x := l_matrix_Unique_12X, r := l_matrix_Unique_12R, xid := 4, rt := false, pins := [140], f := fun k d => l_matrix_Unique_12 k d.1 d.2.1 d.2.2.1 }
def l_matrix_Sweep__matrix_Unique_2 : Nat → Int → Int → Int → List (List (Bool × ((List Int) × (List Int)))) → Bool → List Int → List Int → Option (LR l_matrix_Sweep__matrix_Unique_2X l_matrix_Sweep__matrix_Unique_2R)
 | 0, _, _, _, _, _, _, _ => none
 | m + 1, s1, s22, s23, b140, b4024_0, b4024_1, b4024_2 =>
  if decide (s23 < s22) = true then
   if (0 : Int) ≤ s1 then
    if s1 < b140.length then
     if (0 : Int) ≤ s1 then
      if s1 < b140.length then
       if (0 : Int) ≤ s23 then
        if s23 < (b140.getD s1.toNat []).length then
         (f_rat_Q_Quo fuel (((b140.getD s1.toNat []).getD s23.toNat (false, ([], []))).1, (((b140.getD s1.toNat []).getD s23.toNat (false, ([], []))).2)) (b4024_0, (b4024_1, b4024_2))).bind fun r1 =>
         if (0 : Int) ≤ s23 then
          if s23 < (b140.getD s1.toNat []).length then
           l_matrix_Sweep__matrix_Unique_2 m s1 s22 (IntKind.i64.wrap (s23 + 1)) (b140.set s1.toNat ((b140.getD s1.toNat []).set s23.toNat r1)) b4024_0 b4024_1 b4024_2
          else none
         else none
        else none
       else none
      else none
     else none
    else none
   else none
  else
   some (.exit (b140, b4024_0, b4024_1, b4024_2, ()))
def l_matrix_Sweep__matrix_Unique_2L : LSpec := { h := l_matrix_Sweep__matrix_Unique_2H, x := l_matrix_Sweep__matrix_Unique_2X, r := l_matrix_Sweep__matrix_Unique_2R, xid := 0, rt := false, pins := [140, 4024], f := fun k d => l_matrix_Sweep__matrix_Unique_2 k d.1 d.2.1 d.2.2.1 d.2.2.2.1 d.2.2.2.2.1 d.2.2.2.2.2.1 d.2.2.2.2.2.2.1 }
def l_matrix_Sweep__matrix_Unique_12 : Nat → Int → Int → Int → Int → List (List (Bool × ((List Int) × (List Int)))) → Bool → List Int → List Int → Option (LR l_matrix_Sweep__matrix_Unique_12X l_matrix_Sweep__matrix_Unique_12R)
 | 0, _, _, _, _, _, _, _, _ => none
 | m + 1, s1, s8, s66, s67, b140, b36_0, b36_1, b36_2 =>
  if decide (s67 < s66) = true then
   if (0 : Int) ≤ s8 then
    if s8 < b140.length then
     if (0 : Int) ≤ s8 then
      if s8 < b140.length then
       if (0 : Int) ≤ s67 then
        if s67 < (b140.getD s8.toNat []).length then
         if (0 : Int) ≤ s1 then
          if s1 < b140.length then
           if (0 : Int) ≤ s67 then
            if s67 < (b140.getD s1.toNat []).length then
             (f_rat_Q_Mul fuel (b36_0, (b36_1, b36_2)) (((b140.getD s1.toNat []).getD s67.toNat (false, ([], []))).1, (((b140.getD s1.toNat []).getD s67.toNat (false, ([], []))).2))).bind fun r1 =>
             (f_rat_Q_Sub fuel (((b140.getD s8.toNat []).getD s67.toNat (false, ([], []))).1, (((b140.getD s8.toNat []).getD s67.toNat (false, ([], []))).2)) r1).bind fun r2 =>
             if (0 : Int) ≤ s67 then
              if s67 < (b140.getD s8.toNat []).length then
               l_matrix_Sweep__matrix_Unique_12 m s1 s8 s66 (IntKind.i64.wrap (s67 + 1)) (b140.set s8.toNat ((b140.getD s8.toNat []).set s67.toNat r2)) b36_0 b36_1 b36_2
              else none
             else none
            else none
           else none
          else none
         else none
        else none
       else none
      else none
     else none
    else none
   else none
  else
   some (.exit (b140, b36_0, b36_1, b36_2, ()))
def l_matrix_Sweep__matrix_Unique_12L : LSpec := { h := l_matrix_Sweep__matrix_Unique_12H, x := l_matrix_Sweep__matrix_Unique_12X, r := l_matrix_Sweep__matrix_Unique_12R, xid := 4, rt := false, pins := [140, 36], f := fun k d => l_matrix_Sweep__matrix_Unique_12 k d.1 d.2.1 d.2.2.1 d.2.2.2.1 d.2.2.2.2.1 d.2.2.2.2.2.1 d.2.2.2.2.2.2.1 d.2.2.2.2.2.2.2.1 }
def l_matrix_Sweep__matrix_Unique_7 : Nat → Int → Int → Int → Int → List (List (Bool × ((List Int) × (List Int)))) → Option (LR l_matrix_Sweep__matrix_Unique_7X l_matrix_Sweep__matrix_Unique_7R)
 | 0, _, _, _, _, _ => none
 | m + 1, s1, s2, s43, s44, b140 =>
  if decide (s44 < s43) = true then
   if (0 : Int) ≤ s44 then
    if s44 < b140.length then
     if (0 : Int) ≤ s2 then
      if s2 < (b140.getD s44.toNat []).length then
       if (s44 == s1) = false then
        (f_rat_Q_Sign fuel (((b140.getD s44.toNat []).getD s2.toNat (false, ([], []))).1, (((b140.getD s44.toNat []).getD s2.toNat (false, ([], []))).2))).bind fun r1 =>
        if (r1 == 0) = true then
         l_matrix_Sweep__matrix_Unique_7 m s1 s2 s43 (IntKind.i64.wrap (s44 + 1)) b140
        else
         if (0 : Int) ≤ s44 then
          if s44 < b140.length then
           match l_matrix_Sweep__matrix_Unique_12 m s1 s44 ((b140.getD s44.toNat []).length : Int) 0 b140 (((b140.getD s44.toNat []).getD s2.toNat (false, ([], []))).1) ((((b140.getD s44.toNat []).getD s2.toNat (false, ([], []))).2).1) ((((b140.getD s44.toNat []).getD s2.toNat (false, ([], []))).2).2) with
           | none => none
           | some (.exit d2) =>
            l_matrix_Sweep__matrix_Unique_7 m s1 s2 s43 (IntKind.i64.wrap (s44 + 1)) d2.1
           | some (.ret d2) =>
            none
          else none
         else none
       else
        l_matrix_Sweep__matrix_Unique_7 m s1 s2 s43 (IntKind.i64.wrap (s44 + 1)) b140
      else none
     else none
    else none
   else none
  else
   some (.exit (b140, ()))
def l_matrix_Sweep__matrix_Unique_7L : LSpec := { h := l_matrix_Sweep__matrix_Unique_7H, x := l_matrix_Sweep__matrix_Unique_7X, r := l_matrix_Sweep__matrix_Unique_7R, xid := 2, rt := false, pins := [140], f := fun k d => l_matrix_Sweep__matrix_Unique_7 k d.1 d.2.1 d.2.2.1 d.2.2.2.1 d.2.2.2.2.1 }
def l_matrix_Unique_9 : Nat → Int → Int → Int → List (List (Bool × ((List Int) × (List Int)))) → Option (LR l_matrix_Unique_9X l_matrix_Unique_9R)
 | 0, _, _, _, _ => none
 | m + 1, s11, s37, s38, b140 =>
  if decide (s38 < s37) = true then
   match l_matrix_Unique_12 m s38 s11 b140 with
   | none => none
   | some (.exit d1) =>
    if (d1.1 == (d1.2.1.length : Int)) = true then
     l_matrix_Unique_9 m s11 s37 (IntKind.i64.wrap (s38 + 1)) d1.2.1
    else
     if (0 : Int) ≤ d1.1 then
      if d1.1 < d1.2.1.length then
       if (0 : Int) ≤ s11 then
        if s11 < d1.2.1.length then
         if (0 : Int) ≤ s11 then
          if s11 < d1.2.1.length then
           if d1.1.toNat < d1.2.1.length then
            if (0 : Int) ≤ d1.1 then
             if d1.1 < d1.2.1.length then
              if d1.1.toNat = d1.1.toNat ∧ s11.toNat = s11.toNat then
               if (0 : Int) ≤ s11 then
                if s11 < ((d1.2.1.set s11.toNat (d1.2.1.getD d1.1.toNat [])).set d1.1.toNat (d1.2.1.getD s11.toNat [])).length then
                 if (0 : Int) ≤ s38 then
                  if s38 < (((d1.2.1.set s11.toNat (d1.2.1.getD d1.1.toNat [])).set d1.1.toNat (d1.2.1.getD s11.toNat [])).getD s11.toNat []).length then
                   if (0 : Int) ≤ s11 then
                    if s11 < ((d1.2.1.set s11.toNat (d1.2.1.getD d1.1.toNat [])).set d1.1.toNat (d1.2.1.getD s11.toNat [])).length then
                     match l_matrix_Sweep__matrix_Unique_2 m s11 ((((d1.2.1.set s11.toNat (d1.2.1.getD d1.1.toNat [])).set d1.1.toNat (d1.2.1.getD s11.toNat [])).getD s11.toNat []).length : Int) 0 ((d1.2.1.set s11.toNat (d1.2.1.getD d1.1.toNat [])).set d1.1.toNat (d1.2.1.getD s11.toNat [])) (((((d1.2.1.set s11.toNat (d1.2.1.getD d1.1.toNat [])).set d1.1.toNat (d1.2.1.getD s11.toNat [])).getD s11.toNat []).getD s38.toNat (false, ([], []))).1) ((((((d1.2.1.set s11.toNat (d1.2.1.getD d1.1.toNat [])).set d1.1.toNat (d1.2.1.getD s11.toNat [])).getD s11.toNat []).getD s38.toNat (false, ([], []))).2).1) ((((((d1.2.1.set s11.toNat (d1.2.1.getD d1.1.toNat [])).set d1.1.toNat (d1.2.1.getD s11.toNat [])).getD s11.toNat []).getD s38.toNat (false, ([], []))).2).2) with
                     | none => none
                     | some (.exit d2) =>
                      match l_matrix_Sweep__matrix_Unique_7 m s11 s38 (d2.1.length : Int) 0 d2.1 with
                      | none => none
                      | some (.exit d3) =>
                       l_matrix_Unique_9 m (IntKind.i64.wrap (s11 + 1)) s37 (IntKind.i64.wrap (s38 + 1)) d3.1
                      | some (.ret d3) =>
                       none
                     | some (.ret d2) =>
                      none
                    else none
                   else none
                  else none
                 else none
                else none
               else none
              else none
             else none
            else none
           else none
          else none
         else none
        else none
       else none
      else none
     else none
   | some (.ret d1) =>
    none
  else
   some (.exit (s11, b140, ()))
def l_matrix_Unique_9L : LSpec := { h := l_matrix_Unique_9H, x := l_matrix_Unique_9X, r := l_matrix_Unique_9R, xid := 2, rt := false, pins := [], f := fun k d => l_matrix_Unique_9 k d.1 d.2.1 d.2.2.1 d.2.2.2.1 }
def l_matrix_Unique_20 : Nat → Int → List (List (Bool × ((List Int) × (List Int)))) → Int → Int → Option (LR l_matrix_Unique_20X l_matrix_Unique_20R)
 | 0, _, _, _, _ => none
 | m + 1, s2, s86, s87, s88 =>
  if decide (s88 < s87) = true then
   if (0 : Int) ≤ s88 then
    if s88 < s86.length then
     if (0 : Int) ≤ s2 then
      if s2 < (s86.getD s88.toNat []).length then
       (f_rat_Q_Sign fuel (((s86.getD s88.toNat []).getD s2.toNat (false, ([], []))).1, (((s86.getD s88.toNat []).getD s2.toNat (false, ([], []))).2))).bind fun r1 =>
       if (r1 != 0) = true then
        some (.ret (0, ()))
       else
        l_matrix_Unique_20 m s2 s86 s87 (IntKind.i64.wrap (s88 + 1))
      else none
     else none
    else none
   else none
  else
   some (.exit ())
def l_matrix_Unique_20L : LSpec := { h := l_matrix_Unique_20H, x := l_matrix_Unique_20X, r := l_matrix_Unique_20R, xid := 6, rt := true, pins := [], f := fun k d => l_matrix_Unique_20 k d.1 d.2.1 d.2.2.1 d.2.2.2.1 }
def l_matrix_Unique_29 : Nat → Int → List (List (Bool × ((List Int) × (List Int)))) → Int → Int → List (Bool × ((List Int) × (List Int))) → Option (LR l_matrix_Unique_29X l_matrix_Unique_29R)
 | 0, _, _, _, _, _ => none
 | m + 1, s2, s8, s105, s106, b412 =>
  if decide (s106 < s105) = true then
   if (0 : Int) ≤ s106 then
    if s106 < s8.length then
     if (0 : Int) ≤ s2 then
      if s2 < (s8.getD s106.toNat []).length then
       if (0 : Int) ≤ s106 then
        if s106 < b412.length then
         l_matrix_Unique_29 m s2 s8 s105 (IntKind.i64.wrap (s106 + 1)) (b412.set s106.toNat (((s8.getD s106.toNat []).getD s2.toNat (false, ([], []))).1, (((s8.getD s106.toNat []).getD s2.toNat (false, ([], []))).2)))
        else none
       else none
      else none
     else none
    else none
   else none
  else
   some (.exit (b412, ()))
def l_matrix_Unique_29L : LSpec := { h := l_matrix_Unique_29H, x := l_matrix_Unique_29X, r := l_matrix_Unique_29R, xid := 8, rt := false, pins := [412], f := fun k d => l_matrix_Unique_29 k d.1 d.2.1 d.2.2.1 d.2.2.2.1 d.2.2.2.2.1 }
def LL_matrix_Unique : Loops := [([35], [(3, l_matrix_Unique_3L), (9, l_matrix_Unique_9L), (12, l_matrix_Unique_12L), (20, l_matrix_Unique_20L), (29, l_matrix_Unique_29L)]), ([40, 35], [(2, l_matrix_Sweep__matrix_Unique_2L), (7, l_matrix_Sweep__matrix_Unique_7L), (12, l_matrix_Sweep__matrix_Unique_12L)])]
def f_matrix_Unique (k : Nat) (a0 : List (List (Bool × ((List Int) × (List Int))))) (a1 : List (Bool × ((List Int) × (List Int)))) (a2 : Int) : Option (List (Bool × ((List Int) × (List Int))) × Int) :=
 match l_matrix_Unique_3 k a1 a0 (a0.length : Int) 0 [] with
 | none => none
 | some (.exit d1) =>
  match l_matrix_Unique_9 k 0 a2 0 d1.1 with
  | none => none
  | some (.exit d2) =>
   if (0 : Int) ≤ d2.1 then
    if d2.1 ≤ d2.2.1.length then
     match l_matrix_Unique_20 k a2 ((d2.2.1.take d2.2.1.length).drop d2.1.toNat) (((d2.2.1.take d2.2.1.length).drop d2.1.toNat).length : Int) 0 with
     | none => none
     | some (.exit d3) =>
      if decide (d2.1 < a2) = true then
       some ([], 2)
      else
       if (0 : Int) ≤ a2 then
        if a2 ≤ a2 then
         if a2 * 56 ≤ 281474976710656 then
          match l_matrix_Unique_29 k a2 d2.2.1 ((List.replicate a2.toNat ((false, ([], [])) : Bool × ((List Int) × (List Int)))).length : Int) 0 (List.replicate a2.toNat ((false, ([], [])) : Bool × ((List Int) × (List Int)))) with
          | none => none
          | some (.exit d4) =>
           some (d4.1, 1)
          | some (.ret d4) =>
           none
         else none
        else none
       else none
     | some (.ret d3) =>
      some ([], d3.1)
    else none
   else none
  | some (.ret d2) =>
   none
 | some (.ret d1) =>
  none
theorem l_matrix_Unique_3_step (m : Nat) (d : dens l_matrix_Unique_3H.tys) : l_matrix_Unique_3L.f (m + 1) d = round E_matrix_Unique LL_matrix_Unique m [35] 121 (loopN (bodyOf Tryd.f35) 0) l_matrix_Unique_3L (l_matrix_Unique_3L.f m) d := by kernel_rfl
theorem l_matrix_Unique_12_step (m : Nat) (d : dens l_matrix_Unique_12H.tys) : l_matrix_Unique_12L.f (m + 1) d = round E_matrix_Unique LL_matrix_Unique m [35] 121 (loopN (bodyOf Tryd.f35) 2) l_matrix_Unique_12L (l_matrix_Unique_12L.f m) d := by kernel_rfl
theorem l_matrix_Sweep__matrix_Unique_2_step (m : Nat) (d : dens l_matrix_Sweep__matrix_Unique_2H.tys) : l_matrix_Sweep__matrix_Unique_2L.f (m + 1) d = round E_matrix_Unique LL_matrix_Unique m [40, 35] 95 (loopN (bodyOf Tryd.f40) 0) l_matrix_Sweep__matrix_Unique_2L (l_matrix_Sweep__matrix_Unique_2L.f m) d := by kernel_rfl
theorem l_matrix_Sweep__matrix_Unique_12_step (m : Nat) (d : dens l_matrix_Sweep__matrix_Unique_12H.tys) : l_matrix_Sweep__matrix_Unique_12L.f (m + 1) d = round E_matrix_Unique LL_matrix_Unique m [40, 35] 95 (loopN (bodyOf Tryd.f40) 2) l_matrix_Sweep__matrix_Unique_12L (l_matrix_Sweep__matrix_Unique_12L.f m) d := by kernel_rfl
theorem l_matrix_Sweep__matrix_Unique_7_step (m : Nat) (d : dens l_matrix_Sweep__matrix_Unique_7H.tys) : l_matrix_Sweep__matrix_Unique_7L.f (m + 1) d = round E_matrix_Unique LL_matrix_Unique m [40, 35] 95 (loopN (bodyOf Tryd.f40) 1) l_matrix_Sweep__matrix_Unique_7L (l_matrix_Sweep__matrix_Unique_7L.f m) d := by kernel_rfl
theorem l_matrix_Unique_9_step (m : Nat) (d : dens l_matrix_Unique_9H.tys) : l_matrix_Unique_9L.f (m + 1) d = round E_matrix_Unique LL_matrix_Unique m [35] 121 (loopN (bodyOf Tryd.f35) 1) l_matrix_Unique_9L (l_matrix_Unique_9L.f m) d := by kernel_rfl
theorem l_matrix_Unique_20_step (m : Nat) (d : dens l_matrix_Unique_20H.tys) : l_matrix_Unique_20L.f (m + 1) d = round E_matrix_Unique LL_matrix_Unique m [35] 121 (loopN (bodyOf Tryd.f35) 3) l_matrix_Unique_20L (l_matrix_Unique_20L.f m) d := by kernel_rfl
theorem l_matrix_Unique_29_step (m : Nat) (d : dens l_matrix_Unique_29H.tys) : l_matrix_Unique_29L.f (m + 1) d = round E_matrix_Unique LL_matrix_Unique m [35] 121 (loopN (bodyOf Tryd.f35) 4) l_matrix_Unique_29L (l_matrix_Unique_29L.f m) d := by kernel_rfl
theorem f_matrix_Unique_run (k : Nat) (x : denL [.slice (.slice (.pair .bool (.pair (.slice (.int .u32)) (.slice (.int .u32))))), .slice (.pair .bool (.pair (.slice (.int .u32)) (.slice (.int .u32)))), .int .i64]) : runFn E_matrix_Unique LL_matrix_Unique k 35 Tryd.f35 [.slice (.slice (.pair .bool (.pair (.slice (.int .u32)) (.slice (.int .u32))))), .slice (.pair .bool (.pair (.slice (.int .u32)) (.slice (.int .u32)))), .int .i64] [.fresh (.pair .bool (.pair (.slice (.int .u32)) (.slice (.int .u32)))), .imm (.int .i64)] x = f_matrix_Unique k x.1 x.2.1 x.2.2 := by kernel_rfl
noncomputable def S_matrix_Unique : Vm.Spec := { ps := [.slice (.slice (.pair .bool (.pair (.slice (.int .u32)) (.slice (.int .u32))))), .slice (.pair .bool (.pair (.slice (.int .u32)) (.slice (.int .u32)))), .int .i64], rs := [.fresh (.pair .bool (.pair (.slice (.int .u32)) (.slice (.int .u32)))), .imm (.int .i64)], f := fun x => f_matrix_Unique fuel x.1 x.2.1 x.2.2 }
theorem f_matrix_Unique_holds : Vm.Spec.holds Tryd.prog 35 S_matrix_Unique := by
 have hB : BodiesOk Tryd.prog E_matrix_Unique := bodies_ok (by exact ⟨by kernel_rfl, by kernel_rfl, trivial⟩)
 have hBS : BodiesStepped E_matrix_Unique LL_matrix_Unique := by
  refine bodies_stepped ?_
  exact ⟨(stepped_paths [[35]] (by exact ⟨stepped_of (ls := [(2, l_matrix_Sweep__matrix_Unique_2L), (7, l_matrix_Sweep__matrix_Unique_7L), (12, l_matrix_Sweep__matrix_Unique_12L)]) rfl rfl ⟨by kernel_rfl, fun _ => rfl, l_matrix_Sweep__matrix_Unique_2_step, by kernel_rfl, fun _ => rfl, l_matrix_Sweep__matrix_Unique_7_step, by kernel_rfl, fun _ => rfl, l_matrix_Sweep__matrix_Unique_12_step, stepsI_end (by kernel_rfl)⟩,  trivial⟩) rfl),  trivial⟩
 have hS : SpecsOk Tryd.prog E_matrix_Unique := specs_ok (by exact ⟨⟨by kernel_rfl, f_rat_Q_Sign_holds⟩, ⟨by kernel_rfl, f_rat_Q_Mul_holds⟩, ⟨by kernel_rfl, f_slices_Clone_Qs_holds⟩, ⟨by kernel_rfl, f_rat_Q_Quo_holds⟩, ⟨by kernel_rfl, f_rat_Q_Sub_holds⟩, trivial⟩)
 have hE : EOk Tryd.prog E_matrix_Unique := eok_te ok
 exact fn_sound (L := LL_matrix_Unique) hE hS hB (draws_ok hE hS (by kernel_rfl)) hBS (fn := Tryd.f35) (by kernel_rfl) (c := bodyOf Tryd.f35) (by kernel_rfl) (stepped_of (ls := [(3, l_matrix_Unique_3L), (9, l_matrix_Unique_9L), (12, l_matrix_Unique_12L), (20, l_matrix_Unique_20L), (29, l_matrix_Unique_29L)]) rfl rfl ⟨by kernel_rfl, fun _ => rfl, l_matrix_Unique_3_step, by kernel_rfl, fun _ => rfl, l_matrix_Unique_9_step, by kernel_rfl, fun _ => rfl, l_matrix_Unique_12_step, by kernel_rfl, fun _ => rfl, l_matrix_Unique_20_step, by kernel_rfl, fun _ => rfl, l_matrix_Unique_29_step, stepsI_end (by kernel_rfl)⟩) fun x r h => ⟨fuel, (f_matrix_Unique_run fuel x).trans h⟩
noncomputable def E_rat_Int : Env := { te := te, spec := [(50, S_nat_Of)], body := [] }
def LL_rat_Int : Loops := []
def f_rat_Int (k : Nat) (a0 : Int) : Option (Bool × ((List Int) × (List Int))) :=
 if decide (a0 < 0) = true then
  (f_nat_Of fuel (IntKind.i64.wrap (0 - a0))).bind fun r1 =>
  (f_nat_Of fuel 1).bind fun r2 =>
  some (true, (r1, r2))
 else
  (f_nat_Of fuel a0).bind fun r3 =>
  (f_nat_Of fuel 1).bind fun r4 =>
  some (false, (r3, r4))
theorem f_rat_Int_run (k : Nat) (x : denL [.int .i64]) : runFn E_rat_Int LL_rat_Int k 36 Tryd.f36 [.int .i64] [.imm (.pair .bool (.pair (.slice (.int .u32)) (.slice (.int .u32))))] x = f_rat_Int k x := by kernel_rfl
noncomputable def S_rat_Int : Vm.Spec := { ps := [.int .i64], rs := [.imm (.pair .bool (.pair (.slice (.int .u32)) (.slice (.int .u32))))], f := fun x => f_rat_Int fuel x }
theorem f_rat_Int_holds : Vm.Spec.holds Tryd.prog 36 S_rat_Int := by
 have hB : BodiesOk Tryd.prog E_rat_Int := bodies_none rfl
 have hBS : BodiesStepped E_rat_Int LL_rat_Int := bodies_stepped_none rfl
 have hS : SpecsOk Tryd.prog E_rat_Int := specs_ok (by exact ⟨⟨by kernel_rfl, f_nat_Of_holds⟩, trivial⟩)
 have hE : EOk Tryd.prog E_rat_Int := eok_te ok
 exact fn_sound (L := LL_rat_Int) hE hS hB (draws_ok hE hS (by kernel_rfl)) hBS (fn := Tryd.f36) (by kernel_rfl) (c := bodyOf Tryd.f36) (by kernel_rfl) (stepped_none rfl) fun x r h => ⟨fuel, (f_rat_Int_run fuel x).trans h⟩
noncomputable def E_matrix_Det : Env := { te := te, spec := [(19, S_matrix_Check), (24, S_matrix_Width), (33, S_matrix_Row), (36, S_rat_Int), (37, S_rat_Q_Sign), (38, S_rat_Q_Neg), (39, S_rat_Q_Mul), (41, S_rat_Fits), (42, S_rat_Q_Out), (54, S_rat_Q_Quo), (55, S_rat_Q_Sub)], body := [(26, Tryd.f26), (40, Tryd.f40)], rows := true }
def l_matrix_In__matrix_Det_3H : Ann := { slots := [(3, .one (.grd 64 (.pair .bool (.pair (.slice (.int .u32)) (.slice (.int .u32)))))), (6, .one (.val (.slice (.slice .str)))), (7, .one (.val (.int .i64))), (8, .one (.val (.int .i64)))], objs := [(64, .mat (.pair .bool (.pair (.slice (.int .u32)) (.slice (.int .u32)))))] }
def l_matrix_In__matrix_Det_3X : Ann := { slots := [(3, .one (.grd 64 (.pair .bool (.pair (.slice (.int .u32)) (.slice (.int .u32))))))], objs := [(64, .mat (.pair .bool (.pair (.slice (.int .u32)) (.slice (.int .u32)))))] }
def l_matrix_In__matrix_Det_3R : Ann := { slots := [], objs := [] }
def l_matrix_Det_11H : Ann := { slots := [(5, .one (.grd 64 (.pair .bool (.pair (.slice (.int .u32)) (.slice (.int .u32)))))), (7, .one (.val (.int .i64))), (8, .one (.val (.int .i64)))], objs := [(64, .mat (.pair .bool (.pair (.slice (.int .u32)) (.slice (.int .u32)))))] }
def l_matrix_Det_11X : Ann := { slots := [(5, .one (.grd 64 (.pair .bool (.pair (.slice (.int .u32)) (.slice (.int .u32)))))), (8, .one (.val (.int .i64)))], objs := [(64, .mat (.pair .bool (.pair (.slice (.int .u32)) (.slice (.int .u32)))))] }
def l_matrix_Det_11R : Ann := { slots := [], objs := [] }
def l_matrix_Sweep__matrix_Det_2H : Ann := { slots := [(0, .one (.grd 64 (.pair .bool (.pair (.slice (.int .u32)) (.slice (.int .u32)))))), (1, .one (.val (.int .i64))), (6, .one (.fix (.pbox 4024 0))), (22, .one (.val (.int .i64))), (23, .one (.val (.int .i64)))], objs := [(64, .mat (.pair .bool (.pair (.slice (.int .u32)) (.slice (.int .u32))))), (4024, .box [.val .bool, .val (.slice (.int .u32)), .val (.slice (.int .u32))])] }
def l_matrix_Sweep__matrix_Det_2X : Ann := { slots := [(0, .one (.grd 64 (.pair .bool (.pair (.slice (.int .u32)) (.slice (.int .u32))))))], objs := [(64, .mat (.pair .bool (.pair (.slice (.int .u32)) (.slice (.int .u32))))), (4024, .box [.val .bool, .val (.slice (.int .u32)), .val (.slice (.int .u32))])] }
def l_matrix_Sweep__matrix_Det_2R : Ann := { slots := [], objs := [] }
def l_matrix_Sweep__matrix_Det_12H : Ann := { slots := [(0, .one (.grd 64 (.pair .bool (.pair (.slice (.int .u32)) (.slice (.int .u32)))))), (1, .one (.val (.int .i64))), (8, .one (.val (.int .i64))), (9, .one (.fix (.pbox 36 0))), (66, .one (.val (.int .i64))), (67, .one (.val (.int .i64)))], objs := [(64, .mat (.pair .bool (.pair (.slice (.int .u32)) (.slice (.int .u32))))), (36, .box [.val .bool, .val (.slice (.int .u32)), .val (.slice (.int .u32))])] }
def l_matrix_Sweep__matrix_Det_12X : Ann := { slots := [(0, .one (.grd 64 (.pair .bool (.pair (.slice (.int .u32)) (.slice (.int .u32))))))], objs := [(64, .mat (.pair .bool (.pair (.slice (.int .u32)) (.slice (.int .u32))))), (36, .box [.val .bool, .val (.slice (.int .u32)), .val (.slice (.int .u32))])] }
def l_matrix_Sweep__matrix_Det_12R : Ann := { slots := [], objs := [] }
def l_matrix_Sweep__matrix_Det_7H : Ann := { slots := [(0, .one (.grd 64 (.pair .bool (.pair (.slice (.int .u32)) (.slice (.int .u32)))))), (1, .one (.val (.int .i64))), (2, .one (.val (.int .i64))), (43, .one (.val (.int .i64))), (44, .one (.val (.int .i64)))], objs := [(64, .mat (.pair .bool (.pair (.slice (.int .u32)) (.slice (.int .u32)))))] }
def l_matrix_Sweep__matrix_Det_7X : Ann := { slots := [], objs := [(64, .mat (.pair .bool (.pair (.slice (.int .u32)) (.slice (.int .u32)))))] }
def l_matrix_Sweep__matrix_Det_7R : Ann := { slots := [], objs := [] }
def l_matrix_Det_8H : Ann := { slots := [(5, .one (.grd 64 (.pair .bool (.pair (.slice (.int .u32)) (.slice (.int .u32)))))), (6, .one (.fix (.pbox 24 0))), (24, .one (.val (.int .i64))), (25, .one (.val (.int .i64)))], objs := [(64, .mat (.pair .bool (.pair (.slice (.int .u32)) (.slice (.int .u32))))), (24, .box [.val .bool, .val (.slice (.int .u32)), .val (.slice (.int .u32))])] }
def l_matrix_Det_8X : Ann := { slots := [(6, .one (.fix (.pbox 24 0)))], objs := [(24, .box [.val .bool, .val (.slice (.int .u32)), .val (.slice (.int .u32))])] }
def l_matrix_Det_8R : Ann := { slots := [(2, .one (.val .str)), (3, .one (.val (.int .i64)))], objs := [(24, .box [.val .bool, .val (.slice (.int .u32)), .val (.slice (.int .u32))])] }
def l_matrix_In__matrix_Det_3 : Nat → List (List ByteArray) → Int → Int → List (List (Bool × ((List Int) × (List Int)))) → Option (LR l_matrix_In__matrix_Det_3X l_matrix_In__matrix_Det_3R)
 | 0, _, _, _, _ => none
 | m + 1, s6, s7, s8, b64 =>
  if decide (s8 < s7) = true then
   if (0 : Int) ≤ s8 then
    if s8 < s6.length then
     (f_matrix_Row fuel (s6.getD s8.toNat [])).bind fun r1 =>
     if (b64.length + 1) * 24 ≤ 140737488355328 then
      l_matrix_In__matrix_Det_3 m s6 s7 (IntKind.i64.wrap (s8 + 1)) (b64 ++ [r1])
     else none
    else none
   else none
  else
   some (.exit (b64, ()))
def l_matrix_In__matrix_Det_3L : LSpec := { h := l_matrix_In__matrix_Det_3H, x := l_matrix_In__matrix_Det_3X, r := l_matrix_In__matrix_Det_3R, xid := 0, rt := false, pins := [], f := fun k d => l_matrix_In__matrix_Det_3 k d.1 d.2.1 d.2.2.1 d.2.2.2.1 }
def l_matrix_Det_11 : Nat → Int → Int → List (List (Bool × ((List Int) × (List Int)))) → Option (LR l_matrix_Det_11X l_matrix_Det_11R)
 | 0, _, _, _ => none
 | m + 1, s7, s8, b64 =>
  if decide (s8 < (b64.length : Int)) = true then
   if (0 : Int) ≤ s8 then
    if s8 < b64.length then
     if (0 : Int) ≤ s7 then
      if s7 < (b64.getD s8.toNat []).length then
       (f_rat_Q_Sign fuel (((b64.getD s8.toNat []).getD s7.toNat (false, ([], []))).1, (((b64.getD s8.toNat []).getD s7.toNat (false, ([], []))).2))).bind fun r1 =>
       if (r1 == 0) = true then
        l_matrix_Det_11 m s7 (IntKind.i64.wrap (s8 + 1)) b64
       else
        some (.exit (s8, b64, ()))
      else none
     else none
    else none
   else none
  else
   some (.exit (s8, b64, ()))
def l_matrix_Det_11L : LSpec := { h := l_matrix_Det_11H, x := l_matrix_Det_11X, r := l_matrix_Det_11R, xid := 2, rt := false, pins := [64], f := fun k d => l_matrix_Det_11 k d.1 d.2.1 d.2.2.1 }
def l_matrix_Sweep__matrix_Det_2 : Nat → Int → Int → Int → List (List (Bool × ((List Int) × (List Int)))) → Bool → List Int → List Int → Option (LR l_matrix_Sweep__matrix_Det_2X l_matrix_Sweep__matrix_Det_2R)
 | 0, _, _, _, _, _, _, _ => none
 | m + 1, s1, s22, s23, b64, b4024_0, b4024_1, b4024_2 =>
  if decide (s23 < s22) = true then
   if (0 : Int) ≤ s1 then
    if s1 < b64.length then
     if (0 : Int) ≤ s1 then
      if s1 < b64.length then
       if (0 : Int) ≤ s23 then
        if s23 < (b64.getD s1.toNat []).length then
         (f_rat_Q_Quo fuel (((b64.getD s1.toNat []).getD s23.toNat (false, ([], []))).1, (((b64.getD s1.toNat []).getD s23.toNat (false, ([], []))).2)) (b4024_0, (b4024_1, b4024_2))).bind fun r1 =>
         if (0 : Int) ≤ s23 then
          if s23 < (b64.getD s1.toNat []).length then
           l_matrix_Sweep__matrix_Det_2 m s1 s22 (IntKind.i64.wrap (s23 + 1)) (b64.set s1.toNat ((b64.getD s1.toNat []).set s23.toNat r1)) b4024_0 b4024_1 b4024_2
          else none
         else none
        else none
       else none
      else none
     else none
    else none
   else none
  else
   some (.exit (b64, b4024_0, b4024_1, b4024_2, ()))
def l_matrix_Sweep__matrix_Det_2L : LSpec := { h := l_matrix_Sweep__matrix_Det_2H, x := l_matrix_Sweep__matrix_Det_2X, r := l_matrix_Sweep__matrix_Det_2R, xid := 0, rt := false, pins := [64, 4024], f := fun k d => l_matrix_Sweep__matrix_Det_2 k d.1 d.2.1 d.2.2.1 d.2.2.2.1 d.2.2.2.2.1 d.2.2.2.2.2.1 d.2.2.2.2.2.2.1 }
def l_matrix_Sweep__matrix_Det_12 : Nat → Int → Int → Int → Int → List (List (Bool × ((List Int) × (List Int)))) → Bool → List Int → List Int → Option (LR l_matrix_Sweep__matrix_Det_12X l_matrix_Sweep__matrix_Det_12R)
 | 0, _, _, _, _, _, _, _, _ => none
 | m + 1, s1, s8, s66, s67, b64, b36_0, b36_1, b36_2 =>
  if decide (s67 < s66) = true then
   if (0 : Int) ≤ s8 then
    if s8 < b64.length then
     if (0 : Int) ≤ s8 then
      if s8 < b64.length then
       if (0 : Int) ≤ s67 then
        if s67 < (b64.getD s8.toNat []).length then
         if (0 : Int) ≤ s1 then
          if s1 < b64.length then
           if (0 : Int) ≤ s67 then
            if s67 < (b64.getD s1.toNat []).length then
             (f_rat_Q_Mul fuel (b36_0, (b36_1, b36_2)) (((b64.getD s1.toNat []).getD s67.toNat (false, ([], []))).1, (((b64.getD s1.toNat []).getD s67.toNat (false, ([], []))).2))).bind fun r1 =>
             (f_rat_Q_Sub fuel (((b64.getD s8.toNat []).getD s67.toNat (false, ([], []))).1, (((b64.getD s8.toNat []).getD s67.toNat (false, ([], []))).2)) r1).bind fun r2 =>
             if (0 : Int) ≤ s67 then
              if s67 < (b64.getD s8.toNat []).length then
               l_matrix_Sweep__matrix_Det_12 m s1 s8 s66 (IntKind.i64.wrap (s67 + 1)) (b64.set s8.toNat ((b64.getD s8.toNat []).set s67.toNat r2)) b36_0 b36_1 b36_2
              else none
             else none
            else none
           else none
          else none
         else none
        else none
       else none
      else none
     else none
    else none
   else none
  else
   some (.exit (b64, b36_0, b36_1, b36_2, ()))
def l_matrix_Sweep__matrix_Det_12L : LSpec := { h := l_matrix_Sweep__matrix_Det_12H, x := l_matrix_Sweep__matrix_Det_12X, r := l_matrix_Sweep__matrix_Det_12R, xid := 4, rt := false, pins := [64, 36], f := fun k d => l_matrix_Sweep__matrix_Det_12 k d.1 d.2.1 d.2.2.1 d.2.2.2.1 d.2.2.2.2.1 d.2.2.2.2.2.1 d.2.2.2.2.2.2.1 d.2.2.2.2.2.2.2.1 }
def l_matrix_Sweep__matrix_Det_7 : Nat → Int → Int → Int → Int → List (List (Bool × ((List Int) × (List Int)))) → Option (LR l_matrix_Sweep__matrix_Det_7X l_matrix_Sweep__matrix_Det_7R)
 | 0, _, _, _, _, _ => none
 | m + 1, s1, s2, s43, s44, b64 =>
  if decide (s44 < s43) = true then
   if (0 : Int) ≤ s44 then
    if s44 < b64.length then
     if (0 : Int) ≤ s2 then
      if s2 < (b64.getD s44.toNat []).length then
       if (s44 == s1) = false then
        (f_rat_Q_Sign fuel (((b64.getD s44.toNat []).getD s2.toNat (false, ([], []))).1, (((b64.getD s44.toNat []).getD s2.toNat (false, ([], []))).2))).bind fun r1 =>
        if (r1 == 0) = true then
         l_matrix_Sweep__matrix_Det_7 m s1 s2 s43 (IntKind.i64.wrap (s44 + 1)) b64
        else
         if (0 : Int) ≤ s44 then
          if s44 < b64.length then
           match l_matrix_Sweep__matrix_Det_12 m s1 s44 ((b64.getD s44.toNat []).length : Int) 0 b64 (((b64.getD s44.toNat []).getD s2.toNat (false, ([], []))).1) ((((b64.getD s44.toNat []).getD s2.toNat (false, ([], []))).2).1) ((((b64.getD s44.toNat []).getD s2.toNat (false, ([], []))).2).2) with
           | none => none
           | some (.exit d2) =>
            l_matrix_Sweep__matrix_Det_7 m s1 s2 s43 (IntKind.i64.wrap (s44 + 1)) d2.1
           | some (.ret d2) =>
            none
          else none
         else none
       else
        l_matrix_Sweep__matrix_Det_7 m s1 s2 s43 (IntKind.i64.wrap (s44 + 1)) b64
      else none
     else none
    else none
   else none
  else
   some (.exit (b64, ()))
def l_matrix_Sweep__matrix_Det_7L : LSpec := { h := l_matrix_Sweep__matrix_Det_7H, x := l_matrix_Sweep__matrix_Det_7X, r := l_matrix_Sweep__matrix_Det_7R, xid := 2, rt := false, pins := [64], f := fun k d => l_matrix_Sweep__matrix_Det_7 k d.1 d.2.1 d.2.2.1 d.2.2.2.1 d.2.2.2.2.1 }
def l_matrix_Det_8 : Nat → Int → Int → List (List (Bool × ((List Int) × (List Int)))) → Bool → List Int → List Int → Option (LR l_matrix_Det_8X l_matrix_Det_8R)
 | 0, _, _, _, _, _, _ => none
 | m + 1, s24, s25, b64, b24_0, b24_1, b24_2 =>
  if decide (s25 < s24) = true then
   match l_matrix_Det_11 m s25 s25 b64 with
   | none => none
   | some (.exit d1) =>
    if (d1.1 == (d1.2.1.length : Int)) = true then
     some (.ret ((⟨#[48]⟩ : ByteArray), 0, b24_0, b24_1, b24_2, ()))
    else
     if (d1.1 != s25) = true then
      if (0 : Int) ≤ s25 then
       if s25 < d1.2.1.length then
        if (0 : Int) ≤ d1.1 then
         if d1.1 < d1.2.1.length then
          if (0 : Int) ≤ d1.1 then
           if d1.1 < d1.2.1.length then
            if s25.toNat < d1.2.1.length then
             if (0 : Int) ≤ s25 then
              if s25 < d1.2.1.length then
               if s25.toNat = s25.toNat ∧ d1.1.toNat = d1.1.toNat then
                (f_rat_Q_Neg fuel (b24_0, (b24_1, b24_2))).bind fun r2 =>
                if (0 : Int) ≤ s25 then
                 if s25 < ((d1.2.1.set d1.1.toNat (d1.2.1.getD s25.toNat [])).set s25.toNat (d1.2.1.getD d1.1.toNat [])).length then
                  if (0 : Int) ≤ s25 then
                   if s25 < (((d1.2.1.set d1.1.toNat (d1.2.1.getD s25.toNat [])).set s25.toNat (d1.2.1.getD d1.1.toNat [])).getD s25.toNat []).length then
                    (f_rat_Q_Mul fuel r2 (((((d1.2.1.set d1.1.toNat (d1.2.1.getD s25.toNat [])).set s25.toNat (d1.2.1.getD d1.1.toNat [])).getD s25.toNat []).getD s25.toNat (false, ([], []))).1, (((((d1.2.1.set d1.1.toNat (d1.2.1.getD s25.toNat [])).set s25.toNat (d1.2.1.getD d1.1.toNat [])).getD s25.toNat []).getD s25.toNat (false, ([], []))).2))).bind fun r3 =>
                    if (0 : Int) ≤ s25 then
                     if s25 < ((d1.2.1.set d1.1.toNat (d1.2.1.getD s25.toNat [])).set s25.toNat (d1.2.1.getD d1.1.toNat [])).length then
                      if (0 : Int) ≤ s25 then
                       if s25 < (((d1.2.1.set d1.1.toNat (d1.2.1.getD s25.toNat [])).set s25.toNat (d1.2.1.getD d1.1.toNat [])).getD s25.toNat []).length then
                        if (0 : Int) ≤ s25 then
                         if s25 < ((d1.2.1.set d1.1.toNat (d1.2.1.getD s25.toNat [])).set s25.toNat (d1.2.1.getD d1.1.toNat [])).length then
                          match l_matrix_Sweep__matrix_Det_2 m s25 ((((d1.2.1.set d1.1.toNat (d1.2.1.getD s25.toNat [])).set s25.toNat (d1.2.1.getD d1.1.toNat [])).getD s25.toNat []).length : Int) 0 ((d1.2.1.set d1.1.toNat (d1.2.1.getD s25.toNat [])).set s25.toNat (d1.2.1.getD d1.1.toNat [])) (((((d1.2.1.set d1.1.toNat (d1.2.1.getD s25.toNat [])).set s25.toNat (d1.2.1.getD d1.1.toNat [])).getD s25.toNat []).getD s25.toNat (false, ([], []))).1) ((((((d1.2.1.set d1.1.toNat (d1.2.1.getD s25.toNat [])).set s25.toNat (d1.2.1.getD d1.1.toNat [])).getD s25.toNat []).getD s25.toNat (false, ([], []))).2).1) ((((((d1.2.1.set d1.1.toNat (d1.2.1.getD s25.toNat [])).set s25.toNat (d1.2.1.getD d1.1.toNat [])).getD s25.toNat []).getD s25.toNat (false, ([], []))).2).2) with
                          | none => none
                          | some (.exit d4) =>
                           match l_matrix_Sweep__matrix_Det_7 m s25 s25 (d4.1.length : Int) 0 d4.1 with
                           | none => none
                           | some (.exit d5) =>
                            l_matrix_Det_8 m s24 (IntKind.i64.wrap (s25 + 1)) d5.1 r3.1 r3.2.1 r3.2.2
                           | some (.ret d5) =>
                            none
                          | some (.ret d4) =>
                           none
                         else none
                        else none
                       else none
                      else none
                     else none
                    else none
                   else none
                  else none
                 else none
                else none
               else none
              else none
             else none
            else none
           else none
          else none
         else none
        else none
       else none
      else none
     else
      if (0 : Int) ≤ s25 then
       if s25 < d1.2.1.length then
        if (0 : Int) ≤ s25 then
         if s25 < (d1.2.1.getD s25.toNat []).length then
          (f_rat_Q_Mul fuel (b24_0, (b24_1, b24_2)) (((d1.2.1.getD s25.toNat []).getD s25.toNat (false, ([], []))).1, (((d1.2.1.getD s25.toNat []).getD s25.toNat (false, ([], []))).2))).bind fun r6 =>
          if (0 : Int) ≤ s25 then
           if s25 < d1.2.1.length then
            if (0 : Int) ≤ s25 then
             if s25 < (d1.2.1.getD s25.toNat []).length then
              if (0 : Int) ≤ s25 then
               if s25 < d1.2.1.length then
                match l_matrix_Sweep__matrix_Det_2 m s25 ((d1.2.1.getD s25.toNat []).length : Int) 0 d1.2.1 (((d1.2.1.getD s25.toNat []).getD s25.toNat (false, ([], []))).1) ((((d1.2.1.getD s25.toNat []).getD s25.toNat (false, ([], []))).2).1) ((((d1.2.1.getD s25.toNat []).getD s25.toNat (false, ([], []))).2).2) with
                | none => none
                | some (.exit d7) =>
                 match l_matrix_Sweep__matrix_Det_7 m s25 s25 (d7.1.length : Int) 0 d7.1 with
                 | none => none
                 | some (.exit d8) =>
                  l_matrix_Det_8 m s24 (IntKind.i64.wrap (s25 + 1)) d8.1 r6.1 r6.2.1 r6.2.2
                 | some (.ret d8) =>
                  none
                | some (.ret d7) =>
                 none
               else none
              else none
             else none
            else none
           else none
          else none
         else none
        else none
       else none
      else none
   | some (.ret d1) =>
    none
  else
   some (.exit (b24_0, b24_1, b24_2, ()))
def l_matrix_Det_8L : LSpec := { h := l_matrix_Det_8H, x := l_matrix_Det_8X, r := l_matrix_Det_8R, xid := 0, rt := true, pins := [24], f := fun k d => l_matrix_Det_8 k d.1 d.2.1 d.2.2.1 d.2.2.2.1 d.2.2.2.2.1 d.2.2.2.2.2.1 }
def LL_matrix_Det : Loops := [([26, 15], [(3, l_matrix_In__matrix_Det_3L)]), ([15], [(8, l_matrix_Det_8L), (11, l_matrix_Det_11L)]), ([40, 15], [(2, l_matrix_Sweep__matrix_Det_2L), (7, l_matrix_Sweep__matrix_Det_7L), (12, l_matrix_Sweep__matrix_Det_12L)])]
def f_matrix_Det (k : Nat) (a0 : List (List ByteArray)) : Option (ByteArray × Int) :=
 (f_matrix_Check fuel a0).bind fun r1 =>
 if (r1 != 0) = true then
  some ((⟨#[]⟩ : ByteArray), r1)
 else
  (f_matrix_Width fuel a0).bind fun r2 =>
  if ((a0.length : Int) != r2) = true then
   some ((⟨#[]⟩ : ByteArray), 3)
  else
   match l_matrix_In__matrix_Det_3 k a0 (a0.length : Int) 0 [] with
   | none => none
   | some (.exit d3) =>
    (f_rat_Int fuel 1).bind fun r4 =>
    match l_matrix_Det_8 k (d3.1.length : Int) 0 d3.1 r4.1 r4.2.1 r4.2.2 with
    | none => none
    | some (.exit d5) =>
     (f_rat_Fits fuel (d5.1, (d5.2.1, d5.2.2.1))).bind fun r6 =>
     if (r6 != 0) = true then
      some ((⟨#[]⟩ : ByteArray), r6)
     else
      (f_rat_Q_Out fuel (d5.1, (d5.2.1, d5.2.2.1))).bind fun r7 =>
      some (r7, 0)
    | some (.ret d5) =>
     some (d5.1, d5.2.1)
   | some (.ret d3) =>
    none
theorem l_matrix_In__matrix_Det_3_step (m : Nat) (d : dens l_matrix_In__matrix_Det_3H.tys) : l_matrix_In__matrix_Det_3L.f (m + 1) d = round E_matrix_Det LL_matrix_Det m [26, 15] 19 (loopN (bodyOf Tryd.f26) 0) l_matrix_In__matrix_Det_3L (l_matrix_In__matrix_Det_3L.f m) d := by kernel_rfl
theorem l_matrix_Det_11_step (m : Nat) (d : dens l_matrix_Det_11H.tys) : l_matrix_Det_11L.f (m + 1) d = round E_matrix_Det LL_matrix_Det m [15] 90 (loopN (bodyOf Tryd.f15) 1) l_matrix_Det_11L (l_matrix_Det_11L.f m) d := by kernel_rfl
theorem l_matrix_Sweep__matrix_Det_2_step (m : Nat) (d : dens l_matrix_Sweep__matrix_Det_2H.tys) : l_matrix_Sweep__matrix_Det_2L.f (m + 1) d = round E_matrix_Det LL_matrix_Det m [40, 15] 95 (loopN (bodyOf Tryd.f40) 0) l_matrix_Sweep__matrix_Det_2L (l_matrix_Sweep__matrix_Det_2L.f m) d := by kernel_rfl
theorem l_matrix_Sweep__matrix_Det_12_step (m : Nat) (d : dens l_matrix_Sweep__matrix_Det_12H.tys) : l_matrix_Sweep__matrix_Det_12L.f (m + 1) d = round E_matrix_Det LL_matrix_Det m [40, 15] 95 (loopN (bodyOf Tryd.f40) 2) l_matrix_Sweep__matrix_Det_12L (l_matrix_Sweep__matrix_Det_12L.f m) d := by kernel_rfl
theorem l_matrix_Sweep__matrix_Det_7_step (m : Nat) (d : dens l_matrix_Sweep__matrix_Det_7H.tys) : l_matrix_Sweep__matrix_Det_7L.f (m + 1) d = round E_matrix_Det LL_matrix_Det m [40, 15] 95 (loopN (bodyOf Tryd.f40) 1) l_matrix_Sweep__matrix_Det_7L (l_matrix_Sweep__matrix_Det_7L.f m) d := by kernel_rfl
theorem l_matrix_Det_8_step (m : Nat) (d : dens l_matrix_Det_8H.tys) : l_matrix_Det_8L.f (m + 1) d = round E_matrix_Det LL_matrix_Det m [15] 90 (loopN (bodyOf Tryd.f15) 0) l_matrix_Det_8L (l_matrix_Det_8L.f m) d := by kernel_rfl
theorem f_matrix_Det_run (k : Nat) (x : denL [.slice (.slice .str)]) : runFn E_matrix_Det LL_matrix_Det k 15 Tryd.f15 [.slice (.slice .str)] [.imm .str, .imm (.int .i64)] x = f_matrix_Det k x := by kernel_rfl
noncomputable def S_matrix_Det : Vm.Spec := { ps := [.slice (.slice .str)], rs := [.imm .str, .imm (.int .i64)], f := fun x => f_matrix_Det fuel x }
theorem f_matrix_Det_holds : Vm.Spec.holds Tryd.prog 15 S_matrix_Det := by
 have hB : BodiesOk Tryd.prog E_matrix_Det := bodies_ok (by exact ⟨by kernel_rfl, by kernel_rfl, by kernel_rfl, by kernel_rfl, trivial⟩)
 have hBS : BodiesStepped E_matrix_Det LL_matrix_Det := by
  refine bodies_stepped ?_
  exact ⟨(stepped_paths [[15]] (by exact ⟨stepped_of (ls := [(3, l_matrix_In__matrix_Det_3L)]) rfl rfl ⟨by kernel_rfl, fun _ => rfl, l_matrix_In__matrix_Det_3_step, stepsI_end (by kernel_rfl)⟩,  trivial⟩) rfl), (stepped_paths [[15]] (by exact ⟨stepped_of (ls := [(2, l_matrix_Sweep__matrix_Det_2L), (7, l_matrix_Sweep__matrix_Det_7L), (12, l_matrix_Sweep__matrix_Det_12L)]) rfl rfl ⟨by kernel_rfl, fun _ => rfl, l_matrix_Sweep__matrix_Det_2_step, by kernel_rfl, fun _ => rfl, l_matrix_Sweep__matrix_Det_7_step, by kernel_rfl, fun _ => rfl, l_matrix_Sweep__matrix_Det_12_step, stepsI_end (by kernel_rfl)⟩,  trivial⟩) rfl),  trivial⟩
 have hS : SpecsOk Tryd.prog E_matrix_Det := specs_ok (by exact ⟨⟨by kernel_rfl, f_matrix_Check_holds⟩, ⟨by kernel_rfl, f_matrix_Width_holds⟩, ⟨by kernel_rfl, f_matrix_Row_holds⟩, ⟨by kernel_rfl, f_rat_Int_holds⟩, ⟨by kernel_rfl, f_rat_Q_Sign_holds⟩, ⟨by kernel_rfl, f_rat_Q_Neg_holds⟩, ⟨by kernel_rfl, f_rat_Q_Mul_holds⟩, ⟨by kernel_rfl, f_rat_Fits_holds⟩, ⟨by kernel_rfl, f_rat_Q_Out_holds⟩, ⟨by kernel_rfl, f_rat_Q_Quo_holds⟩, ⟨by kernel_rfl, f_rat_Q_Sub_holds⟩, trivial⟩)
 have hE : EOk Tryd.prog E_matrix_Det := eok_te ok
 exact fn_sound (L := LL_matrix_Det) hE hS hB (draws_ok hE hS (by kernel_rfl)) hBS (fn := Tryd.f15) (by kernel_rfl) (c := bodyOf Tryd.f15) (by kernel_rfl) (stepped_of (ls := [(8, l_matrix_Det_8L), (11, l_matrix_Det_11L)]) rfl rfl ⟨by kernel_rfl, fun _ => rfl, l_matrix_Det_8_step, by kernel_rfl, fun _ => rfl, l_matrix_Det_11_step, stepsI_end (by kernel_rfl)⟩) fun x r h => ⟨fuel, (f_matrix_Det_run fuel x).trans h⟩
noncomputable def E_matrix_In : Env := { te := te, spec := [(33, S_matrix_Row)], body := [] }
def l_matrix_In_3H : Ann := { slots := [(3, .one (.own 64 (.slice (.pair .bool (.pair (.slice (.int .u32)) (.slice (.int .u32))))))), (6, .one (.val (.slice (.slice .str)))), (7, .one (.val (.int .i64))), (8, .one (.val (.int .i64)))], objs := [(64, .buf (.slice (.pair .bool (.pair (.slice (.int .u32)) (.slice (.int .u32))))))] }
def l_matrix_In_3X : Ann := { slots := [(3, .one (.own 64 (.slice (.pair .bool (.pair (.slice (.int .u32)) (.slice (.int .u32)))))))], objs := [(64, .buf (.slice (.pair .bool (.pair (.slice (.int .u32)) (.slice (.int .u32))))))] }
def l_matrix_In_3R : Ann := { slots := [], objs := [] }
def l_matrix_In_3 : Nat → List (List ByteArray) → Int → Int → List (List (Bool × ((List Int) × (List Int)))) → Option (LR l_matrix_In_3X l_matrix_In_3R)
 | 0, _, _, _, _ => none
 | m + 1, s6, s7, s8, b64 =>
  if decide (s8 < s7) = true then
   if (0 : Int) ≤ s8 then
    if s8 < s6.length then
     (f_matrix_Row fuel (s6.getD s8.toNat [])).bind fun r1 =>
     if (b64.length + 1) * 24 ≤ 140737488355328 then
      l_matrix_In_3 m s6 s7 (IntKind.i64.wrap (s8 + 1)) (b64 ++ [r1])
     else none
    else none
   else none
  else
   some (.exit (b64, ()))
def l_matrix_In_3L : LSpec := { h := l_matrix_In_3H, x := l_matrix_In_3X, r := l_matrix_In_3R, xid := 0, rt := false, pins := [], f := fun k d => l_matrix_In_3 k d.1 d.2.1 d.2.2.1 d.2.2.2.1 }
def LL_matrix_In : Loops := [([26], [(3, l_matrix_In_3L)])]
def f_matrix_In (k : Nat) (a0 : List (List ByteArray)) : Option (List (List (Bool × ((List Int) × (List Int))))) :=
 match l_matrix_In_3 k a0 (a0.length : Int) 0 [] with
 | none => none
 | some (.exit d1) =>
  some d1.1
 | some (.ret d1) =>
  none
theorem l_matrix_In_3_step (m : Nat) (d : dens l_matrix_In_3H.tys) : l_matrix_In_3L.f (m + 1) d = round E_matrix_In LL_matrix_In m [26] 19 (loopN (bodyOf Tryd.f26) 0) l_matrix_In_3L (l_matrix_In_3L.f m) d := by kernel_rfl
theorem f_matrix_In_run (k : Nat) (x : denL [.slice (.slice .str)]) : runFn E_matrix_In LL_matrix_In k 26 Tryd.f26 [.slice (.slice .str)] [.fresh (.slice (.pair .bool (.pair (.slice (.int .u32)) (.slice (.int .u32)))))] x = f_matrix_In k x := by kernel_rfl
noncomputable def S_matrix_In : Vm.Spec := { ps := [.slice (.slice .str)], rs := [.fresh (.slice (.pair .bool (.pair (.slice (.int .u32)) (.slice (.int .u32)))))], f := fun x => f_matrix_In fuel x }
theorem f_matrix_In_holds : Vm.Spec.holds Tryd.prog 26 S_matrix_In := by
 have hB : BodiesOk Tryd.prog E_matrix_In := bodies_none rfl
 have hBS : BodiesStepped E_matrix_In LL_matrix_In := bodies_stepped_none rfl
 have hS : SpecsOk Tryd.prog E_matrix_In := specs_ok (by exact ⟨⟨by kernel_rfl, f_matrix_Row_holds⟩, trivial⟩)
 have hE : EOk Tryd.prog E_matrix_In := eok_te ok
 exact fn_sound (L := LL_matrix_In) hE hS hB (draws_ok hE hS (by kernel_rfl)) hBS (fn := Tryd.f26) (by kernel_rfl) (c := bodyOf Tryd.f26) (by kernel_rfl) (stepped_of (ls := [(3, l_matrix_In_3L)]) rfl rfl ⟨by kernel_rfl, fun _ => rfl, l_matrix_In_3_step, stepsI_end (by kernel_rfl)⟩) fun x r h => ⟨fuel, (f_matrix_In_run fuel x).trans h⟩
noncomputable def E_matrix_Mul : Env := { te := te, spec := [(19, S_matrix_Check), (24, S_matrix_Width), (25, S_matrix_turned), (26, S_matrix_In), (27, S_matrix_product), (28, S_matrix_OutAll)], body := [] }
def l_matrix_Mul_16H : Ann := { slots := [(11, .one (.val (.slice (.pair .bool (.pair (.slice (.int .u32)) (.slice (.int .u32))))))), (12, .one (.own 204 (.pair .bool (.pair (.slice (.int .u32)) (.slice (.int .u32)))))), (40, .one (.val (.slice (.slice (.pair .bool (.pair (.slice (.int .u32)) (.slice (.int .u32)))))))), (41, .one (.val (.int .i64))), (42, .one (.val (.int .i64)))], objs := [(204, .buf (.pair .bool (.pair (.slice (.int .u32)) (.slice (.int .u32)))))] }
def l_matrix_Mul_16X : Ann := { slots := [(12, .one (.own 204 (.pair .bool (.pair (.slice (.int .u32)) (.slice (.int .u32))))))], objs := [(204, .buf (.pair .bool (.pair (.slice (.int .u32)) (.slice (.int .u32)))))] }
def l_matrix_Mul_16R : Ann := { slots := [], objs := [] }
def l_matrix_Mul_12H : Ann := { slots := [(8, .one (.val (.slice (.slice (.pair .bool (.pair (.slice (.int .u32)) (.slice (.int .u32)))))))), (9, .one (.own 224 (.slice (.pair .bool (.pair (.slice (.int .u32)) (.slice (.int .u32))))))), (34, .one (.own 136 (.slice (.pair .bool (.pair (.slice (.int .u32)) (.slice (.int .u32))))))), (35, .one (.val (.int .i64))), (36, .one (.val (.int .i64)))], objs := [(224, .buf (.slice (.pair .bool (.pair (.slice (.int .u32)) (.slice (.int .u32)))))), (136, .buf (.slice (.pair .bool (.pair (.slice (.int .u32)) (.slice (.int .u32))))))] }
def l_matrix_Mul_12X : Ann := { slots := [(9, .one (.own 224 (.slice (.pair .bool (.pair (.slice (.int .u32)) (.slice (.int .u32)))))))], objs := [(224, .buf (.slice (.pair .bool (.pair (.slice (.int .u32)) (.slice (.int .u32)))))), (136, .buf (.slice (.pair .bool (.pair (.slice (.int .u32)) (.slice (.int .u32))))))] }
def l_matrix_Mul_12R : Ann := { slots := [], objs := [] }
def l_matrix_Mul_16 : Nat → List (Bool × ((List Int) × (List Int))) → List (List (Bool × ((List Int) × (List Int)))) → Int → Int → List (Bool × ((List Int) × (List Int))) → Option (LR l_matrix_Mul_16X l_matrix_Mul_16R)
 | 0, _, _, _, _, _ => none
 | m + 1, s11, s40, s41, s42, b204 =>
  if decide (s42 < s41) = true then
   if (0 : Int) ≤ s42 then
    if s42 < s40.length then
     (f_matrix_product fuel s11 (s40.getD s42.toNat [])).bind fun r1 =>
     if (b204.length + 1) * 56 ≤ 140737488355328 then
      l_matrix_Mul_16 m s11 s40 s41 (IntKind.i64.wrap (s42 + 1)) (b204 ++ [r1])
     else none
    else none
   else none
  else
   some (.exit (b204, ()))
def l_matrix_Mul_16L : LSpec := { h := l_matrix_Mul_16H, x := l_matrix_Mul_16X, r := l_matrix_Mul_16R, xid := 2, rt := false, pins := [], f := fun k d => l_matrix_Mul_16 k d.1 d.2.1 d.2.2.1 d.2.2.2.1 d.2.2.2.2.1 }
def l_matrix_Mul_12 : Nat → List (List (Bool × ((List Int) × (List Int)))) → Int → Int → List (List (Bool × ((List Int) × (List Int)))) → List (List (Bool × ((List Int) × (List Int)))) → Option (LR l_matrix_Mul_12X l_matrix_Mul_12R)
 | 0, _, _, _, _, _ => none
 | m + 1, s8, s35, s36, b224, b136 =>
  if decide (s36 < s35) = true then
   if (0 : Int) ≤ s36 then
    if s36 < b136.length then
     match l_matrix_Mul_16 m (b136.getD s36.toNat []) s8 (s8.length : Int) 0 [] with
     | none => none
     | some (.exit d1) =>
      if (b224.length + 1) * 24 ≤ 140737488355328 then
       l_matrix_Mul_12 m s8 s35 (IntKind.i64.wrap (s36 + 1)) (b224 ++ [d1.1]) b136
      else none
     | some (.ret d1) =>
      none
    else none
   else none
  else
   some (.exit (b224, b136, ()))
def l_matrix_Mul_12L : LSpec := { h := l_matrix_Mul_12H, x := l_matrix_Mul_12X, r := l_matrix_Mul_12R, xid := 0, rt := false, pins := [136], f := fun k d => l_matrix_Mul_12 k d.1 d.2.1 d.2.2.1 d.2.2.2.1 d.2.2.2.2.1 }
def LL_matrix_Mul : Loops := [([8], [(12, l_matrix_Mul_12L), (16, l_matrix_Mul_16L)])]
def f_matrix_Mul (k : Nat) (a0 : List (List ByteArray)) (a1 : List (List ByteArray)) : Option (List (List ByteArray) × Int) :=
 (f_matrix_Check fuel a0).bind fun r1 =>
 if (r1 != 0) = true then
  some ([], r1)
 else
  (f_matrix_Check fuel a1).bind fun r2 =>
  if (r2 != 0) = true then
   some ([], r2)
  else
   (f_matrix_Width fuel a0).bind fun r3 =>
   if (r3 != (a1.length : Int)) = true then
    some ([], 3)
   else
    (f_matrix_In fuel a1).bind fun r4 =>
    (f_matrix_turned fuel r4).bind fun r5 =>
    (f_matrix_In fuel a0).bind fun r6 =>
    match l_matrix_Mul_12 k r5 (r6.length : Int) 0 [] r6 with
    | none => none
    | some (.exit d7) =>
     (f_matrix_OutAll fuel d7.1).bind fun r8 =>
     some (r8.1, r8.2)
    | some (.ret d7) =>
     none
theorem l_matrix_Mul_16_step (m : Nat) (d : dens l_matrix_Mul_16H.tys) : l_matrix_Mul_16L.f (m + 1) d = round E_matrix_Mul LL_matrix_Mul m [8] 62 (loopN (bodyOf Tryd.f8) 1) l_matrix_Mul_16L (l_matrix_Mul_16L.f m) d := by kernel_rfl
theorem l_matrix_Mul_12_step (m : Nat) (d : dens l_matrix_Mul_12H.tys) : l_matrix_Mul_12L.f (m + 1) d = round E_matrix_Mul LL_matrix_Mul m [8] 62 (loopN (bodyOf Tryd.f8) 0) l_matrix_Mul_12L (l_matrix_Mul_12L.f m) d := by kernel_rfl
theorem f_matrix_Mul_run (k : Nat) (x : denL [.slice (.slice .str), .slice (.slice .str)]) : runFn E_matrix_Mul LL_matrix_Mul k 8 Tryd.f8 [.slice (.slice .str), .slice (.slice .str)] [.fresh (.slice .str), .imm (.int .i64)] x = f_matrix_Mul k x.1 x.2 := by kernel_rfl
noncomputable def S_matrix_Mul : Vm.Spec := { ps := [.slice (.slice .str), .slice (.slice .str)], rs := [.fresh (.slice .str), .imm (.int .i64)], f := fun x => f_matrix_Mul fuel x.1 x.2 }
theorem f_matrix_Mul_holds : Vm.Spec.holds Tryd.prog 8 S_matrix_Mul := by
 have hB : BodiesOk Tryd.prog E_matrix_Mul := bodies_none rfl
 have hBS : BodiesStepped E_matrix_Mul LL_matrix_Mul := bodies_stepped_none rfl
 have hS : SpecsOk Tryd.prog E_matrix_Mul := specs_ok (by exact ⟨⟨by kernel_rfl, f_matrix_Check_holds⟩, ⟨by kernel_rfl, f_matrix_Width_holds⟩, ⟨by kernel_rfl, f_matrix_turned_holds⟩, ⟨by kernel_rfl, f_matrix_In_holds⟩, ⟨by kernel_rfl, f_matrix_product_holds⟩, ⟨by kernel_rfl, f_matrix_OutAll_holds⟩, trivial⟩)
 have hE : EOk Tryd.prog E_matrix_Mul := eok_te ok
 exact fn_sound (L := LL_matrix_Mul) hE hS hB (draws_ok hE hS (by kernel_rfl)) hBS (fn := Tryd.f8) (by kernel_rfl) (c := bodyOf Tryd.f8) (by kernel_rfl) (stepped_of (ls := [(12, l_matrix_Mul_12L), (16, l_matrix_Mul_16L)]) rfl rfl ⟨by kernel_rfl, fun _ => rfl, l_matrix_Mul_12_step, by kernel_rfl, fun _ => rfl, l_matrix_Mul_16_step, stepsI_end (by kernel_rfl)⟩) fun x r h => ⟨fuel, (f_matrix_Mul_run fuel x).trans h⟩
noncomputable def E_matrix_Apply : Env := { te := te, spec := [(16, S_matrix_CheckVec), (19, S_matrix_Check), (24, S_matrix_Width), (26, S_matrix_In), (27, S_matrix_product), (33, S_matrix_Row), (34, S_matrix_Out)], body := [] }
def l_matrix_Apply_12H : Ann := { slots := [(8, .one (.own 184 (.pair .bool (.pair (.slice (.int .u32)) (.slice (.int .u32)))))), (9, .one (.val (.slice (.pair .bool (.pair (.slice (.int .u32)) (.slice (.int .u32))))))), (35, .one (.own 140 (.slice (.pair .bool (.pair (.slice (.int .u32)) (.slice (.int .u32))))))), (36, .one (.val (.int .i64))), (37, .one (.val (.int .i64)))], objs := [(184, .buf (.pair .bool (.pair (.slice (.int .u32)) (.slice (.int .u32))))), (140, .buf (.slice (.pair .bool (.pair (.slice (.int .u32)) (.slice (.int .u32))))))] }
def l_matrix_Apply_12X : Ann := { slots := [(8, .one (.own 184 (.pair .bool (.pair (.slice (.int .u32)) (.slice (.int .u32))))))], objs := [(184, .buf (.pair .bool (.pair (.slice (.int .u32)) (.slice (.int .u32))))), (140, .buf (.slice (.pair .bool (.pair (.slice (.int .u32)) (.slice (.int .u32))))))] }
def l_matrix_Apply_12R : Ann := { slots := [], objs := [] }
def l_matrix_Apply_12 : Nat → List (Bool × ((List Int) × (List Int))) → Int → Int → List (Bool × ((List Int) × (List Int))) → List (List (Bool × ((List Int) × (List Int)))) → Option (LR l_matrix_Apply_12X l_matrix_Apply_12R)
 | 0, _, _, _, _, _ => none
 | m + 1, s9, s36, s37, b184, b140 =>
  if decide (s37 < s36) = true then
   if (0 : Int) ≤ s37 then
    if s37 < b140.length then
     (f_matrix_product fuel (b140.getD s37.toNat []) s9).bind fun r1 =>
     if (b184.length + 1) * 56 ≤ 140737488355328 then
      l_matrix_Apply_12 m s9 s36 (IntKind.i64.wrap (s37 + 1)) (b184 ++ [r1]) b140
     else none
    else none
   else none
  else
   some (.exit (b184, b140, ()))
def l_matrix_Apply_12L : LSpec := { h := l_matrix_Apply_12H, x := l_matrix_Apply_12X, r := l_matrix_Apply_12R, xid := 0, rt := false, pins := [140], f := fun k d => l_matrix_Apply_12 k d.1 d.2.1 d.2.2.1 d.2.2.2.1 d.2.2.2.2.1 }
def LL_matrix_Apply : Loops := [([11], [(12, l_matrix_Apply_12L)])]
def f_matrix_Apply (k : Nat) (a0 : List (List ByteArray)) (a1 : List ByteArray) : Option (List ByteArray × Int) :=
 (f_matrix_Check fuel a0).bind fun r1 =>
 if (r1 != 0) = true then
  some ([], r1)
 else
  (f_matrix_CheckVec fuel a1).bind fun r2 =>
  if (r2 != 0) = true then
   some ([], r2)
  else
   (f_matrix_Width fuel a0).bind fun r3 =>
   if (r3 != (a1.length : Int)) = true then
    if decide ((a0.length : Int) > 0) = true then
     some ([], 3)
    else
     (f_matrix_Row fuel a1).bind fun r4 =>
     (f_matrix_In fuel a0).bind fun r5 =>
     match l_matrix_Apply_12 k r4 (r5.length : Int) 0 [] r5 with
     | none => none
     | some (.exit d6) =>
      (f_matrix_Out fuel d6.1).bind fun r7 =>
      some (r7.1, r7.2)
     | some (.ret d6) =>
      none
   else
    (f_matrix_Row fuel a1).bind fun r8 =>
    (f_matrix_In fuel a0).bind fun r9 =>
    match l_matrix_Apply_12 k r8 (r9.length : Int) 0 [] r9 with
    | none => none
    | some (.exit d10) =>
     (f_matrix_Out fuel d10.1).bind fun r11 =>
     some (r11.1, r11.2)
    | some (.ret d10) =>
     none
theorem l_matrix_Apply_12_step (m : Nat) (d : dens l_matrix_Apply_12H.tys) : l_matrix_Apply_12L.f (m + 1) d = round E_matrix_Apply LL_matrix_Apply m [11] 52 (loopN (bodyOf Tryd.f11) 0) l_matrix_Apply_12L (l_matrix_Apply_12L.f m) d := by kernel_rfl
theorem f_matrix_Apply_run (k : Nat) (x : denL [.slice (.slice .str), .slice .str]) : runFn E_matrix_Apply LL_matrix_Apply k 11 Tryd.f11 [.slice (.slice .str), .slice .str] [.fresh .str, .imm (.int .i64)] x = f_matrix_Apply k x.1 x.2 := by kernel_rfl
noncomputable def S_matrix_Apply : Vm.Spec := { ps := [.slice (.slice .str), .slice .str], rs := [.fresh .str, .imm (.int .i64)], f := fun x => f_matrix_Apply fuel x.1 x.2 }
theorem f_matrix_Apply_holds : Vm.Spec.holds Tryd.prog 11 S_matrix_Apply := by
 have hB : BodiesOk Tryd.prog E_matrix_Apply := bodies_none rfl
 have hBS : BodiesStepped E_matrix_Apply LL_matrix_Apply := bodies_stepped_none rfl
 have hS : SpecsOk Tryd.prog E_matrix_Apply := specs_ok (by exact ⟨⟨by kernel_rfl, f_matrix_CheckVec_holds⟩, ⟨by kernel_rfl, f_matrix_Check_holds⟩, ⟨by kernel_rfl, f_matrix_Width_holds⟩, ⟨by kernel_rfl, f_matrix_In_holds⟩, ⟨by kernel_rfl, f_matrix_product_holds⟩, ⟨by kernel_rfl, f_matrix_Row_holds⟩, ⟨by kernel_rfl, f_matrix_Out_holds⟩, trivial⟩)
 have hE : EOk Tryd.prog E_matrix_Apply := eok_te ok
 exact fn_sound (L := LL_matrix_Apply) hE hS hB (draws_ok hE hS (by kernel_rfl)) hBS (fn := Tryd.f11) (by kernel_rfl) (c := bodyOf Tryd.f11) (by kernel_rfl) (stepped_of (ls := [(12, l_matrix_Apply_12L)]) rfl rfl ⟨by kernel_rfl, fun _ => rfl, l_matrix_Apply_12_step, stepsI_end (by kernel_rfl)⟩) fun x r h => ⟨fuel, (f_matrix_Apply_run fuel x).trans h⟩
noncomputable def E_matrix_Solve : Env := { te := te, spec := [(16, S_matrix_CheckVec), (19, S_matrix_Check), (24, S_matrix_Width), (26, S_matrix_In), (33, S_matrix_Row), (34, S_matrix_Out), (35, S_matrix_Unique)], body := [] }
def LL_matrix_Solve : Loops := []
def f_matrix_Solve (k : Nat) (a0 : List (List ByteArray)) (a1 : List ByteArray) : Option (List ByteArray × Int) :=
 (f_matrix_Check fuel a0).bind fun r1 =>
 if (r1 != 0) = true then
  some ([], r1)
 else
  (f_matrix_CheckVec fuel a1).bind fun r2 =>
  if (r2 != 0) = true then
   some ([], r2)
  else
   if ((a0.length : Int) != (a1.length : Int)) = true then
    some ([], 3)
   else
    (f_matrix_In fuel a0).bind fun r3 =>
    (f_matrix_Row fuel a1).bind fun r4 =>
    (f_matrix_Width fuel a0).bind fun r5 =>
    (f_matrix_Unique fuel r3 r4 r5).bind fun r6 =>
    if (r6.2 == 0) = true then
     some ([], 8)
    else
     if (r6.2 == 2) = true then
      some ([], 18)
     else
      (f_matrix_Out fuel r6.1).bind fun r7 =>
      some (r7.1, r7.2)
theorem f_matrix_Solve_run (k : Nat) (x : denL [.slice (.slice .str), .slice .str]) : runFn E_matrix_Solve LL_matrix_Solve k 14 Tryd.f14 [.slice (.slice .str), .slice .str] [.fresh .str, .imm (.int .i64)] x = f_matrix_Solve k x.1 x.2 := by kernel_rfl
noncomputable def S_matrix_Solve : Vm.Spec := { ps := [.slice (.slice .str), .slice .str], rs := [.fresh .str, .imm (.int .i64)], f := fun x => f_matrix_Solve fuel x.1 x.2 }
theorem f_matrix_Solve_holds : Vm.Spec.holds Tryd.prog 14 S_matrix_Solve := by
 have hB : BodiesOk Tryd.prog E_matrix_Solve := bodies_none rfl
 have hBS : BodiesStepped E_matrix_Solve LL_matrix_Solve := bodies_stepped_none rfl
 have hS : SpecsOk Tryd.prog E_matrix_Solve := specs_ok (by exact ⟨⟨by kernel_rfl, f_matrix_CheckVec_holds⟩, ⟨by kernel_rfl, f_matrix_Check_holds⟩, ⟨by kernel_rfl, f_matrix_Width_holds⟩, ⟨by kernel_rfl, f_matrix_In_holds⟩, ⟨by kernel_rfl, f_matrix_Row_holds⟩, ⟨by kernel_rfl, f_matrix_Out_holds⟩, ⟨by kernel_rfl, f_matrix_Unique_holds⟩, trivial⟩)
 have hE : EOk Tryd.prog E_matrix_Solve := eok_te ok
 exact fn_sound (L := LL_matrix_Solve) hE hS hB (draws_ok hE hS (by kernel_rfl)) hBS (fn := Tryd.f14) (by kernel_rfl) (c := bodyOf Tryd.f14) (by kernel_rfl) (stepped_none rfl) fun x r h => ⟨fuel, (f_matrix_Solve_run fuel x).trans h⟩
noncomputable def E_matrix_Dot : Env := { te := te, spec := [(16, S_matrix_CheckVec), (27, S_matrix_product), (33, S_matrix_Row), (41, S_rat_Fits), (42, S_rat_Q_Out)], body := [] }
def LL_matrix_Dot : Loops := []
def f_matrix_Dot (k : Nat) (a0 : List ByteArray) (a1 : List ByteArray) : Option (ByteArray × Int) :=
 (f_matrix_CheckVec fuel a0).bind fun r1 =>
 if (r1 != 0) = true then
  some ((⟨#[]⟩ : ByteArray), r1)
 else
  (f_matrix_CheckVec fuel a1).bind fun r2 =>
  if (r2 != 0) = true then
   some ((⟨#[]⟩ : ByteArray), r2)
  else
   if ((a0.length : Int) != (a1.length : Int)) = true then
    some ((⟨#[]⟩ : ByteArray), 3)
   else
    (f_matrix_Row fuel a0).bind fun r3 =>
    (f_matrix_Row fuel a1).bind fun r4 =>
    (f_matrix_product fuel r3 r4).bind fun r5 =>
    (f_rat_Fits fuel r5).bind fun r6 =>
    if (r6 != 0) = true then
     some ((⟨#[]⟩ : ByteArray), r6)
    else
     (f_rat_Q_Out fuel r5).bind fun r7 =>
     some (r7, 0)
theorem f_matrix_Dot_run (k : Nat) (x : denL [.slice .str, .slice .str]) : runFn E_matrix_Dot LL_matrix_Dot k 17 Tryd.f17 [.slice .str, .slice .str] [.imm .str, .imm (.int .i64)] x = f_matrix_Dot k x.1 x.2 := by kernel_rfl
noncomputable def S_matrix_Dot : Vm.Spec := { ps := [.slice .str, .slice .str], rs := [.imm .str, .imm (.int .i64)], f := fun x => f_matrix_Dot fuel x.1 x.2 }
theorem f_matrix_Dot_holds : Vm.Spec.holds Tryd.prog 17 S_matrix_Dot := by
 have hB : BodiesOk Tryd.prog E_matrix_Dot := bodies_none rfl
 have hBS : BodiesStepped E_matrix_Dot LL_matrix_Dot := bodies_stepped_none rfl
 have hS : SpecsOk Tryd.prog E_matrix_Dot := specs_ok (by exact ⟨⟨by kernel_rfl, f_matrix_CheckVec_holds⟩, ⟨by kernel_rfl, f_matrix_product_holds⟩, ⟨by kernel_rfl, f_matrix_Row_holds⟩, ⟨by kernel_rfl, f_rat_Fits_holds⟩, ⟨by kernel_rfl, f_rat_Q_Out_holds⟩, trivial⟩)
 have hE : EOk Tryd.prog E_matrix_Dot := eok_te ok
 exact fn_sound (L := LL_matrix_Dot) hE hS hB (draws_ok hE hS (by kernel_rfl)) hBS (fn := Tryd.f17) (by kernel_rfl) (c := bodyOf Tryd.f17) (by kernel_rfl) (stepped_none rfl) fun x r h => ⟨fuel, (f_matrix_Dot_run fuel x).trans h⟩
noncomputable def E_gamehallkeep2_four : Env := { te := te, spec := [], body := [] }
def LL_gamehallkeep2_four : Loops := []
def f_gamehallkeep2_four (k : Nat) : Option (List (List ByteArray)) :=
 some [[(⟨#[49]⟩ : ByteArray), (⟨#[50]⟩ : ByteArray)], [(⟨#[51]⟩ : ByteArray), (⟨#[52]⟩ : ByteArray)]]
theorem f_gamehallkeep2_four_run (k : Nat) (x : denL []) : runFn E_gamehallkeep2_four LL_gamehallkeep2_four k 18 Tryd.f18 [] [.fresh (.slice .str)] x = f_gamehallkeep2_four k := by kernel_rfl
noncomputable def S_gamehallkeep2_four : Vm.Spec := { ps := [], rs := [.fresh (.slice .str)], f := fun x => f_gamehallkeep2_four fuel }
theorem f_gamehallkeep2_four_holds : Vm.Spec.holds Tryd.prog 18 S_gamehallkeep2_four := by
 have hB : BodiesOk Tryd.prog E_gamehallkeep2_four := bodies_none rfl
 have hBS : BodiesStepped E_gamehallkeep2_four LL_gamehallkeep2_four := bodies_stepped_none rfl
 have hS : SpecsOk Tryd.prog E_gamehallkeep2_four := specs_ok (by exact trivial)
 have hE : EOk Tryd.prog E_gamehallkeep2_four := eok_te ok
 exact fn_sound (L := LL_gamehallkeep2_four) hE hS hB (draws_ok hE hS (by kernel_rfl)) hBS (fn := Tryd.f18) (by kernel_rfl) (c := bodyOf Tryd.f18) (by kernel_rfl) (stepped_none rfl) fun x r h => ⟨fuel, (f_gamehallkeep2_four_run fuel x).trans h⟩
noncomputable def E_gamehallkeep2_matrixFact : Env := { te := te, spec := [(8, S_matrix_Mul), (9, S_gamehallkeep2_fine), (10, S_matrix_Same), (11, S_matrix_Apply), (12, S_slices_Equal_Rat), (13, S_matrix_Transpose), (14, S_matrix_Solve), (15, S_matrix_Det), (16, S_matrix_CheckVec), (17, S_matrix_Dot), (18, S_gamehallkeep2_four), (19, S_matrix_Check)], body := [] }
def LL_gamehallkeep2_matrixFact : Loops := []
def f_gamehallkeep2_matrixFact (k : Nat) : Option (Bool) :=
 (f_matrix_Dot fuel [(⟨#[49]⟩ : ByteArray), (⟨#[50]⟩ : ByteArray)] [(⟨#[51]⟩ : ByteArray), (⟨#[52]⟩ : ByteArray)]).bind fun r1 =>
 (f_gamehallkeep2_four fuel).bind fun r2 =>
 (f_matrix_Apply fuel r2 [(⟨#[49]⟩ : ByteArray), (⟨#[49]⟩ : ByteArray)]).bind fun r3 =>
 (f_gamehallkeep2_four fuel).bind fun r4 =>
 (f_gamehallkeep2_four fuel).bind fun r5 =>
 (f_matrix_Mul fuel r4 r5).bind fun r6 =>
 (f_gamehallkeep2_four fuel).bind fun r7 =>
 (f_matrix_Transpose fuel r7).bind fun r8 =>
 (f_matrix_Solve fuel [[(⟨#[49]⟩ : ByteArray), (⟨#[49]⟩ : ByteArray)], [(⟨#[49]⟩ : ByteArray), (⟨#[45, 49]⟩ : ByteArray)]] [(⟨#[51]⟩ : ByteArray), (⟨#[49]⟩ : ByteArray)]).bind fun r9 =>
 (f_gamehallkeep2_four fuel).bind fun r10 =>
 (f_matrix_Det fuel r10).bind fun r11 =>
 (f_gamehallkeep2_fine fuel [r1.2, r3.2, r6.2, r8.2, r9.2, r11.2]).bind fun r12 =>
 if r12 = true then
  if ((r1.1.toList == (⟨#[49, 49]⟩ : ByteArray).toList)) = true then
   (f_slices_Equal_Rat fuel r3.1 [(⟨#[51]⟩ : ByteArray), (⟨#[55]⟩ : ByteArray)]).bind fun r13 =>
   if r13 = true then
    (f_matrix_Same fuel r6.1 [[(⟨#[55]⟩ : ByteArray), (⟨#[49, 48]⟩ : ByteArray)], [(⟨#[49, 53]⟩ : ByteArray), (⟨#[50, 50]⟩ : ByteArray)]]).bind fun r14 =>
    if r14 = true then
     (f_matrix_Same fuel r8.1 [[(⟨#[49]⟩ : ByteArray), (⟨#[51]⟩ : ByteArray)], [(⟨#[50]⟩ : ByteArray), (⟨#[52]⟩ : ByteArray)]]).bind fun r15 =>
     if r15 = true then
      (f_slices_Equal_Rat fuel r9.1 [(⟨#[50]⟩ : ByteArray), (⟨#[49]⟩ : ByteArray)]).bind fun r16 =>
      if r16 = true then
       if ((r11.1.toList == (⟨#[45, 50]⟩ : ByteArray).toList)) = true then
        (f_gamehallkeep2_four fuel).bind fun r17 =>
        (f_matrix_Same fuel r6.1 r17).bind fun r18 =>
        if (!r18) = true then
         (f_matrix_Check fuel [[(⟨#[49]⟩ : ByteArray)], []]).bind fun r19 =>
         if (r19 == 3) = true then
          (f_matrix_CheckVec fuel [(⟨#[]⟩ : ByteArray)]).bind fun r20 =>
          some (r20 == 5)
         else
          some false
        else
         some false
       else
        some false
      else
       some false
     else
      some false
    else
     some false
   else
    some false
  else
   some false
 else
  some false
theorem f_gamehallkeep2_matrixFact_run (k : Nat) (x : denL []) : runFn E_gamehallkeep2_matrixFact LL_gamehallkeep2_matrixFact k 6 Tryd.f6 [] [.imm .bool] x = f_gamehallkeep2_matrixFact k := by kernel_rfl
noncomputable def S_gamehallkeep2_matrixFact : Vm.Spec := { ps := [], rs := [.imm .bool], f := fun x => f_gamehallkeep2_matrixFact fuel }
theorem f_gamehallkeep2_matrixFact_holds : Vm.Spec.holds Tryd.prog 6 S_gamehallkeep2_matrixFact := by
 have hB : BodiesOk Tryd.prog E_gamehallkeep2_matrixFact := bodies_none rfl
 have hBS : BodiesStepped E_gamehallkeep2_matrixFact LL_gamehallkeep2_matrixFact := bodies_stepped_none rfl
 have hS : SpecsOk Tryd.prog E_gamehallkeep2_matrixFact := specs_ok (by exact ⟨⟨by kernel_rfl, f_matrix_Mul_holds⟩, ⟨by kernel_rfl, f_gamehallkeep2_fine_holds⟩, ⟨by kernel_rfl, f_matrix_Same_holds⟩, ⟨by kernel_rfl, f_matrix_Apply_holds⟩, ⟨by kernel_rfl, f_slices_Equal_Rat_holds⟩, ⟨by kernel_rfl, f_matrix_Transpose_holds⟩, ⟨by kernel_rfl, f_matrix_Solve_holds⟩, ⟨by kernel_rfl, f_matrix_Det_holds⟩, ⟨by kernel_rfl, f_matrix_CheckVec_holds⟩, ⟨by kernel_rfl, f_matrix_Dot_holds⟩, ⟨by kernel_rfl, f_gamehallkeep2_four_holds⟩, ⟨by kernel_rfl, f_matrix_Check_holds⟩, trivial⟩)
 have hE : EOk Tryd.prog E_gamehallkeep2_matrixFact := eok_te ok
 exact fn_sound (L := LL_gamehallkeep2_matrixFact) hE hS hB (draws_ok hE hS (by kernel_rfl)) hBS (fn := Tryd.f6) (by kernel_rfl) (c := bodyOf Tryd.f6) (by kernel_rfl) (stepped_none rfl) fun x r h => ⟨fuel, (f_gamehallkeep2_matrixFact_run fuel x).trans h⟩
noncomputable def E_gamehallkeep2_small : Env := { te := te, spec := [], body := [(20, Tryd.f20), (21, Tryd.f21), (22, Tryd.f22), (23, Tryd.f23), (44, Tryd.f44), (45, Tryd.f45)] }
def l_slices_IndexFunc_Rat__slices_ContainsFunc_Rat__gamehallkeep2_small_1__slices_IndexFunc_Vec__slices_ContainsFunc_Vec__gamehallkeep2_small_2H : Ann := { slots := [(0, .one (.val (.slice .str))), (1, .one (.fix (.func 23))), (7, .one (.val (.int .i64))), (8, .one (.val (.int .i64)))], objs := [] }
def l_slices_IndexFunc_Rat__slices_ContainsFunc_Rat__gamehallkeep2_small_1__slices_IndexFunc_Vec__slices_ContainsFunc_Vec__gamehallkeep2_small_2X : Ann := { slots := [], objs := [] }
def l_slices_IndexFunc_Rat__slices_ContainsFunc_Rat__gamehallkeep2_small_1__slices_IndexFunc_Vec__slices_ContainsFunc_Vec__gamehallkeep2_small_2R : Ann := { slots := [(4, .one (.val (.int .i64)))], objs := [] }
def l_slices_IndexFunc_Vec__slices_ContainsFunc_Vec__gamehallkeep2_small_2H : Ann := { slots := [(0, .one (.val (.slice (.slice .str)))), (1, .one (.fix (.clos 76))), (7, .one (.val (.int .i64))), (8, .one (.val (.int .i64)))], objs := [(76, .clos 21 [.fix (.pbox 8 0)]), (8, .box [.val (.int .i64)])] }
def l_slices_IndexFunc_Vec__slices_ContainsFunc_Vec__gamehallkeep2_small_2X : Ann := { slots := [], objs := [(76, .clos 21 [.fix (.pbox 8 0)]), (8, .box [.val (.int .i64)])] }
def l_slices_IndexFunc_Vec__slices_ContainsFunc_Vec__gamehallkeep2_small_2R : Ann := { slots := [(4, .one (.val (.int .i64)))], objs := [(76, .clos 21 [.fix (.pbox 8 0)]), (8, .box [.val (.int .i64)])] }
def l_gamehallkeep2_small_2H : Ann := { slots := [(2, .one (.fix (.pbox 8 0))), (7, .one (.val (.slice (.slice (.slice .str))))), (8, .one (.val (.int .i64))), (9, .one (.val (.int .i64)))], objs := [(8, .box [.val (.int .i64)])] }
def l_gamehallkeep2_small_2X : Ann := { slots := [], objs := [(8, .box [.val (.int .i64)])] }
def l_gamehallkeep2_small_2R : Ann := { slots := [(4, .one (.val .bool))], objs := [(8, .box [.val (.int .i64)])] }
def l_slices_IndexFunc_Rat__slices_ContainsFunc_Rat__gamehallkeep2_small_1__slices_IndexFunc_Vec__slices_ContainsFunc_Vec__gamehallkeep2_small_2 : Nat → List ByteArray → Int → Int → Option (LR l_slices_IndexFunc_Rat__slices_ContainsFunc_Rat__gamehallkeep2_small_1__slices_IndexFunc_Vec__slices_ContainsFunc_Vec__gamehallkeep2_small_2X l_slices_IndexFunc_Rat__slices_ContainsFunc_Rat__gamehallkeep2_small_1__slices_IndexFunc_Vec__slices_ContainsFunc_Vec__gamehallkeep2_small_2R)
 | 0, _, _, _ => none
 | m + 1, s0, s7, s8 =>
  if decide (s8 < s7) = true then
   if (0 : Int) ≤ s8 then
    if s8 < s0.length then
     if decide (((s0.getD s8.toNat ByteArray.empty).size : Int) > 12) = true then
      some (.ret (s8, ()))
     else
      l_slices_IndexFunc_Rat__slices_ContainsFunc_Rat__gamehallkeep2_small_1__slices_IndexFunc_Vec__slices_ContainsFunc_Vec__gamehallkeep2_small_2 m s0 s7 (IntKind.i64.wrap (s8 + 1))
    else none
   else none
  else
   some (.exit ())
def l_slices_IndexFunc_Rat__slices_ContainsFunc_Rat__gamehallkeep2_small_1__slices_IndexFunc_Vec__slices_ContainsFunc_Vec__gamehallkeep2_small_2L : LSpec := { h := l_slices_IndexFunc_Rat__slices_ContainsFunc_Rat__gamehallkeep2_small_1__slices_IndexFunc_Vec__slices_ContainsFunc_Vec__gamehallkeep2_small_2H, x := l_slices_IndexFunc_Rat__slices_ContainsFunc_Rat__gamehallkeep2_small_1__slices_IndexFunc_Vec__slices_ContainsFunc_Vec__gamehallkeep2_small_2X, r := l_slices_IndexFunc_Rat__slices_ContainsFunc_Rat__gamehallkeep2_small_1__slices_IndexFunc_Vec__slices_ContainsFunc_Vec__gamehallkeep2_small_2R, xid := 0, rt := true, pins := [], f := fun k d => l_slices_IndexFunc_Rat__slices_ContainsFunc_Rat__gamehallkeep2_small_1__slices_IndexFunc_Vec__slices_ContainsFunc_Vec__gamehallkeep2_small_2 k d.1 d.2.1 d.2.2.1 }
def l_slices_IndexFunc_Vec__slices_ContainsFunc_Vec__gamehallkeep2_small_2 : Nat → List (List ByteArray) → Int → Int → Int → Option (LR l_slices_IndexFunc_Vec__slices_ContainsFunc_Vec__gamehallkeep2_small_2X l_slices_IndexFunc_Vec__slices_ContainsFunc_Vec__gamehallkeep2_small_2R)
 | 0, _, _, _, _ => none
 | m + 1, s0, s7, s8, b8_0 =>
  if decide (s8 < s7) = true then
   if (0 : Int) ≤ s8 then
    if s8 < s0.length then
     if decide (((s0.getD s8.toNat []).length : Int) > b8_0) = false then
      match l_slices_IndexFunc_Rat__slices_ContainsFunc_Rat__gamehallkeep2_small_1__slices_IndexFunc_Vec__slices_ContainsFunc_Vec__gamehallkeep2_small_2 m (s0.getD s8.toNat []) ((s0.getD s8.toNat []).length : Int) 0 with
      | none => none
      | some (.exit d1) =>
       l_slices_IndexFunc_Vec__slices_ContainsFunc_Vec__gamehallkeep2_small_2 m s0 s7 (IntKind.i64.wrap (s8 + 1)) b8_0
      | some (.ret d1) =>
       if decide (d1.1 ≥ 0) = true then
        some (.ret (s8, b8_0, ()))
       else
        l_slices_IndexFunc_Vec__slices_ContainsFunc_Vec__gamehallkeep2_small_2 m s0 s7 (IntKind.i64.wrap (s8 + 1)) b8_0
     else
      some (.ret (s8, b8_0, ()))
    else none
   else none
  else
   some (.exit (b8_0, ()))
def l_slices_IndexFunc_Vec__slices_ContainsFunc_Vec__gamehallkeep2_small_2L : LSpec := { h := l_slices_IndexFunc_Vec__slices_ContainsFunc_Vec__gamehallkeep2_small_2H, x := l_slices_IndexFunc_Vec__slices_ContainsFunc_Vec__gamehallkeep2_small_2X, r := l_slices_IndexFunc_Vec__slices_ContainsFunc_Vec__gamehallkeep2_small_2R, xid := 0, rt := true, pins := [76, 8], f := fun k d => l_slices_IndexFunc_Vec__slices_ContainsFunc_Vec__gamehallkeep2_small_2 k d.1 d.2.1 d.2.2.1 d.2.2.2.1 }
def l_gamehallkeep2_small_2 : Nat → List (List (List ByteArray)) → Int → Int → Int → Option (LR l_gamehallkeep2_small_2X l_gamehallkeep2_small_2R)
 | 0, _, _, _, _ => none
 | m + 1, s7, s8, s9, b8_0 =>
  if decide (s9 < s8) = true then
   if (0 : Int) ≤ s9 then
    if s9 < s7.length then
     if decide (((s7.getD s9.toNat []).length : Int) > b8_0) = false then
      match l_slices_IndexFunc_Vec__slices_ContainsFunc_Vec__gamehallkeep2_small_2 m (s7.getD s9.toNat []) ((s7.getD s9.toNat []).length : Int) 0 b8_0 with
      | none => none
      | some (.exit d1) =>
       l_gamehallkeep2_small_2 m s7 s8 (IntKind.i64.wrap (s9 + 1)) d1.1
      | some (.ret d1) =>
       if decide (d1.1 ≥ 0) = true then
        some (.ret (false, d1.2.1, ()))
       else
        l_gamehallkeep2_small_2 m s7 s8 (IntKind.i64.wrap (s9 + 1)) d1.2.1
     else
      some (.ret (false, b8_0, ()))
    else none
   else none
  else
   some (.exit (b8_0, ()))
def l_gamehallkeep2_small_2L : LSpec := { h := l_gamehallkeep2_small_2H, x := l_gamehallkeep2_small_2X, r := l_gamehallkeep2_small_2R, xid := 0, rt := true, pins := [8], f := fun k d => l_gamehallkeep2_small_2 k d.1 d.2.1 d.2.2.1 d.2.2.2.1 }
def LL_gamehallkeep2_small : Loops := [([45, 22, 21, 44, 20, 7], [(2, l_slices_IndexFunc_Rat__slices_ContainsFunc_Rat__gamehallkeep2_small_1__slices_IndexFunc_Vec__slices_ContainsFunc_Vec__gamehallkeep2_small_2L)]), ([44, 20, 7], [(2, l_slices_IndexFunc_Vec__slices_ContainsFunc_Vec__gamehallkeep2_small_2L)]), ([7], [(2, l_gamehallkeep2_small_2L)])]
def f_gamehallkeep2_small (k : Nat) (a0 : Int) (a1 : List (List (List ByteArray))) : Option (Bool) :=
 match l_gamehallkeep2_small_2 k a1 (a1.length : Int) 0 a0 with
 | none => none
 | some (.exit d1) =>
  some true
 | some (.ret d1) =>
  some d1.1
theorem l_slices_IndexFunc_Rat__slices_ContainsFunc_Rat__gamehallkeep2_small_1__slices_IndexFunc_Vec__slices_ContainsFunc_Vec__gamehallkeep2_small_2_step (m : Nat) (d : dens l_slices_IndexFunc_Rat__slices_ContainsFunc_Rat__gamehallkeep2_small_1__slices_IndexFunc_Vec__slices_ContainsFunc_Vec__gamehallkeep2_small_2H.tys) : l_slices_IndexFunc_Rat__slices_ContainsFunc_Rat__gamehallkeep2_small_1__slices_IndexFunc_Vec__slices_ContainsFunc_Vec__gamehallkeep2_small_2L.f (m + 1) d = round E_gamehallkeep2_small LL_gamehallkeep2_small m [45, 22, 21, 44, 20, 7] 19 (loopN (bodyOf Tryd.f45) 0) l_slices_IndexFunc_Rat__slices_ContainsFunc_Rat__gamehallkeep2_small_1__slices_IndexFunc_Vec__slices_ContainsFunc_Vec__gamehallkeep2_small_2L (l_slices_IndexFunc_Rat__slices_ContainsFunc_Rat__gamehallkeep2_small_1__slices_IndexFunc_Vec__slices_ContainsFunc_Vec__gamehallkeep2_small_2L.f m) d := by kernel_rfl
theorem l_slices_IndexFunc_Vec__slices_ContainsFunc_Vec__gamehallkeep2_small_2_step (m : Nat) (d : dens l_slices_IndexFunc_Vec__slices_ContainsFunc_Vec__gamehallkeep2_small_2H.tys) : l_slices_IndexFunc_Vec__slices_ContainsFunc_Vec__gamehallkeep2_small_2L.f (m + 1) d = round E_gamehallkeep2_small LL_gamehallkeep2_small m [44, 20, 7] 19 (loopN (bodyOf Tryd.f44) 0) l_slices_IndexFunc_Vec__slices_ContainsFunc_Vec__gamehallkeep2_small_2L (l_slices_IndexFunc_Vec__slices_ContainsFunc_Vec__gamehallkeep2_small_2L.f m) d := by kernel_rfl
theorem l_gamehallkeep2_small_2_step (m : Nat) (d : dens l_gamehallkeep2_small_2H.tys) : l_gamehallkeep2_small_2L.f (m + 1) d = round E_gamehallkeep2_small LL_gamehallkeep2_small m [7] 23 (loopN (bodyOf Tryd.f7) 0) l_gamehallkeep2_small_2L (l_gamehallkeep2_small_2L.f m) d := by kernel_rfl
theorem f_gamehallkeep2_small_run (k : Nat) (x : denL [.int .i64, .slice (.slice (.slice .str))]) : runFn E_gamehallkeep2_small LL_gamehallkeep2_small k 7 Tryd.f7 [.int .i64, .slice (.slice (.slice .str))] [.imm .bool] x = f_gamehallkeep2_small k x.1 x.2 := by kernel_rfl
noncomputable def S_gamehallkeep2_small : Vm.Spec := { ps := [.int .i64, .slice (.slice (.slice .str))], rs := [.imm .bool], f := fun x => f_gamehallkeep2_small fuel x.1 x.2 }
theorem f_gamehallkeep2_small_holds : Vm.Spec.holds Tryd.prog 7 S_gamehallkeep2_small := by
 have hB : BodiesOk Tryd.prog E_gamehallkeep2_small := bodies_ok (by exact ⟨by kernel_rfl, by kernel_rfl, by kernel_rfl, by kernel_rfl, by kernel_rfl, by kernel_rfl, by kernel_rfl, by kernel_rfl, by kernel_rfl, by kernel_rfl, by kernel_rfl, by kernel_rfl, trivial⟩)
 have hBS : BodiesStepped E_gamehallkeep2_small LL_gamehallkeep2_small := by
  refine bodies_stepped ?_
  exact ⟨(fun _ => stepped_noloop (by kernel_rfl)), (fun _ => stepped_noloop (by kernel_rfl)), (fun _ => stepped_noloop (by kernel_rfl)), (fun _ => stepped_noloop (by kernel_rfl)), (stepped_paths [[20, 7]] (by exact ⟨stepped_of (ls := [(2, l_slices_IndexFunc_Vec__slices_ContainsFunc_Vec__gamehallkeep2_small_2L)]) rfl rfl ⟨by kernel_rfl, fun _ => rfl, l_slices_IndexFunc_Vec__slices_ContainsFunc_Vec__gamehallkeep2_small_2_step, stepsI_end (by kernel_rfl)⟩,  trivial⟩) rfl), (stepped_paths [[22, 21, 44, 20, 7]] (by exact ⟨stepped_of (ls := [(2, l_slices_IndexFunc_Rat__slices_ContainsFunc_Rat__gamehallkeep2_small_1__slices_IndexFunc_Vec__slices_ContainsFunc_Vec__gamehallkeep2_small_2L)]) rfl rfl ⟨by kernel_rfl, fun _ => rfl, l_slices_IndexFunc_Rat__slices_ContainsFunc_Rat__gamehallkeep2_small_1__slices_IndexFunc_Vec__slices_ContainsFunc_Vec__gamehallkeep2_small_2_step, stepsI_end (by kernel_rfl)⟩,  trivial⟩) rfl),  trivial⟩
 have hS : SpecsOk Tryd.prog E_gamehallkeep2_small := specs_ok (by exact trivial)
 have hE : EOk Tryd.prog E_gamehallkeep2_small := eok_te ok
 exact fn_sound (L := LL_gamehallkeep2_small) hE hS hB (draws_ok hE hS (by kernel_rfl)) hBS (fn := Tryd.f7) (by kernel_rfl) (c := bodyOf Tryd.f7) (by kernel_rfl) (stepped_of (ls := [(2, l_gamehallkeep2_small_2L)]) rfl rfl ⟨by kernel_rfl, fun _ => rfl, l_gamehallkeep2_small_2_step, stepsI_end (by kernel_rfl)⟩) fun x r h => ⟨fuel, (f_gamehallkeep2_small_run fuel x).trans h⟩
noncomputable def E_gamehallkeep2_MatrixKinds : Env := { te := te, spec := [(6, S_gamehallkeep2_matrixFact), (7, S_gamehallkeep2_small), (11, S_matrix_Apply), (12, S_slices_Equal_Rat), (14, S_matrix_Solve), (15, S_matrix_Det), (16, S_matrix_CheckVec)], body := [] }
def LL_gamehallkeep2_MatrixKinds : Loops := []
def f_gamehallkeep2_MatrixKinds (k : Nat) (a0 : List (List ByteArray)) (a1 : List ByteArray) : Option (Bool) :=
 (f_gamehallkeep2_matrixFact fuel).bind fun r1 =>
 if (!r1) = true then
  some false
 else
  (f_matrix_Solve fuel a0 a1).bind fun r2 =>
  (f_gamehallkeep2_small fuel 5 [a0, [a1]]).bind fun r3 =>
  if (!r3) = true then
   some true
  else
   if (r2.2 == 0) = true then
    (f_matrix_Apply fuel a0 r2.1).bind fun r4 =>
    if (r4.2 != 0) = false then
     (f_slices_Equal_Rat fuel r4.1 a1).bind fun r5 =>
     if (!r5) = true then
      some false
     else
      (f_matrix_Det fuel a0).bind fun r6 =>
      if (r6.2 != 0) = false then
       if ((a1.length : Int) != (a0.length : Int)) = false then
        (f_matrix_CheckVec fuel a1).bind fun r7 =>
        if (r7 != 0) = true then
         some true
        else
         if ((r6.1.toList == (⟨#[48]⟩ : ByteArray).toList)) = true then
          if (r2.2 == 8) = false then
           if (r2.2 == 18) = true then
            some ((r2.1.length : Int) == 0)
           else
            some false
          else
           some ((r2.1.length : Int) == 0)
         else
          some (r2.2 == 0)
       else
        some true
      else
       some true
    else
     some false
   else
    (f_matrix_Det fuel a0).bind fun r8 =>
    if (r8.2 != 0) = false then
     if ((a1.length : Int) != (a0.length : Int)) = false then
      (f_matrix_CheckVec fuel a1).bind fun r9 =>
      if (r9 != 0) = true then
       some true
      else
       if ((r8.1.toList == (⟨#[48]⟩ : ByteArray).toList)) = true then
        if (r2.2 == 8) = false then
         if (r2.2 == 18) = true then
          some ((r2.1.length : Int) == 0)
         else
          some false
        else
         some ((r2.1.length : Int) == 0)
       else
        some (r2.2 == 0)
     else
      some true
    else
     some true
theorem f_gamehallkeep2_MatrixKinds_run (k : Nat) (x : denL [.slice (.slice .str), .slice .str]) : runFn E_gamehallkeep2_MatrixKinds LL_gamehallkeep2_MatrixKinds k 5 Tryd.f5 [.slice (.slice .str), .slice .str] [.imm .bool] x = f_gamehallkeep2_MatrixKinds k x.1 x.2 := by kernel_rfl
noncomputable def S_gamehallkeep2_MatrixKinds : Vm.Spec := { ps := [.slice (.slice .str), .slice .str], rs := [.imm .bool], f := fun x => f_gamehallkeep2_MatrixKinds fuel x.1 x.2 }
theorem f_gamehallkeep2_MatrixKinds_holds : Vm.Spec.holds Tryd.prog 5 S_gamehallkeep2_MatrixKinds := by
 have hB : BodiesOk Tryd.prog E_gamehallkeep2_MatrixKinds := bodies_none rfl
 have hBS : BodiesStepped E_gamehallkeep2_MatrixKinds LL_gamehallkeep2_MatrixKinds := bodies_stepped_none rfl
 have hS : SpecsOk Tryd.prog E_gamehallkeep2_MatrixKinds := specs_ok (by exact ⟨⟨by kernel_rfl, f_gamehallkeep2_matrixFact_holds⟩, ⟨by kernel_rfl, f_gamehallkeep2_small_holds⟩, ⟨by kernel_rfl, f_matrix_Apply_holds⟩, ⟨by kernel_rfl, f_slices_Equal_Rat_holds⟩, ⟨by kernel_rfl, f_matrix_Solve_holds⟩, ⟨by kernel_rfl, f_matrix_Det_holds⟩, ⟨by kernel_rfl, f_matrix_CheckVec_holds⟩, trivial⟩)
 have hE : EOk Tryd.prog E_gamehallkeep2_MatrixKinds := eok_te ok
 exact fn_sound (L := LL_gamehallkeep2_MatrixKinds) hE hS hB (draws_ok hE hS (by kernel_rfl)) hBS (fn := Tryd.f5) (by kernel_rfl) (c := bodyOf Tryd.f5) (by kernel_rfl) (stepped_none rfl) fun x r h => ⟨fuel, (f_gamehallkeep2_MatrixKinds_run fuel x).trans h⟩
end Go.Proofs.YtnhdjbbdgegkgaaDoor
