/- Pure functions, printed by a program of this session out of the program. -/
import Derived.Test.YtbcooccafbccdaaGreatDoorVmD
import Derived.Test.YtbcooccafbccdaaGreatDoorSh
set_option linter.unusedVariables false
namespace Go.Proofs.YtbcooccafbccdaaGreatDoor
open Go Vm Go.Proofs
def te : TE := [(2, ⟨.int .i64, .sc, 8⟩),
  (3, ⟨.int .i64, .sc, 8⟩),
  (4, ⟨.bool, .sc, 1⟩),
  (5, ⟨.int .u8, .sc, 1⟩),
  (9, ⟨.str, .sc, 16⟩),
  (22, ⟨.slice (.pair (.int .i64) (.pair (.int .i64) (.pair (.int .i64) (.pair (.slice (.int .i64)) (.pair (.slice .str) .str))))), .slice 34, 24⟩),
  (23, ⟨.nsl (.pair (.int .i64) (.slice .str)), .slice 50, 24⟩),
  (27, ⟨.slice .str, .slice 31, 24⟩),
  (28, ⟨.int .i64, .sc, 8⟩),
  (31, ⟨.str, .sc, 16⟩),
  (32, ⟨.slice (.int .i64), .slice 3, 24⟩),
  (34, ⟨.pair (.int .i64) (.pair (.int .i64) (.pair (.int .i64) (.pair (.slice (.int .i64)) (.pair (.slice .str) .str)))), .st [3, 3, 3, 32, 27, 31], 88⟩),
  (50, ⟨.pair (.int .i64) (.slice .str), .st [3, 27], 32⟩),
  (57, ⟨.slice (.nsl (.pair (.int .i64) (.slice .str))), .slice 23, 24⟩),
  (61, ⟨.slice (.pair .bool (.pair (.slice (.int .u32)) (.slice (.int .u32)))), .slice 68, 24⟩),
  (64, ⟨.arr 2 (.nsl (.pair (.int .i64) (.slice .str))), .ar 2 23, 48⟩),
  (66, ⟨.slice (.int .u32), .slice 120, 24⟩),
  (68, ⟨.pair .bool (.pair (.slice (.int .u32)) (.slice (.int .u32))), .st [4, 66, 66], 56⟩),
  (82, ⟨.slice (.int .i64), .slice 28, 24⟩),
  (103, ⟨.slice (.slice (.pair (.int .i64) (.int .i64))), .slice 106, 24⟩),
  (106, ⟨.slice (.pair (.int .i64) (.int .i64)), .slice 108, 24⟩),
  (108, ⟨.pair (.int .i64) (.int .i64), .st [3, 3], 16⟩),
  (111, ⟨.slice (.pair (.int .i64) (.pair (.int .i64) (.int .i64))), .slice 115, 24⟩),
  (115, ⟨.pair (.int .i64) (.pair (.int .i64) (.int .i64)), .st [3, 3, 3], 24⟩),
  (120, ⟨.int .u32, .sc, 4⟩),
  (121, ⟨.int .u64, .sc, 8⟩),
  (124, ⟨.slice (.int .u8), .slice 5, 24⟩),
  (128, ⟨.arr 9 (.int .u8), .ar 9 5, 9⟩)]
theorem ok : EOk Tryz.prog { te := te, spec := [], body := [] } := eok_of (by kernel_rfl)
def tep : TE := [(2, ⟨.int .i64, .sc, 8⟩),
  (3, ⟨.int .i64, .sc, 8⟩),
  (4, ⟨.bool, .sc, 1⟩),
  (5, ⟨.int .u8, .sc, 1⟩),
  (9, ⟨.str, .sc, 16⟩),
  (22, ⟨.slice (.pair (.int .i64) (.pair (.int .i64) (.pair (.int .i64) (.pair (.slice (.int .i64)) (.pair (.slice .str) .str))))), .slice 34, 24⟩),
  (23, ⟨.slice (.pair (.int .i64) (.slice .str)), .slice 50, 24⟩),
  (27, ⟨.slice .str, .slice 31, 24⟩),
  (28, ⟨.int .i64, .sc, 8⟩),
  (31, ⟨.str, .sc, 16⟩),
  (32, ⟨.slice (.int .i64), .slice 3, 24⟩),
  (34, ⟨.pair (.int .i64) (.pair (.int .i64) (.pair (.int .i64) (.pair (.slice (.int .i64)) (.pair (.slice .str) .str)))), .st [3, 3, 3, 32, 27, 31], 88⟩),
  (50, ⟨.pair (.int .i64) (.slice .str), .st [3, 27], 32⟩),
  (57, ⟨.slice (.slice (.pair (.int .i64) (.slice .str))), .slice 23, 24⟩),
  (61, ⟨.slice (.pair .bool (.pair (.slice (.int .u32)) (.slice (.int .u32)))), .slice 68, 24⟩),
  (64, ⟨.arr 2 (.slice (.pair (.int .i64) (.slice .str))), .ar 2 23, 48⟩),
  (66, ⟨.slice (.int .u32), .slice 120, 24⟩),
  (68, ⟨.pair .bool (.pair (.slice (.int .u32)) (.slice (.int .u32))), .st [4, 66, 66], 56⟩),
  (82, ⟨.slice (.int .i64), .slice 28, 24⟩),
  (103, ⟨.slice (.slice (.pair (.int .i64) (.int .i64))), .slice 106, 24⟩),
  (106, ⟨.slice (.pair (.int .i64) (.int .i64)), .slice 108, 24⟩),
  (108, ⟨.pair (.int .i64) (.int .i64), .st [3, 3], 16⟩),
  (111, ⟨.slice (.pair (.int .i64) (.pair (.int .i64) (.int .i64))), .slice 115, 24⟩),
  (115, ⟨.pair (.int .i64) (.pair (.int .i64) (.int .i64)), .st [3, 3, 3], 24⟩),
  (120, ⟨.int .u32, .sc, 4⟩),
  (121, ⟨.int .u64, .sc, 8⟩),
  (124, ⟨.slice (.int .u8), .slice 5, 24⟩),
  (128, ⟨.arr 9 (.int .u8), .ar 9 5, 9⟩)]
theorem okp : EOk Tryz.prog { te := tep, spec := [], body := [] } := eok_of (by kernel_rfl)
noncomputable def E_strings_trimLeftByte : Env := { te := te, spec := [], body := [], flat := [106] }
def l_strings_trimLeftByte_1H : Ann := { slots := [(0, .one (.val .str)), (1, .one (.val (.int .u8)))], objs := [] }
def l_strings_trimLeftByte_1X : Ann := { slots := [(0, .one (.val .str))], objs := [] }
def l_strings_trimLeftByte_1R : Ann := { slots := [], objs := [] }
def l_strings_trimLeftByte_1 : Nat → ByteArray → Int → Option (LR l_strings_trimLeftByte_1X l_strings_trimLeftByte_1R)
 | 0, _, _ => none
 | m + 1, s0, s1 =>
  if decide ((s0.size : Int) > 0) = true then
   if (0 : Int) < (s0.size : Int) then
    if (((s0.data.getD 0 0).toNat : Int) == s1) = true then
     if (1 : Int) ≤ s0.size then
      l_strings_trimLeftByte_1 m (s0.extract 1 s0.size) s1
     else none
    else
     some (.exit (s0, ()))
   else none
  else
   some (.exit (s0, ()))
def l_strings_trimLeftByte_1L : LSpec := { h := l_strings_trimLeftByte_1H, x := l_strings_trimLeftByte_1X, r := l_strings_trimLeftByte_1R, xid := 0, rt := false, pins := [], f := fun k d => l_strings_trimLeftByte_1 k d.1 d.2.1 }
def LL_strings_trimLeftByte : Loops := [([93], [(1, l_strings_trimLeftByte_1L)])]
def f_strings_trimLeftByte (k : Nat) (a0 : ByteArray) (a1 : Int) : Option (ByteArray) :=
 match l_strings_trimLeftByte_1 k a0 a1 with
 | none => none
 | some (.exit d1) =>
  some d1.1
 | some (.ret d1) =>
  none
theorem l_strings_trimLeftByte_1_step (m : Nat) (d : dens l_strings_trimLeftByte_1H.tys) : l_strings_trimLeftByte_1L.f (m + 1) d = round E_strings_trimLeftByte LL_strings_trimLeftByte m [93] 17 (loopN (bodyOf Tryz.f93) 0) l_strings_trimLeftByte_1L (l_strings_trimLeftByte_1L.f m) d := by kernel_rfl
theorem f_strings_trimLeftByte_run (k : Nat) (x : denL [.str, .int .u8]) : runFn E_strings_trimLeftByte LL_strings_trimLeftByte k 93 Tryz.f93 [.str, .int .u8] [.imm .str] x = f_strings_trimLeftByte k x.1 x.2 := by kernel_rfl
noncomputable def S_strings_trimLeftByte : Vm.Spec := { ps := [.str, .int .u8], rs := [.imm .str], f := fun x => f_strings_trimLeftByte fuel x.1 x.2 }
theorem f_strings_trimLeftByte_holds : Vm.Spec.holds Tryz.prog 93 S_strings_trimLeftByte := by
 have hB : BodiesOk Tryz.prog E_strings_trimLeftByte := bodies_none rfl
 have hBS : BodiesStepped E_strings_trimLeftByte LL_strings_trimLeftByte := bodies_stepped_none rfl
 have hS : SpecsOk Tryz.prog E_strings_trimLeftByte := specs_ok (by exact trivial)
 have hE : EOk Tryz.prog E_strings_trimLeftByte := eok_te ok
 exact fn_sound (L := LL_strings_trimLeftByte) hE hS hB (draws_ok hE hS (by kernel_rfl)) hBS (fn := Tryz.f93) (by kernel_rfl) (c := bodyOf Tryz.f93) (by kernel_rfl) (stepped_of (ls := [(1, l_strings_trimLeftByte_1L)]) rfl rfl ⟨by kernel_rfl, fun _ => rfl, l_strings_trimLeftByte_1_step, stepsI_end (by kernel_rfl)⟩) fun x r h => ⟨fuel, (f_strings_trimLeftByte_run fuel x).trans h⟩
noncomputable def E_strings_TrimLeft : Env := { te := te, spec := [(93, S_strings_trimLeftByte)], body := [], flat := [106] }
def LL_strings_TrimLeft : Loops := []
def f_strings_TrimLeft (k : Nat) (a0 : ByteArray) (a1 : ByteArray) : Option (ByteArray) :=
 if ((a0.toList == (⟨#[]⟩ : ByteArray).toList)) = false then
  if ((a1.toList == (⟨#[]⟩ : ByteArray).toList)) = true then
   some a0
  else
   if ((a1.size : Int) == 1) = true then
    if (0 : Int) < (a1.size : Int) then
     if decide (((a1.data.getD 0 0).toNat : Int) < 128) = true then
      if (0 : Int) < (a1.size : Int) then
       (f_strings_trimLeftByte fuel a0 ((a1.data.getD 0 0).toNat : Int)).bind fun r1 =>
       some r1
      else none
     else none
    else none
   else none
 else
  some a0
theorem f_strings_TrimLeft_run (k : Nat) (x : denL [.str, .str]) : runFn E_strings_TrimLeft LL_strings_TrimLeft k 86 Tryz.f86 [.str, .str] [.imm .str] x = f_strings_TrimLeft k x.1 x.2 := by kernel_rfl
noncomputable def S_strings_TrimLeft : Vm.Spec := { ps := [.str, .str], rs := [.imm .str], f := fun x => f_strings_TrimLeft fuel x.1 x.2 }
theorem f_strings_TrimLeft_holds : Vm.Spec.holds Tryz.prog 86 S_strings_TrimLeft := by
 have hB : BodiesOk Tryz.prog E_strings_TrimLeft := bodies_none rfl
 have hBS : BodiesStepped E_strings_TrimLeft LL_strings_TrimLeft := bodies_stepped_none rfl
 have hS : SpecsOk Tryz.prog E_strings_TrimLeft := specs_ok (by exact ⟨⟨by kernel_rfl, f_strings_trimLeftByte_holds⟩, trivial⟩)
 have hE : EOk Tryz.prog E_strings_TrimLeft := eok_te ok
 exact fn_sound (L := LL_strings_TrimLeft) hE hS hB (draws_ok hE hS (by kernel_rfl)) hBS (fn := Tryz.f86) (by kernel_rfl) (c := bodyOf Tryz.f86) (by kernel_rfl) (stepped_none rfl) fun x r h => ⟨fuel, (f_strings_TrimLeft_run fuel x).trans h⟩
noncomputable def E_nat_N_Text : Env := { te := te, spec := [(86, S_strings_TrimLeft)], body := [], flat := [106] }
def l_nat_N_Text_10H : Ann := { slots := [(5, .one (.val (.int .u32))), (6, .one (.fix (.pbox 24 0))), (7, .one (.val (.int .i64)))], objs := [(24, .box [.val (.arr 9 (.int .u8))])] }
def l_nat_N_Text_10X : Ann := { slots := [(6, .one (.fix (.pbox 24 0)))], objs := [(24, .box [.val (.arr 9 (.int .u8))])] }
def l_nat_N_Text_10R : Ann := { slots := [], objs := [] }
def l_nat_N_Text_5H : Ann := { slots := [(0, .one (.val (.slice (.int .u32)))), (3, .one (.own 56 (.int .u8))), (4, .one (.val (.int .i64)))], objs := [(56, .buf (.int .u8))] }
def l_nat_N_Text_5X : Ann := { slots := [(3, .one (.own 56 (.int .u8)))], objs := [(56, .buf (.int .u8))] }
def l_nat_N_Text_5R : Ann := { slots := [], objs := [] }
def l_nat_N_Text_10 : Nat → Int → Int → List Int → Option (LR l_nat_N_Text_10X l_nat_N_Text_10R)
 | 0, _, _, _ => none
 | m + 1, s5, s7, b24_0 =>
  if decide (s7 ≥ 0) = true then
   if (0 : Int) ≤ s7 then
    if s7 < 9 then
     l_nat_N_Text_10 m (IntKind.u32.wrap (s5.tdiv 10)) (IntKind.i64.wrap (s7 - 1)) (b24_0.set s7.toNat (IntKind.u8.wrap (IntKind.u32.wrap (48 + (s5.tmod 10)))))
    else none
   else none
  else
   some (.exit (b24_0, ()))
def l_nat_N_Text_10L : LSpec := { h := l_nat_N_Text_10H, x := l_nat_N_Text_10X, r := l_nat_N_Text_10R, xid := 2, rt := false, pins := [24], f := fun k d => l_nat_N_Text_10 k d.1 d.2.1 d.2.2.1 }
def l_nat_N_Text_5 : Nat → List Int → Int → List Int → Option (LR l_nat_N_Text_5X l_nat_N_Text_5R)
 | 0, _, _, _ => none
 | m + 1, s0, s4, b56 =>
  if decide (s4 ≥ 0) = true then
   if (0 : Int) ≤ s4 then
    if s4 < s0.length then
     match l_nat_N_Text_10 m (s0.getD s4.toNat 0) 8 (List.replicate 9 0) with
     | none => none
     | some (.exit d1) =>
      if (b56.length + ((d1.1.take 9).drop 0).length) * 1 ≤ 140737488355328 then
       l_nat_N_Text_5 m s0 (IntKind.i64.wrap (s4 - 1)) (b56 ++ ((d1.1.take 9).drop 0))
      else none
     | some (.ret d1) =>
      none
    else none
   else none
  else
   some (.exit (b56, ()))
def l_nat_N_Text_5L : LSpec := { h := l_nat_N_Text_5H, x := l_nat_N_Text_5X, r := l_nat_N_Text_5R, xid := 0, rt := false, pins := [], f := fun k d => l_nat_N_Text_5 k d.1 d.2.1 d.2.2.1 }
def LL_nat_N_Text : Loops := [([73], [(5, l_nat_N_Text_5L), (10, l_nat_N_Text_10L)])]
def f_nat_N_Text (k : Nat) (a0 : List Int) : Option (ByteArray) :=
 if ((a0.length : Int) == 0) = true then
  some (⟨#[48]⟩ : ByteArray)
 else
  if (0 : Int) ≤ IntKind.i64.wrap (9 * (a0.length : Int)) then
   if (IntKind.i64.wrap (9 * (a0.length : Int))) * 1 ≤ 281474976710656 then
    match l_nat_N_Text_5 k a0 (IntKind.i64.wrap ((a0.length : Int) - 1)) (List.replicate 0 0) with
    | none => none
    | some (.exit d1) =>
     (f_strings_TrimLeft fuel (⟨(d1.1.map fun n => UInt8.ofNat n.toNat).toArray⟩ : ByteArray) (⟨#[48]⟩ : ByteArray)).bind fun r2 =>
     some r2
    | some (.ret d1) =>
     none
   else none
  else none
theorem l_nat_N_Text_10_step (m : Nat) (d : dens l_nat_N_Text_10H.tys) : l_nat_N_Text_10L.f (m + 1) d = round E_nat_N_Text LL_nat_N_Text m [73] 44 (loopN (bodyOf Tryz.f73) 1) l_nat_N_Text_10L (l_nat_N_Text_10L.f m) d := by kernel_rfl
theorem l_nat_N_Text_5_step (m : Nat) (d : dens l_nat_N_Text_5H.tys) : l_nat_N_Text_5L.f (m + 1) d = round E_nat_N_Text LL_nat_N_Text m [73] 44 (loopN (bodyOf Tryz.f73) 0) l_nat_N_Text_5L (l_nat_N_Text_5L.f m) d := by kernel_rfl
theorem f_nat_N_Text_run (k : Nat) (x : denL [.slice (.int .u32)]) : runFn E_nat_N_Text LL_nat_N_Text k 73 Tryz.f73 [.slice (.int .u32)] [.imm .str] x = f_nat_N_Text k x := by kernel_rfl
noncomputable def S_nat_N_Text : Vm.Spec := { ps := [.slice (.int .u32)], rs := [.imm .str], f := fun x => f_nat_N_Text fuel x }
theorem f_nat_N_Text_holds : Vm.Spec.holds Tryz.prog 73 S_nat_N_Text := by
 have hB : BodiesOk Tryz.prog E_nat_N_Text := bodies_none rfl
 have hBS : BodiesStepped E_nat_N_Text LL_nat_N_Text := bodies_stepped_none rfl
 have hS : SpecsOk Tryz.prog E_nat_N_Text := specs_ok (by exact ⟨⟨by kernel_rfl, f_strings_TrimLeft_holds⟩, trivial⟩)
 have hE : EOk Tryz.prog E_nat_N_Text := eok_te ok
 exact fn_sound (L := LL_nat_N_Text) hE hS hB (draws_ok hE hS (by kernel_rfl)) hBS (fn := Tryz.f73) (by kernel_rfl) (c := bodyOf Tryz.f73) (by kernel_rfl) (stepped_of (ls := [(5, l_nat_N_Text_5L), (10, l_nat_N_Text_10L)]) rfl rfl ⟨by kernel_rfl, fun _ => rfl, l_nat_N_Text_5_step, by kernel_rfl, fun _ => rfl, l_nat_N_Text_10_step, stepsI_end (by kernel_rfl)⟩) fun x r h => ⟨fuel, (f_nat_N_Text_run fuel x).trans h⟩
noncomputable def E_nat_N_Digits : Env := { te := te, spec := [(73, S_nat_N_Text)], body := [], flat := [106] }
def LL_nat_N_Digits : Loops := []
def f_nat_N_Digits (k : Nat) (a0 : List Int) : Option (Int) :=
 (f_nat_N_Text fuel a0).bind fun r1 =>
 some (r1.size : Int)
theorem f_nat_N_Digits_run (k : Nat) (x : denL [.slice (.int .u32)]) : runFn E_nat_N_Digits LL_nat_N_Digits k 65 Tryz.f65 [.slice (.int .u32)] [.imm (.int .i64)] x = f_nat_N_Digits k x := by kernel_rfl
noncomputable def S_nat_N_Digits : Vm.Spec := { ps := [.slice (.int .u32)], rs := [.imm (.int .i64)], f := fun x => f_nat_N_Digits fuel x }
theorem f_nat_N_Digits_holds : Vm.Spec.holds Tryz.prog 65 S_nat_N_Digits := by
 have hB : BodiesOk Tryz.prog E_nat_N_Digits := bodies_none rfl
 have hBS : BodiesStepped E_nat_N_Digits LL_nat_N_Digits := bodies_stepped_none rfl
 have hS : SpecsOk Tryz.prog E_nat_N_Digits := specs_ok (by exact ⟨⟨by kernel_rfl, f_nat_N_Text_holds⟩, trivial⟩)
 have hE : EOk Tryz.prog E_nat_N_Digits := eok_te ok
 exact fn_sound (L := LL_nat_N_Digits) hE hS hB (draws_ok hE hS (by kernel_rfl)) hBS (fn := Tryz.f65) (by kernel_rfl) (c := bodyOf Tryz.f65) (by kernel_rfl) (stepped_none rfl) fun x r h => ⟨fuel, (f_nat_N_Digits_run fuel x).trans h⟩
noncomputable def E_rat_Fits : Env := { te := te, spec := [(65, S_nat_N_Digits)], body := [], flat := [106] }
def LL_rat_Fits : Loops := []
def f_rat_Fits (k : Nat) (a0 : Bool × ((List Int) × (List Int))) : Option (Int) :=
 (f_nat_N_Digits fuel a0.2.1).bind fun r1 =>
 if decide (r1 > 2000) = false then
  (f_nat_N_Digits fuel a0.2.2).bind fun r2 =>
  if decide (r2 > 2000) = true then
   some 2
  else
   some 0
 else
  some 2
theorem f_rat_Fits_run (k : Nat) (x : denL [.pair .bool (.pair (.slice (.int .u32)) (.slice (.int .u32)))]) : runFn E_rat_Fits LL_rat_Fits k 35 Tryz.f35 [.pair .bool (.pair (.slice (.int .u32)) (.slice (.int .u32)))] [.imm (.int .i64)] x = f_rat_Fits k x := by kernel_rfl
noncomputable def S_rat_Fits : Vm.Spec := { ps := [.pair .bool (.pair (.slice (.int .u32)) (.slice (.int .u32)))], rs := [.imm (.int .i64)], f := fun x => f_rat_Fits fuel x }
theorem f_rat_Fits_holds : Vm.Spec.holds Tryz.prog 35 S_rat_Fits := by
 have hB : BodiesOk Tryz.prog E_rat_Fits := bodies_none rfl
 have hBS : BodiesStepped E_rat_Fits LL_rat_Fits := bodies_stepped_none rfl
 have hS : SpecsOk Tryz.prog E_rat_Fits := specs_ok (by exact ⟨⟨by kernel_rfl, f_nat_N_Digits_holds⟩, trivial⟩)
 have hE : EOk Tryz.prog E_rat_Fits := eok_te ok
 exact fn_sound (L := LL_rat_Fits) hE hS hB (draws_ok hE hS (by kernel_rfl)) hBS (fn := Tryz.f35) (by kernel_rfl) (c := bodyOf Tryz.f35) (by kernel_rfl) (stepped_none rfl) fun x r h => ⟨fuel, (f_rat_Fits_run fuel x).trans h⟩
noncomputable def E_nat_Of : Env := { te := te, spec := [], body := [], flat := [106] }
def l_nat_Of_2H : Ann := { slots := [(0, .one (.val (.int .i64))), (3, .one (.own 44 (.int .u32)))], objs := [(44, .buf (.int .u32))] }
def l_nat_Of_2X : Ann := { slots := [(3, .one (.own 44 (.int .u32)))], objs := [(44, .buf (.int .u32))] }
def l_nat_Of_2R : Ann := { slots := [], objs := [] }
def l_nat_Of_2 : Nat → Int → List Int → Option (LR l_nat_Of_2X l_nat_Of_2R)
 | 0, _, _ => none
 | m + 1, s0, b44 =>
  if decide (s0 > 0) = true then
   if (b44.length + 1) * 4 ≤ 140737488355328 then
    l_nat_Of_2 m (IntKind.i64.wrap (s0.tdiv 1000000000)) (b44 ++ [IntKind.u32.wrap (s0.tmod 1000000000)])
   else none
  else
   some (.exit (b44, ()))
def l_nat_Of_2L : LSpec := { h := l_nat_Of_2H, x := l_nat_Of_2X, r := l_nat_Of_2R, xid := 0, rt := false, pins := [], f := fun k d => l_nat_Of_2 k d.1 d.2.1 }
def LL_nat_Of : Loops := [([64], [(2, l_nat_Of_2L)])]
def f_nat_Of (k : Nat) (a0 : Int) : Option (List Int) :=
 match l_nat_Of_2 k a0 [] with
 | none => none
 | some (.exit d1) =>
  some d1.1
 | some (.ret d1) =>
  none
theorem l_nat_Of_2_step (m : Nat) (d : dens l_nat_Of_2H.tys) : l_nat_Of_2L.f (m + 1) d = round E_nat_Of LL_nat_Of m [64] 15 (loopN (bodyOf Tryz.f64) 0) l_nat_Of_2L (l_nat_Of_2L.f m) d := by kernel_rfl
theorem f_nat_Of_run (k : Nat) (x : denL [.int .i64]) : runFn E_nat_Of LL_nat_Of k 64 Tryz.f64 [.int .i64] [.fresh (.int .u32)] x = f_nat_Of k x := by kernel_rfl
noncomputable def S_nat_Of : Vm.Spec := { ps := [.int .i64], rs := [.fresh (.int .u32)], f := fun x => f_nat_Of fuel x }
theorem f_nat_Of_holds : Vm.Spec.holds Tryz.prog 64 S_nat_Of := by
 have hB : BodiesOk Tryz.prog E_nat_Of := bodies_none rfl
 have hBS : BodiesStepped E_nat_Of LL_nat_Of := bodies_stepped_none rfl
 have hS : SpecsOk Tryz.prog E_nat_Of := specs_ok (by exact trivial)
 have hE : EOk Tryz.prog E_nat_Of := eok_te ok
 exact fn_sound (L := LL_nat_Of) hE hS hB (draws_ok hE hS (by kernel_rfl)) hBS (fn := Tryz.f64) (by kernel_rfl) (c := bodyOf Tryz.f64) (by kernel_rfl) (stepped_of (ls := [(2, l_nat_Of_2L)]) rfl rfl ⟨by kernel_rfl, fun _ => rfl, l_nat_Of_2_step, stepsI_end (by kernel_rfl)⟩) fun x r h => ⟨fuel, (f_nat_Of_run fuel x).trans h⟩
noncomputable def E_rat_Q_whole : Env := { te := te, spec := [(64, S_nat_Of)], body := [], flat := [106] }
def LL_rat_Q_whole : Loops := []
def f_rat_Q_whole (k : Nat) (a0 : Bool × ((List Int) × (List Int))) : Option (List Int) :=
 if ((a0.2.2.length : Int) == 0) = true then
  (f_nat_Of fuel 1).bind fun r1 =>
  some r1
 else
  some a0.2.2
theorem f_rat_Q_whole_run (k : Nat) (x : denL [.pair .bool (.pair (.slice (.int .u32)) (.slice (.int .u32)))]) : runFn E_rat_Q_whole LL_rat_Q_whole k 56 Tryz.f56 [.pair .bool (.pair (.slice (.int .u32)) (.slice (.int .u32)))] [.imm (.slice (.int .u32))] x = f_rat_Q_whole k x := by kernel_rfl
noncomputable def S_rat_Q_whole : Vm.Spec := { ps := [.pair .bool (.pair (.slice (.int .u32)) (.slice (.int .u32)))], rs := [.imm (.slice (.int .u32))], f := fun x => f_rat_Q_whole fuel x }
theorem f_rat_Q_whole_holds : Vm.Spec.holds Tryz.prog 56 S_rat_Q_whole := by
 have hB : BodiesOk Tryz.prog E_rat_Q_whole := bodies_none rfl
 have hBS : BodiesStepped E_rat_Q_whole LL_rat_Q_whole := bodies_stepped_none rfl
 have hS : SpecsOk Tryz.prog E_rat_Q_whole := specs_ok (by exact ⟨⟨by kernel_rfl, f_nat_Of_holds⟩, trivial⟩)
 have hE : EOk Tryz.prog E_rat_Q_whole := eok_te ok
 exact fn_sound (L := LL_rat_Q_whole) hE hS hB (draws_ok hE hS (by kernel_rfl)) hBS (fn := Tryz.f56) (by kernel_rfl) (c := bodyOf Tryz.f56) (by kernel_rfl) (stepped_none rfl) fun x r h => ⟨fuel, (f_rat_Q_whole_run fuel x).trans h⟩
noncomputable def E_rat_Q_Out : Env := { te := te, spec := [(56, S_rat_Q_whole), (73, S_nat_N_Text)], body := [], flat := [106] }
def LL_rat_Q_Out : Loops := []
def f_rat_Q_Out (k : Nat) (a0 : Bool × ((List Int) × (List Int))) : Option (ByteArray) :=
 if ((a0.2.1.length : Int) == 0) = true then
  some (⟨#[48]⟩ : ByteArray)
 else
  (f_nat_N_Text fuel a0.2.1).bind fun r1 =>
  if a0.1 = true then
   if (⟨#[45]⟩ : ByteArray).size + r1.size ≤ 4611686018427387904 then
    (f_rat_Q_whole fuel a0).bind fun r2 =>
    (f_nat_N_Text fuel r2).bind fun r3 =>
    if (!(r3.toList == (⟨#[49]⟩ : ByteArray).toList)) = true then
     if (⟨#[47]⟩ : ByteArray).size + r3.size ≤ 4611686018427387904 then
      if ((⟨#[45]⟩ : ByteArray) ++ r1).size + ((⟨#[47]⟩ : ByteArray) ++ r3).size ≤ 4611686018427387904 then
       some (((⟨#[45]⟩ : ByteArray) ++ r1) ++ ((⟨#[47]⟩ : ByteArray) ++ r3))
      else none
     else none
    else
     some ((⟨#[45]⟩ : ByteArray) ++ r1)
   else none
  else
   (f_rat_Q_whole fuel a0).bind fun r4 =>
   (f_nat_N_Text fuel r4).bind fun r5 =>
   if (!(r5.toList == (⟨#[49]⟩ : ByteArray).toList)) = true then
    if (⟨#[47]⟩ : ByteArray).size + r5.size ≤ 4611686018427387904 then
     if r1.size + ((⟨#[47]⟩ : ByteArray) ++ r5).size ≤ 4611686018427387904 then
      some (r1 ++ ((⟨#[47]⟩ : ByteArray) ++ r5))
     else none
    else none
   else
    some r1
theorem f_rat_Q_Out_run (k : Nat) (x : denL [.pair .bool (.pair (.slice (.int .u32)) (.slice (.int .u32)))]) : runFn E_rat_Q_Out LL_rat_Q_Out k 44 Tryz.f44 [.pair .bool (.pair (.slice (.int .u32)) (.slice (.int .u32)))] [.imm .str] x = f_rat_Q_Out k x := by kernel_rfl
noncomputable def S_rat_Q_Out : Vm.Spec := { ps := [.pair .bool (.pair (.slice (.int .u32)) (.slice (.int .u32)))], rs := [.imm .str], f := fun x => f_rat_Q_Out fuel x }
theorem f_rat_Q_Out_holds : Vm.Spec.holds Tryz.prog 44 S_rat_Q_Out := by
 have hB : BodiesOk Tryz.prog E_rat_Q_Out := bodies_none rfl
 have hBS : BodiesStepped E_rat_Q_Out LL_rat_Q_Out := bodies_stepped_none rfl
 have hS : SpecsOk Tryz.prog E_rat_Q_Out := specs_ok (by exact ⟨⟨by kernel_rfl, f_rat_Q_whole_holds⟩, ⟨by kernel_rfl, f_nat_N_Text_holds⟩, trivial⟩)
 have hE : EOk Tryz.prog E_rat_Q_Out := eok_te ok
 exact fn_sound (L := LL_rat_Q_Out) hE hS hB (draws_ok hE hS (by kernel_rfl)) hBS (fn := Tryz.f44) (by kernel_rfl) (c := bodyOf Tryz.f44) (by kernel_rfl) (stepped_none rfl) fun x r h => ⟨fuel, (f_rat_Q_Out_run fuel x).trans h⟩
noncomputable def E_rat_Told : Env := { te := te, spec := [(35, S_rat_Fits), (44, S_rat_Q_Out)], body := [], flat := [106] }
def LL_rat_Told : Loops := []
def f_rat_Told (k : Nat) (a0 : Bool × ((List Int) × (List Int))) : Option (ByteArray × Int) :=
 (f_rat_Fits fuel a0).bind fun r1 =>
 if (r1 != 0) = true then
  some ((⟨#[]⟩ : ByteArray), r1)
 else
  (f_rat_Q_Out fuel a0).bind fun r2 =>
  some (r2, 0)
theorem f_rat_Told_run (k : Nat) (x : denL [.pair .bool (.pair (.slice (.int .u32)) (.slice (.int .u32)))]) : runFn E_rat_Told LL_rat_Told k 31 Tryz.f31 [.pair .bool (.pair (.slice (.int .u32)) (.slice (.int .u32)))] [.imm .str, .imm (.int .i64)] x = f_rat_Told k x := by kernel_rfl
noncomputable def S_rat_Told : Vm.Spec := { ps := [.pair .bool (.pair (.slice (.int .u32)) (.slice (.int .u32)))], rs := [.imm .str, .imm (.int .i64)], f := fun x => f_rat_Told fuel x }
theorem f_rat_Told_holds : Vm.Spec.holds Tryz.prog 31 S_rat_Told := by
 have hB : BodiesOk Tryz.prog E_rat_Told := bodies_none rfl
 have hBS : BodiesStepped E_rat_Told LL_rat_Told := bodies_stepped_none rfl
 have hS : SpecsOk Tryz.prog E_rat_Told := specs_ok (by exact ⟨⟨by kernel_rfl, f_rat_Fits_holds⟩, ⟨by kernel_rfl, f_rat_Q_Out_holds⟩, trivial⟩)
 have hE : EOk Tryz.prog E_rat_Told := eok_te ok
 exact fn_sound (L := LL_rat_Told) hE hS hB (draws_ok hE hS (by kernel_rfl)) hBS (fn := Tryz.f31) (by kernel_rfl) (c := bodyOf Tryz.f31) (by kernel_rfl) (stepped_none rfl) fun x r h => ⟨fuel, (f_rat_Told_run fuel x).trans h⟩
noncomputable def E_nat_N_Cmp : Env := { te := te, spec := [], body := [], flat := [106] }
def l_nat_N_Cmp_6H : Ann := { slots := [(0, .one (.val (.slice (.int .u32)))), (1, .one (.val (.slice (.int .u32)))), (5, .one (.val (.int .i64)))], objs := [] }
def l_nat_N_Cmp_6X : Ann := { slots := [], objs := [] }
def l_nat_N_Cmp_6R : Ann := { slots := [(4, .one (.val (.int .i64)))], objs := [] }
def l_nat_N_Cmp_6 : Nat → List Int → List Int → Int → Option (LR l_nat_N_Cmp_6X l_nat_N_Cmp_6R)
 | 0, _, _, _ => none
 | m + 1, s0, s1, s5 =>
  if decide (s5 ≥ 0) = true then
   if (0 : Int) ≤ s5 then
    if s5 < s0.length then
     if (0 : Int) ≤ s5 then
      if s5 < s1.length then
       if decide (s0.getD s5.toNat 0 < s1.getD s5.toNat 0) = true then
        some (.ret ((-1), ()))
       else
        if (0 : Int) ≤ s5 then
         if s5 < s0.length then
          if (0 : Int) ≤ s5 then
           if s5 < s1.length then
            if decide (s0.getD s5.toNat 0 > s1.getD s5.toNat 0) = true then
             some (.ret (1, ()))
            else
             l_nat_N_Cmp_6 m s0 s1 (IntKind.i64.wrap (s5 - 1))
           else none
          else none
         else none
        else none
      else none
     else none
    else none
   else none
  else
   some (.exit ())
def l_nat_N_Cmp_6L : LSpec := { h := l_nat_N_Cmp_6H, x := l_nat_N_Cmp_6X, r := l_nat_N_Cmp_6R, xid := 0, rt := true, pins := [], f := fun k d => l_nat_N_Cmp_6 k d.1 d.2.1 d.2.2.1 }
def LL_nat_N_Cmp : Loops := [([59], [(6, l_nat_N_Cmp_6L)])]
def f_nat_N_Cmp (k : Nat) (a0 : List Int) (a1 : List Int) : Option (Int) :=
 if ((a0.length : Int) != (a1.length : Int)) = true then
  if decide ((a0.length : Int) < (a1.length : Int)) = true then
   some (-1)
  else
   some 1
 else
  match l_nat_N_Cmp_6 k a0 a1 (IntKind.i64.wrap ((a0.length : Int) - 1)) with
  | none => none
  | some (.exit d1) =>
   some 0
  | some (.ret d1) =>
   some d1.1
theorem l_nat_N_Cmp_6_step (m : Nat) (d : dens l_nat_N_Cmp_6H.tys) : l_nat_N_Cmp_6L.f (m + 1) d = round E_nat_N_Cmp LL_nat_N_Cmp m [59] 43 (loopN (bodyOf Tryz.f59) 0) l_nat_N_Cmp_6L (l_nat_N_Cmp_6L.f m) d := by kernel_rfl
theorem f_nat_N_Cmp_run (k : Nat) (x : denL [.slice (.int .u32), .slice (.int .u32)]) : runFn E_nat_N_Cmp LL_nat_N_Cmp k 59 Tryz.f59 [.slice (.int .u32), .slice (.int .u32)] [.imm (.int .i64)] x = f_nat_N_Cmp k x.1 x.2 := by kernel_rfl
noncomputable def S_nat_N_Cmp : Vm.Spec := { ps := [.slice (.int .u32), .slice (.int .u32)], rs := [.imm (.int .i64)], f := fun x => f_nat_N_Cmp fuel x.1 x.2 }
theorem f_nat_N_Cmp_holds : Vm.Spec.holds Tryz.prog 59 S_nat_N_Cmp := by
 have hB : BodiesOk Tryz.prog E_nat_N_Cmp := bodies_none rfl
 have hBS : BodiesStepped E_nat_N_Cmp LL_nat_N_Cmp := bodies_stepped_none rfl
 have hS : SpecsOk Tryz.prog E_nat_N_Cmp := specs_ok (by exact trivial)
 have hE : EOk Tryz.prog E_nat_N_Cmp := eok_te ok
 exact fn_sound (L := LL_nat_N_Cmp) hE hS hB (draws_ok hE hS (by kernel_rfl)) hBS (fn := Tryz.f59) (by kernel_rfl) (c := bodyOf Tryz.f59) (by kernel_rfl) (stepped_of (ls := [(6, l_nat_N_Cmp_6L)]) rfl rfl ⟨by kernel_rfl, fun _ => rfl, l_nat_N_Cmp_6_step, stepsI_end (by kernel_rfl)⟩) fun x r h => ⟨fuel, (f_nat_N_Cmp_run fuel x).trans h⟩
noncomputable def E_stringslite_HasPrefix : Env := { te := te, spec := [], body := [], flat := [106] }
def LL_stringslite_HasPrefix : Loops := []
def f_stringslite_HasPrefix (k : Nat) (a0 : ByteArray) (a1 : ByteArray) : Option (Bool) :=
 if decide ((a0.size : Int) ≥ (a1.size : Int)) = true then
  if (0 : Int) ≤ (a1.size : Int) then
   if (a1.size : Int) ≤ a0.size then
    some (((a0.extract 0 (a1.size : Int).toNat).toList == a1.toList))
   else none
  else none
 else
  some false
theorem f_stringslite_HasPrefix_run (k : Nat) (x : denL [.str, .str]) : runFn E_stringslite_HasPrefix LL_stringslite_HasPrefix k 91 Tryz.f91 [.str, .str] [.imm .bool] x = f_stringslite_HasPrefix k x.1 x.2 := by kernel_rfl
noncomputable def S_stringslite_HasPrefix : Vm.Spec := { ps := [.str, .str], rs := [.imm .bool], f := fun x => f_stringslite_HasPrefix fuel x.1 x.2 }
theorem f_stringslite_HasPrefix_holds : Vm.Spec.holds Tryz.prog 91 S_stringslite_HasPrefix := by
 have hB : BodiesOk Tryz.prog E_stringslite_HasPrefix := bodies_none rfl
 have hBS : BodiesStepped E_stringslite_HasPrefix LL_stringslite_HasPrefix := bodies_stepped_none rfl
 have hS : SpecsOk Tryz.prog E_stringslite_HasPrefix := specs_ok (by exact trivial)
 have hE : EOk Tryz.prog E_stringslite_HasPrefix := eok_te ok
 exact fn_sound (L := LL_stringslite_HasPrefix) hE hS hB (draws_ok hE hS (by kernel_rfl)) hBS (fn := Tryz.f91) (by kernel_rfl) (c := bodyOf Tryz.f91) (by kernel_rfl) (stepped_none rfl) fun x r h => ⟨fuel, (f_stringslite_HasPrefix_run fuel x).trans h⟩
noncomputable def E_stringslite_CutPrefix : Env := { te := te, spec := [(91, S_stringslite_HasPrefix)], body := [], flat := [106] }
def LL_stringslite_CutPrefix : Loops := []
def f_stringslite_CutPrefix (k : Nat) (a0 : ByteArray) (a1 : ByteArray) : Option (ByteArray × Bool) :=
 (f_stringslite_HasPrefix fuel a0 a1).bind fun r1 =>
 if (!r1) = true then
  some (a0, false)
 else
  if (0 : Int) ≤ (a1.size : Int) then
   if (a1.size : Int) ≤ a0.size then
    some (a0.extract (a1.size : Int).toNat a0.size, true)
   else none
  else none
theorem f_stringslite_CutPrefix_run (k : Nat) (x : denL [.str, .str]) : runFn E_stringslite_CutPrefix LL_stringslite_CutPrefix k 80 Tryz.f80 [.str, .str] [.imm .str, .imm .bool] x = f_stringslite_CutPrefix k x.1 x.2 := by kernel_rfl
noncomputable def S_stringslite_CutPrefix : Vm.Spec := { ps := [.str, .str], rs := [.imm .str, .imm .bool], f := fun x => f_stringslite_CutPrefix fuel x.1 x.2 }
theorem f_stringslite_CutPrefix_holds : Vm.Spec.holds Tryz.prog 80 S_stringslite_CutPrefix := by
 have hB : BodiesOk Tryz.prog E_stringslite_CutPrefix := bodies_none rfl
 have hBS : BodiesStepped E_stringslite_CutPrefix LL_stringslite_CutPrefix := bodies_stepped_none rfl
 have hS : SpecsOk Tryz.prog E_stringslite_CutPrefix := specs_ok (by exact ⟨⟨by kernel_rfl, f_stringslite_HasPrefix_holds⟩, trivial⟩)
 have hE : EOk Tryz.prog E_stringslite_CutPrefix := eok_te ok
 exact fn_sound (L := LL_stringslite_CutPrefix) hE hS hB (draws_ok hE hS (by kernel_rfl)) hBS (fn := Tryz.f80) (by kernel_rfl) (c := bodyOf Tryz.f80) (by kernel_rfl) (stepped_none rfl) fun x r h => ⟨fuel, (f_stringslite_CutPrefix_run fuel x).trans h⟩
noncomputable def E_strings_CutPrefix : Env := { te := te, spec := [(80, S_stringslite_CutPrefix)], body := [], flat := [106] }
def LL_strings_CutPrefix : Loops := []
def f_strings_CutPrefix (k : Nat) (a0 : ByteArray) (a1 : ByteArray) : Option (ByteArray × Bool) :=
 (f_stringslite_CutPrefix fuel a0 a1).bind fun r1 =>
 some (r1.1, r1.2)
theorem f_strings_CutPrefix_run (k : Nat) (x : denL [.str, .str]) : runFn E_strings_CutPrefix LL_strings_CutPrefix k 61 Tryz.f61 [.str, .str] [.imm .str, .imm .bool] x = f_strings_CutPrefix k x.1 x.2 := by kernel_rfl
noncomputable def S_strings_CutPrefix : Vm.Spec := { ps := [.str, .str], rs := [.imm .str, .imm .bool], f := fun x => f_strings_CutPrefix fuel x.1 x.2 }
theorem f_strings_CutPrefix_holds : Vm.Spec.holds Tryz.prog 61 S_strings_CutPrefix := by
 have hB : BodiesOk Tryz.prog E_strings_CutPrefix := bodies_none rfl
 have hBS : BodiesStepped E_strings_CutPrefix LL_strings_CutPrefix := bodies_stepped_none rfl
 have hS : SpecsOk Tryz.prog E_strings_CutPrefix := specs_ok (by exact ⟨⟨by kernel_rfl, f_stringslite_CutPrefix_holds⟩, trivial⟩)
 have hE : EOk Tryz.prog E_strings_CutPrefix := eok_te ok
 exact fn_sound (L := LL_strings_CutPrefix) hE hS hB (draws_ok hE hS (by kernel_rfl)) hBS (fn := Tryz.f61) (by kernel_rfl) (c := bodyOf Tryz.f61) (by kernel_rfl) (stepped_none rfl) fun x r h => ⟨fuel, (f_strings_CutPrefix_run fuel x).trans h⟩
noncomputable def E_stringslite_Cut : Env := { te := te, spec := [(92, Vm.sIndex)], body := [], flat := [106] }
def LL_stringslite_Cut : Loops := []
def f_stringslite_Cut (k : Nat) (a0 : ByteArray) (a1 : ByteArray) : Option (ByteArray × ByteArray × Bool) :=
 (Vm.stdIndex a0 a1).bind fun r1 =>
 if decide (r1 ≥ 0) = true then
  if (0 : Int) ≤ r1 then
   if r1 ≤ a0.size then
    if (0 : Int) ≤ IntKind.i64.wrap (r1 + (a1.size : Int)) then
     if IntKind.i64.wrap (r1 + (a1.size : Int)) ≤ a0.size then
      some (a0.extract 0 r1.toNat, a0.extract (IntKind.i64.wrap (r1 + (a1.size : Int))).toNat a0.size, true)
     else none
    else none
   else none
  else none
 else
  some (a0, (⟨#[]⟩ : ByteArray), false)
theorem f_stringslite_Cut_run (k : Nat) (x : denL [.str, .str]) : runFn E_stringslite_Cut LL_stringslite_Cut k 81 Tryz.f81 [.str, .str] [.imm .str, .imm .str, .imm .bool] x = f_stringslite_Cut k x.1 x.2 := by kernel_rfl
noncomputable def S_stringslite_Cut : Vm.Spec := { ps := [.str, .str], rs := [.imm .str, .imm .str, .imm .bool], f := fun x => f_stringslite_Cut fuel x.1 x.2 }
theorem f_stringslite_Cut_holds : Vm.Spec.holds Tryz.prog 81 S_stringslite_Cut := by
 have hB : BodiesOk Tryz.prog E_stringslite_Cut := bodies_none rfl
 have hBS : BodiesStepped E_stringslite_Cut LL_stringslite_Cut := bodies_stepped_none rfl
 have hS : SpecsOk Tryz.prog E_stringslite_Cut := specs_ok (by exact ⟨⟨by kernel_rfl, g92_holds⟩, trivial⟩)
 have hE : EOk Tryz.prog E_stringslite_Cut := eok_te ok
 exact fn_sound (L := LL_stringslite_Cut) hE hS hB (draws_ok hE hS (by kernel_rfl)) hBS (fn := Tryz.f81) (by kernel_rfl) (c := bodyOf Tryz.f81) (by kernel_rfl) (stepped_none rfl) fun x r h => ⟨fuel, (f_stringslite_Cut_run fuel x).trans h⟩
noncomputable def E_strings_Cut : Env := { te := te, spec := [(81, S_stringslite_Cut)], body := [], flat := [106] }
def LL_strings_Cut : Loops := []
def f_strings_Cut (k : Nat) (a0 : ByteArray) (a1 : ByteArray) : Option (ByteArray × ByteArray × Bool) :=
 (f_stringslite_Cut fuel a0 a1).bind fun r1 =>
 some (r1.1, r1.2.1, r1.2.2)
theorem f_strings_Cut_run (k : Nat) (x : denL [.str, .str]) : runFn E_strings_Cut LL_strings_Cut k 62 Tryz.f62 [.str, .str] [.imm .str, .imm .str, .imm .bool] x = f_strings_Cut k x.1 x.2 := by kernel_rfl
noncomputable def S_strings_Cut : Vm.Spec := { ps := [.str, .str], rs := [.imm .str, .imm .str, .imm .bool], f := fun x => f_strings_Cut fuel x.1 x.2 }
theorem f_strings_Cut_holds : Vm.Spec.holds Tryz.prog 62 S_strings_Cut := by
 have hB : BodiesOk Tryz.prog E_strings_Cut := bodies_none rfl
 have hBS : BodiesStepped E_strings_Cut LL_strings_Cut := bodies_stepped_none rfl
 have hS : SpecsOk Tryz.prog E_strings_Cut := specs_ok (by exact ⟨⟨by kernel_rfl, f_stringslite_Cut_holds⟩, trivial⟩)
 have hE : EOk Tryz.prog E_strings_Cut := eok_te ok
 exact fn_sound (L := LL_strings_Cut) hE hS hB (draws_ok hE hS (by kernel_rfl)) hBS (fn := Tryz.f62) (by kernel_rfl) (c := bodyOf Tryz.f62) (by kernel_rfl) (stepped_none rfl) fun x r h => ⟨fuel, (f_strings_Cut_run fuel x).trans h⟩
noncomputable def E_nat_Read : Env := { te := te, spec := [], body := [(78, Tryz.f78)], flat := [106] }
def l_nat_Read_7H : Ann := { slots := [(5, .one (.val (.int .u32))), (20, .one (.val (.slice (.int .u8)))), (21, .one (.val (.int .i64))), (22, .one (.val (.int .i64)))], objs := [] }
def l_nat_Read_7X : Ann := { slots := [(5, .one (.val (.int .u32)))], objs := [] }
def l_nat_Read_7R : Ann := { slots := [], objs := [] }
def l_nat_Read_3H : Ann := { slots := [(0, .one (.val .str)), (3, .one (.own 144 (.int .u32))), (4, .one (.val (.int .i64)))], objs := [(144, .buf (.int .u32))] }
def l_nat_Read_3X : Ann := { slots := [(3, .one (.own 144 (.int .u32)))], objs := [(144, .buf (.int .u32))] }
def l_nat_Read_3R : Ann := { slots := [], objs := [] }
def l_nat_N_trim__nat_Read_1H : Ann := { slots := [(0, .one (.pre 148 (.int .u32)))], objs := [(148, .buf (.int .u32))] }
def l_nat_N_trim__nat_Read_1X : Ann := { slots := [(0, .one (.pre 148 (.int .u32)))], objs := [(148, .buf (.int .u32))] }
def l_nat_N_trim__nat_Read_1R : Ann := { slots := [], objs := [] }
def l_nat_Read_7 : Nat → Int → List Int → Int → Int → Option (LR l_nat_Read_7X l_nat_Read_7R)
 | 0, _, _, _, _ => none
 | m + 1, s5, s20, s21, s22 =>
  if decide (s22 < s21) = true then
   if (0 : Int) ≤ s22 then
    if s22 < s20.length then
     l_nat_Read_7 m (IntKind.u32.wrap ((IntKind.u32.wrap (s5 * 10)) + (IntKind.u32.wrap (IntKind.u8.wrap ((s20.getD s22.toNat 0) - 48))))) s20 s21 (IntKind.i64.wrap (s22 + 1))
    else none
   else none
  else
   some (.exit (s5, ()))
def l_nat_Read_7L : LSpec := { h := l_nat_Read_7H, x := l_nat_Read_7X, r := l_nat_Read_7R, xid := 2, rt := false, pins := [], f := fun k d => l_nat_Read_7 k d.1 d.2.1 d.2.2.1 d.2.2.2.1 }
def l_nat_Read_3 : Nat → ByteArray → Int → List Int → Option (LR l_nat_Read_3X l_nat_Read_3R)
 | 0, _, _, _ => none
 | m + 1, s0, s4, b144 =>
  if decide (s4 > 0) = true then
   if (0 : Int) ≤ s4 then
    if s4 ≤ s0.size then
     if (0 : Int) ≤ (if IntKind.i64.wrap (s4 - 9) > 0 then IntKind.i64.wrap (s4 - 9) else 0) then
      if (if IntKind.i64.wrap (s4 - 9) > 0 then IntKind.i64.wrap (s4 - 9) else 0) ≤ s4 then
       match l_nat_Read_7 m 0 ((s0.extract (if IntKind.i64.wrap (s4 - 9) > 0 then IntKind.i64.wrap (s4 - 9) else 0).toNat s4.toNat).data.toList.map fun c => (c.toNat : Int)) (((s0.extract (if IntKind.i64.wrap (s4 - 9) > 0 then IntKind.i64.wrap (s4 - 9) else 0).toNat s4.toNat).data.toList.map fun c => (c.toNat : Int)).length : Int) 0 with
       | none => none
       | some (.exit d1) =>
        if (b144.length + 1) * 4 ≤ 140737488355328 then
         l_nat_Read_3 m s0 (IntKind.i64.wrap (s4 - 9)) (b144 ++ [d1.1])
        else none
       | some (.ret d1) =>
        none
      else none
     else none
    else none
   else none
  else
   some (.exit (b144, ()))
def l_nat_Read_3L : LSpec := { h := l_nat_Read_3H, x := l_nat_Read_3X, r := l_nat_Read_3R, xid := 0, rt := false, pins := [], f := fun k d => l_nat_Read_3 k d.1 d.2.1 d.2.2.1 }
def l_nat_N_trim__nat_Read_1 : Nat → Nat → List Int → Option (LR l_nat_N_trim__nat_Read_1X l_nat_N_trim__nat_Read_1R)
 | 0, _, _ => none
 | m + 1, s0, b148 =>
  if decide ((s0 : Int) > 0) = true then
   if (0 : Int) ≤ IntKind.i64.wrap ((s0 : Int) - 1) then
    if IntKind.i64.wrap ((s0 : Int) - 1) < s0 then
     if (b148.getD ((IntKind.i64.wrap ((s0 : Int) - 1)).toNat) 0 == 0) = true then
      if (0 : Int) ≤ IntKind.i64.wrap ((s0 : Int) - 1) then
       if IntKind.i64.wrap ((s0 : Int) - 1) ≤ s0 then
        l_nat_N_trim__nat_Read_1 m ((IntKind.i64.wrap ((s0 : Int) - 1)).toNat) b148
       else none
      else none
     else
      some (.exit (s0, b148, ()))
    else none
   else none
  else
   some (.exit (s0, b148, ()))
def l_nat_N_trim__nat_Read_1L : LSpec := { h := l_nat_N_trim__nat_Read_1H, x := l_nat_N_trim__nat_Read_1X, r := l_nat_N_trim__nat_Read_1R, xid := 0, rt := false, pins := [148], f := fun k d => l_nat_N_trim__nat_Read_1 k d.1 d.2.1 }
def LL_nat_Read : Loops := [([63], [(3, l_nat_Read_3L), (7, l_nat_Read_7L)]), ([78, 63], [(1, l_nat_N_trim__nat_Read_1L)])]
def f_nat_Read (k : Nat) (a0 : ByteArray) : Option (List Int) :=
 match l_nat_Read_3 k a0 (a0.size : Int) [] with
 | none => none
 | some (.exit d1) =>
  match l_nat_N_trim__nat_Read_1 k d1.1.length d1.1 with
  | none => none
  | some (.exit d2) =>
   some (d2.2.1.take d2.1)
  | some (.ret d2) =>
   none
 | some (.ret d1) =>
  none
theorem l_nat_Read_7_step (m : Nat) (d : dens l_nat_Read_7H.tys) : l_nat_Read_7L.f (m + 1) d = round E_nat_Read LL_nat_Read m [63] 39 (loopN (bodyOf Tryz.f63) 1) l_nat_Read_7L (l_nat_Read_7L.f m) d := by kernel_rfl
theorem l_nat_Read_3_step (m : Nat) (d : dens l_nat_Read_3H.tys) : l_nat_Read_3L.f (m + 1) d = round E_nat_Read LL_nat_Read m [63] 39 (loopN (bodyOf Tryz.f63) 0) l_nat_Read_3L (l_nat_Read_3L.f m) d := by kernel_rfl
theorem l_nat_N_trim__nat_Read_1_step (m : Nat) (d : dens l_nat_N_trim__nat_Read_1H.tys) : l_nat_N_trim__nat_Read_1L.f (m + 1) d = round E_nat_Read LL_nat_Read m [78, 63] 21 (loopN (bodyOf Tryz.f78) 0) l_nat_N_trim__nat_Read_1L (l_nat_N_trim__nat_Read_1L.f m) d := by kernel_rfl
theorem f_nat_Read_run (k : Nat) (x : denL [.str]) : runFn E_nat_Read LL_nat_Read k 63 Tryz.f63 [.str] [.fresh (.int .u32)] x = f_nat_Read k x := by kernel_rfl
noncomputable def S_nat_Read : Vm.Spec := { ps := [.str], rs := [.fresh (.int .u32)], f := fun x => f_nat_Read fuel x }
theorem f_nat_Read_holds : Vm.Spec.holds Tryz.prog 63 S_nat_Read := by
 have hB : BodiesOk Tryz.prog E_nat_Read := bodies_ok (by exact ⟨by kernel_rfl, by kernel_rfl, trivial⟩)
 have hBS : BodiesStepped E_nat_Read LL_nat_Read := by
  refine bodies_stepped ?_
  exact ⟨(stepped_paths [[63]] (by exact ⟨stepped_of (ls := [(1, l_nat_N_trim__nat_Read_1L)]) rfl rfl ⟨by kernel_rfl, fun _ => rfl, l_nat_N_trim__nat_Read_1_step, stepsI_end (by kernel_rfl)⟩,  trivial⟩) rfl),  trivial⟩
 have hS : SpecsOk Tryz.prog E_nat_Read := specs_ok (by exact trivial)
 have hE : EOk Tryz.prog E_nat_Read := eok_te ok
 exact fn_sound (L := LL_nat_Read) hE hS hB (draws_ok hE hS (by kernel_rfl)) hBS (fn := Tryz.f63) (by kernel_rfl) (c := bodyOf Tryz.f63) (by kernel_rfl) (stepped_of (ls := [(3, l_nat_Read_3L), (7, l_nat_Read_7L)]) rfl rfl ⟨by kernel_rfl, fun _ => rfl, l_nat_Read_3_step, by kernel_rfl, fun _ => rfl, l_nat_Read_7_step, stepsI_end (by kernel_rfl)⟩) fun x r h => ⟨fuel, (f_nat_Read_run fuel x).trans h⟩
noncomputable def E_nat_Check : Env := { te := te, spec := [], body := [], flat := [106] }
def l_nat_Check_4H : Ann := { slots := [(18, .one (.val (.slice (.int .u8)))), (19, .one (.val (.int .i64))), (20, .one (.val (.int .i64)))], objs := [] }
def l_nat_Check_4X : Ann := { slots := [], objs := [] }
def l_nat_Check_4R : Ann := { slots := [(2, .one (.val (.int .i64)))], objs := [] }
def l_nat_Check_4 : Nat → List Int → Int → Int → Option (LR l_nat_Check_4X l_nat_Check_4R)
 | 0, _, _, _ => none
 | m + 1, s18, s19, s20 =>
  if decide (s20 < s19) = true then
   if (0 : Int) ≤ s20 then
    if s20 < s18.length then
     if decide (s18.getD s20.toNat 0 < 48) = false then
      if decide (s18.getD s20.toNat 0 > 57) = true then
       some (.ret (5, ()))
      else
       l_nat_Check_4 m s18 s19 (IntKind.i64.wrap (s20 + 1))
     else
      some (.ret (5, ()))
    else none
   else none
  else
   some (.exit ())
def l_nat_Check_4L : LSpec := { h := l_nat_Check_4H, x := l_nat_Check_4X, r := l_nat_Check_4R, xid := 0, rt := true, pins := [], f := fun k d => l_nat_Check_4 k d.1 d.2.1 d.2.2.1 }
def LL_nat_Check : Loops := [([71], [(4, l_nat_Check_4L)])]
def f_nat_Check (k : Nat) (a0 : ByteArray) : Option (Int) :=
 if ((a0.toList == (⟨#[]⟩ : ByteArray).toList)) = false then
  if (0 : Int) < (a0.size : Int) then
   if (((a0.data.getD 0 0).toNat : Int) == 48) = true then
    if decide ((a0.size : Int) > 1) = true then
     some 5
    else
     match l_nat_Check_4 k (a0.data.toList.map fun c => (c.toNat : Int)) ((a0.data.toList.map fun c => (c.toNat : Int)).length : Int) 0 with
     | none => none
     | some (.exit d1) =>
      if decide ((a0.size : Int) > 2000) = true then
       some 2
      else
       some 0
     | some (.ret d1) =>
      some d1.1
   else
    match l_nat_Check_4 k (a0.data.toList.map fun c => (c.toNat : Int)) ((a0.data.toList.map fun c => (c.toNat : Int)).length : Int) 0 with
    | none => none
    | some (.exit d2) =>
     if decide ((a0.size : Int) > 2000) = true then
      some 2
     else
      some 0
    | some (.ret d2) =>
     some d2.1
  else none
 else
  some 5
theorem l_nat_Check_4_step (m : Nat) (d : dens l_nat_Check_4H.tys) : l_nat_Check_4L.f (m + 1) d = round E_nat_Check LL_nat_Check m [71] 34 (loopN (bodyOf Tryz.f71) 0) l_nat_Check_4L (l_nat_Check_4L.f m) d := by kernel_rfl
theorem f_nat_Check_run (k : Nat) (x : denL [.str]) : runFn E_nat_Check LL_nat_Check k 71 Tryz.f71 [.str] [.imm (.int .i64)] x = f_nat_Check k x := by kernel_rfl
noncomputable def S_nat_Check : Vm.Spec := { ps := [.str], rs := [.imm (.int .i64)], f := fun x => f_nat_Check fuel x }
theorem f_nat_Check_holds : Vm.Spec.holds Tryz.prog 71 S_nat_Check := by
 have hB : BodiesOk Tryz.prog E_nat_Check := bodies_none rfl
 have hBS : BodiesStepped E_nat_Check LL_nat_Check := bodies_stepped_none rfl
 have hS : SpecsOk Tryz.prog E_nat_Check := specs_ok (by exact trivial)
 have hE : EOk Tryz.prog E_nat_Check := eok_te ok
 exact fn_sound (L := LL_nat_Check) hE hS hB (draws_ok hE hS (by kernel_rfl)) hBS (fn := Tryz.f71) (by kernel_rfl) (c := bodyOf Tryz.f71) (by kernel_rfl) (stepped_of (ls := [(4, l_nat_Check_4L)]) rfl rfl ⟨by kernel_rfl, fun _ => rfl, l_nat_Check_4_step, stepsI_end (by kernel_rfl)⟩) fun x r h => ⟨fuel, (f_nat_Check_run fuel x).trans h⟩
noncomputable def E_nat_N_Mul : Env := { te := te, spec := [], body := [(78, Tryz.f78)], flat := [106] }
def l_nat_N_Mul_7H : Ann := { slots := [(5, .one (.own 68 (.int .u32))), (6, .one (.val (.int .i64))), (7, .one (.val (.int .u32))), (8, .one (.val (.int .u64))), (25, .one (.val (.slice (.int .u32)))), (26, .one (.val (.int .i64))), (27, .one (.val (.int .i64)))], objs := [(68, .buf (.int .u32))] }
def l_nat_N_Mul_7X : Ann := { slots := [(5, .one (.own 68 (.int .u32))), (8, .one (.val (.int .u64)))], objs := [(68, .buf (.int .u32))] }
def l_nat_N_Mul_7R : Ann := { slots := [], objs := [] }
def l_nat_N_Mul_3H : Ann := { slots := [(1, .one (.val (.slice (.int .u32)))), (5, .one (.own 68 (.int .u32))), (18, .one (.val (.slice (.int .u32)))), (19, .one (.val (.int .i64))), (20, .one (.val (.int .i64)))], objs := [(68, .buf (.int .u32))] }
def l_nat_N_Mul_3X : Ann := { slots := [(5, .one (.own 68 (.int .u32)))], objs := [(68, .buf (.int .u32))] }
def l_nat_N_Mul_3R : Ann := { slots := [], objs := [] }
def l_nat_N_trim__nat_N_Mul_1H : Ann := { slots := [(0, .one (.pre 68 (.int .u32)))], objs := [(68, .buf (.int .u32))] }
def l_nat_N_trim__nat_N_Mul_1X : Ann := { slots := [(0, .one (.pre 68 (.int .u32)))], objs := [(68, .buf (.int .u32))] }
def l_nat_N_trim__nat_N_Mul_1R : Ann := { slots := [], objs := [] }
def l_nat_N_Mul_7 : Nat → Int → Int → Int → List Int → Int → Int → List Int → Option (LR l_nat_N_Mul_7X l_nat_N_Mul_7R)
 | 0, _, _, _, _, _, _, _ => none
 | m + 1, s6, s7, s8, s25, s26, s27, b68 =>
  if decide (s27 < s26) = true then
   if (0 : Int) ≤ s27 then
    if s27 < s25.length then
     if (0 : Int) ≤ IntKind.i64.wrap (s6 + s27) then
      if IntKind.i64.wrap (s6 + s27) < b68.length then
       if (0 : Int) ≤ IntKind.i64.wrap (s6 + s27) then
        if IntKind.i64.wrap (s6 + s27) < b68.length then
         l_nat_N_Mul_7 m s6 s7 (IntKind.u64.wrap ((IntKind.u64.wrap ((IntKind.u64.wrap ((IntKind.u64.wrap ((IntKind.u64.wrap (s7)) * (IntKind.u64.wrap (s25.getD s27.toNat 0)))) + (IntKind.u64.wrap (b68.getD ((IntKind.i64.wrap (s6 + s27)).toNat) 0)))) + s8)).tdiv 1000000000)) s25 s26 (IntKind.i64.wrap (s27 + 1)) (b68.set ((IntKind.i64.wrap (s6 + s27)).toNat) (IntKind.u32.wrap ((IntKind.u64.wrap ((IntKind.u64.wrap ((IntKind.u64.wrap ((IntKind.u64.wrap (s7)) * (IntKind.u64.wrap (s25.getD s27.toNat 0)))) + (IntKind.u64.wrap (b68.getD ((IntKind.i64.wrap (s6 + s27)).toNat) 0)))) + s8)).tmod 1000000000)))
        else none
       else none
      else none
     else none
    else none
   else none
  else
   some (.exit (s8, b68, ()))
def l_nat_N_Mul_7L : LSpec := { h := l_nat_N_Mul_7H, x := l_nat_N_Mul_7X, r := l_nat_N_Mul_7R, xid := 2, rt := false, pins := [68], f := fun k d => l_nat_N_Mul_7 k d.1 d.2.1 d.2.2.1 d.2.2.2.1 d.2.2.2.2.1 d.2.2.2.2.2.1 d.2.2.2.2.2.2.1 }
def l_nat_N_Mul_3 : Nat → List Int → List Int → Int → Int → List Int → Option (LR l_nat_N_Mul_3X l_nat_N_Mul_3R)
 | 0, _, _, _, _, _ => none
 | m + 1, s1, s18, s19, s20, b68 =>
  if decide (s20 < s19) = true then
   if (0 : Int) ≤ s20 then
    if s20 < s18.length then
     match l_nat_N_Mul_7 m s20 (s18.getD s20.toNat 0) 0 s1 (s1.length : Int) 0 b68 with
     | none => none
     | some (.exit d1) =>
      if (0 : Int) ≤ IntKind.i64.wrap (s20 + (s1.length : Int)) then
       if IntKind.i64.wrap (s20 + (s1.length : Int)) < d1.2.1.length then
        l_nat_N_Mul_3 m s1 s18 s19 (IntKind.i64.wrap (s20 + 1)) (d1.2.1.set ((IntKind.i64.wrap (s20 + (s1.length : Int))).toNat) (IntKind.u32.wrap (d1.1)))
       else none
      else none
     | some (.ret d1) =>
      none
    else none
   else none
  else
   some (.exit (b68, ()))
def l_nat_N_Mul_3L : LSpec := { h := l_nat_N_Mul_3H, x := l_nat_N_Mul_3X, r := l_nat_N_Mul_3R, xid := 0, rt := false, pins := [68], f := fun k d => l_nat_N_Mul_3 k d.1 d.2.1 d.2.2.1 d.2.2.2.1 d.2.2.2.2.1 }
def l_nat_N_trim__nat_N_Mul_1 : Nat → Nat → List Int → Option (LR l_nat_N_trim__nat_N_Mul_1X l_nat_N_trim__nat_N_Mul_1R)
 | 0, _, _ => none
 | m + 1, s0, b68 =>
  if decide ((s0 : Int) > 0) = true then
   if (0 : Int) ≤ IntKind.i64.wrap ((s0 : Int) - 1) then
    if IntKind.i64.wrap ((s0 : Int) - 1) < s0 then
     if (b68.getD ((IntKind.i64.wrap ((s0 : Int) - 1)).toNat) 0 == 0) = true then
      if (0 : Int) ≤ IntKind.i64.wrap ((s0 : Int) - 1) then
       if IntKind.i64.wrap ((s0 : Int) - 1) ≤ s0 then
        l_nat_N_trim__nat_N_Mul_1 m ((IntKind.i64.wrap ((s0 : Int) - 1)).toNat) b68
       else none
      else none
     else
      some (.exit (s0, b68, ()))
    else none
   else none
  else
   some (.exit (s0, b68, ()))
def l_nat_N_trim__nat_N_Mul_1L : LSpec := { h := l_nat_N_trim__nat_N_Mul_1H, x := l_nat_N_trim__nat_N_Mul_1X, r := l_nat_N_trim__nat_N_Mul_1R, xid := 0, rt := false, pins := [68], f := fun k d => l_nat_N_trim__nat_N_Mul_1 k d.1 d.2.1 }
def LL_nat_N_Mul : Loops := [([55], [(3, l_nat_N_Mul_3L), (7, l_nat_N_Mul_7L)]), ([78, 55], [(1, l_nat_N_trim__nat_N_Mul_1L)])]
def f_nat_N_Mul (k : Nat) (a0 : List Int) (a1 : List Int) : Option (List Int) :=
 if (0 : Int) ≤ IntKind.i64.wrap ((a0.length : Int) + (a1.length : Int)) then
  if IntKind.i64.wrap ((a0.length : Int) + (a1.length : Int)) ≤ IntKind.i64.wrap ((a0.length : Int) + (a1.length : Int)) then
   if (IntKind.i64.wrap ((a0.length : Int) + (a1.length : Int))) * 4 ≤ 281474976710656 then
    match l_nat_N_Mul_3 k a1 a0 (a0.length : Int) 0 (List.replicate ((IntKind.i64.wrap ((a0.length : Int) + (a1.length : Int))).toNat) 0) with
    | none => none
    | some (.exit d1) =>
     match l_nat_N_trim__nat_N_Mul_1 k d1.1.length d1.1 with
     | none => none
     | some (.exit d2) =>
      some (d2.2.1.take d2.1)
     | some (.ret d2) =>
      none
    | some (.ret d1) =>
     none
   else none
  else none
 else none
theorem l_nat_N_Mul_7_step (m : Nat) (d : dens l_nat_N_Mul_7H.tys) : l_nat_N_Mul_7L.f (m + 1) d = round E_nat_N_Mul LL_nat_N_Mul m [55] 69 (loopN (bodyOf Tryz.f55) 1) l_nat_N_Mul_7L (l_nat_N_Mul_7L.f m) d := by kernel_rfl
theorem l_nat_N_Mul_3_step (m : Nat) (d : dens l_nat_N_Mul_3H.tys) : l_nat_N_Mul_3L.f (m + 1) d = round E_nat_N_Mul LL_nat_N_Mul m [55] 69 (loopN (bodyOf Tryz.f55) 0) l_nat_N_Mul_3L (l_nat_N_Mul_3L.f m) d := by kernel_rfl
theorem l_nat_N_trim__nat_N_Mul_1_step (m : Nat) (d : dens l_nat_N_trim__nat_N_Mul_1H.tys) : l_nat_N_trim__nat_N_Mul_1L.f (m + 1) d = round E_nat_N_Mul LL_nat_N_Mul m [78, 55] 21 (loopN (bodyOf Tryz.f78) 0) l_nat_N_trim__nat_N_Mul_1L (l_nat_N_trim__nat_N_Mul_1L.f m) d := by kernel_rfl
theorem f_nat_N_Mul_run (k : Nat) (x : denL [.slice (.int .u32), .slice (.int .u32)]) : runFn E_nat_N_Mul LL_nat_N_Mul k 55 Tryz.f55 [.slice (.int .u32), .slice (.int .u32)] [.fresh (.int .u32)] x = f_nat_N_Mul k x.1 x.2 := by kernel_rfl
noncomputable def S_nat_N_Mul : Vm.Spec := { ps := [.slice (.int .u32), .slice (.int .u32)], rs := [.fresh (.int .u32)], f := fun x => f_nat_N_Mul fuel x.1 x.2 }
theorem f_nat_N_Mul_holds : Vm.Spec.holds Tryz.prog 55 S_nat_N_Mul := by
 have hB : BodiesOk Tryz.prog E_nat_N_Mul := bodies_ok (by exact ⟨by kernel_rfl, by kernel_rfl, trivial⟩)
 have hBS : BodiesStepped E_nat_N_Mul LL_nat_N_Mul := by
  refine bodies_stepped ?_
  exact ⟨(stepped_paths [[55]] (by exact ⟨stepped_of (ls := [(1, l_nat_N_trim__nat_N_Mul_1L)]) rfl rfl ⟨by kernel_rfl, fun _ => rfl, l_nat_N_trim__nat_N_Mul_1_step, stepsI_end (by kernel_rfl)⟩,  trivial⟩) rfl),  trivial⟩
 have hS : SpecsOk Tryz.prog E_nat_N_Mul := specs_ok (by exact trivial)
 have hE : EOk Tryz.prog E_nat_N_Mul := eok_te ok
 exact fn_sound (L := LL_nat_N_Mul) hE hS hB (draws_ok hE hS (by kernel_rfl)) hBS (fn := Tryz.f55) (by kernel_rfl) (c := bodyOf Tryz.f55) (by kernel_rfl) (stepped_of (ls := [(3, l_nat_N_Mul_3L), (7, l_nat_N_Mul_7L)]) rfl rfl ⟨by kernel_rfl, fun _ => rfl, l_nat_N_Mul_3_step, by kernel_rfl, fun _ => rfl, l_nat_N_Mul_7_step, stepsI_end (by kernel_rfl)⟩) fun x r h => ⟨fuel, (f_nat_N_Mul_run fuel x).trans h⟩
noncomputable def E_nat_N_Sub : Env := { te := te, spec := [], body := [(78, Tryz.f78)], flat := [106] }
def l_nat_N_Sub_4H : Ann := { slots := [(0, .one (.val (.slice (.int .u32)))), (1, .one (.val (.slice (.int .u32)))), (5, .one (.own 44 (.int .u32))), (6, .one (.val (.int .i64))), (13, .one (.val (.int .i64))), (14, .one (.val (.int .i64)))], objs := [(44, .buf (.int .u32))] }
def l_nat_N_Sub_4X : Ann := { slots := [(5, .one (.own 44 (.int .u32)))], objs := [(44, .buf (.int .u32))] }
def l_nat_N_Sub_4R : Ann := { slots := [], objs := [] }
def l_nat_N_trim__nat_N_Sub_1H : Ann := { slots := [(0, .one (.pre 44 (.int .u32)))], objs := [(44, .buf (.int .u32))] }
def l_nat_N_trim__nat_N_Sub_1X : Ann := { slots := [(0, .one (.pre 44 (.int .u32)))], objs := [(44, .buf (.int .u32))] }
def l_nat_N_trim__nat_N_Sub_1R : Ann := { slots := [], objs := [] }
def l_nat_N_Sub_4 : Nat → List Int → List Int → Int → Int → Int → List Int → Option (LR l_nat_N_Sub_4X l_nat_N_Sub_4R)
 | 0, _, _, _, _, _, _ => none
 | m + 1, s0, s1, s6, s13, s14, b44 =>
  if decide (s14 < s13) = true then
   if (0 : Int) ≤ s14 then
    if s14 < s0.length then
     if decide (s14 < (s1.length : Int)) = true then
      if (0 : Int) ≤ s14 then
       if s14 < s1.length then
        if decide (IntKind.i64.wrap ((IntKind.i64.wrap ((IntKind.i64.wrap (s0.getD s14.toNat 0)) - s6)) - (IntKind.i64.wrap (s1.getD s14.toNat 0))) < 0) = true then
         if (0 : Int) ≤ s14 then
          if s14 < b44.length then
           l_nat_N_Sub_4 m s0 s1 1 s13 (IntKind.i64.wrap (s14 + 1)) (b44.set s14.toNat (IntKind.u32.wrap (IntKind.i64.wrap ((IntKind.i64.wrap ((IntKind.i64.wrap ((IntKind.i64.wrap (s0.getD s14.toNat 0)) - s6)) - (IntKind.i64.wrap (s1.getD s14.toNat 0)))) + 1000000000))))
          else none
         else none
        else
         if (0 : Int) ≤ s14 then
          if s14 < b44.length then
           l_nat_N_Sub_4 m s0 s1 0 s13 (IntKind.i64.wrap (s14 + 1)) (b44.set s14.toNat (IntKind.u32.wrap (IntKind.i64.wrap ((IntKind.i64.wrap ((IntKind.i64.wrap (s0.getD s14.toNat 0)) - s6)) - (IntKind.i64.wrap (s1.getD s14.toNat 0))))))
          else none
         else none
       else none
      else none
     else
      if decide (IntKind.i64.wrap ((IntKind.i64.wrap (s0.getD s14.toNat 0)) - s6) < 0) = true then
       if (0 : Int) ≤ s14 then
        if s14 < b44.length then
         l_nat_N_Sub_4 m s0 s1 1 s13 (IntKind.i64.wrap (s14 + 1)) (b44.set s14.toNat (IntKind.u32.wrap (IntKind.i64.wrap ((IntKind.i64.wrap ((IntKind.i64.wrap (s0.getD s14.toNat 0)) - s6)) + 1000000000))))
        else none
       else none
      else
       if (0 : Int) ≤ s14 then
        if s14 < b44.length then
         l_nat_N_Sub_4 m s0 s1 0 s13 (IntKind.i64.wrap (s14 + 1)) (b44.set s14.toNat (IntKind.u32.wrap (IntKind.i64.wrap ((IntKind.i64.wrap (s0.getD s14.toNat 0)) - s6))))
        else none
       else none
    else none
   else none
  else
   some (.exit (b44, ()))
def l_nat_N_Sub_4L : LSpec := { h := l_nat_N_Sub_4H, x := l_nat_N_Sub_4X, r := l_nat_N_Sub_4R, xid := 0, rt := false, pins := [44], f := fun k d => l_nat_N_Sub_4 k d.1 d.2.1 d.2.2.1 d.2.2.2.1 d.2.2.2.2.1 d.2.2.2.2.2.1 }
def l_nat_N_trim__nat_N_Sub_1 : Nat → Nat → List Int → Option (LR l_nat_N_trim__nat_N_Sub_1X l_nat_N_trim__nat_N_Sub_1R)
 | 0, _, _ => none
 | m + 1, s0, b44 =>
  if decide ((s0 : Int) > 0) = true then
   if (0 : Int) ≤ IntKind.i64.wrap ((s0 : Int) - 1) then
    if IntKind.i64.wrap ((s0 : Int) - 1) < s0 then
     if (b44.getD ((IntKind.i64.wrap ((s0 : Int) - 1)).toNat) 0 == 0) = true then
      if (0 : Int) ≤ IntKind.i64.wrap ((s0 : Int) - 1) then
       if IntKind.i64.wrap ((s0 : Int) - 1) ≤ s0 then
        l_nat_N_trim__nat_N_Sub_1 m ((IntKind.i64.wrap ((s0 : Int) - 1)).toNat) b44
       else none
      else none
     else
      some (.exit (s0, b44, ()))
    else none
   else none
  else
   some (.exit (s0, b44, ()))
def l_nat_N_trim__nat_N_Sub_1L : LSpec := { h := l_nat_N_trim__nat_N_Sub_1H, x := l_nat_N_trim__nat_N_Sub_1X, r := l_nat_N_trim__nat_N_Sub_1R, xid := 0, rt := false, pins := [44], f := fun k d => l_nat_N_trim__nat_N_Sub_1 k d.1 d.2.1 }
def LL_nat_N_Sub : Loops := [([60], [(4, l_nat_N_Sub_4L)]), ([78, 60], [(1, l_nat_N_trim__nat_N_Sub_1L)])]
def f_nat_N_Sub (k : Nat) (a0 : List Int) (a1 : List Int) : Option (List Int) :=
 if (0 : Int) ≤ (a0.length : Int) then
  if (a0.length : Int) ≤ (a0.length : Int) then
   if (a0.length : Int) * 4 ≤ 281474976710656 then
    match l_nat_N_Sub_4 k a0 a1 0 (a0.length : Int) 0 (List.replicate ((a0.length : Int).toNat) 0) with
    | none => none
    | some (.exit d1) =>
     match l_nat_N_trim__nat_N_Sub_1 k d1.1.length d1.1 with
     | none => none
     | some (.exit d2) =>
      some (d2.2.1.take d2.1)
     | some (.ret d2) =>
      none
    | some (.ret d1) =>
     none
   else none
  else none
 else none
theorem l_nat_N_Sub_4_step (m : Nat) (d : dens l_nat_N_Sub_4H.tys) : l_nat_N_Sub_4L.f (m + 1) d = round E_nat_N_Sub LL_nat_N_Sub m [60] 47 (loopN (bodyOf Tryz.f60) 0) l_nat_N_Sub_4L (l_nat_N_Sub_4L.f m) d := by kernel_rfl
theorem l_nat_N_trim__nat_N_Sub_1_step (m : Nat) (d : dens l_nat_N_trim__nat_N_Sub_1H.tys) : l_nat_N_trim__nat_N_Sub_1L.f (m + 1) d = round E_nat_N_Sub LL_nat_N_Sub m [78, 60] 21 (loopN (bodyOf Tryz.f78) 0) l_nat_N_trim__nat_N_Sub_1L (l_nat_N_trim__nat_N_Sub_1L.f m) d := by kernel_rfl
theorem f_nat_N_Sub_run (k : Nat) (x : denL [.slice (.int .u32), .slice (.int .u32)]) : runFn E_nat_N_Sub LL_nat_N_Sub k 60 Tryz.f60 [.slice (.int .u32), .slice (.int .u32)] [.fresh (.int .u32)] x = f_nat_N_Sub k x.1 x.2 := by kernel_rfl
noncomputable def S_nat_N_Sub : Vm.Spec := { ps := [.slice (.int .u32), .slice (.int .u32)], rs := [.fresh (.int .u32)], f := fun x => f_nat_N_Sub fuel x.1 x.2 }
theorem f_nat_N_Sub_holds : Vm.Spec.holds Tryz.prog 60 S_nat_N_Sub := by
 have hB : BodiesOk Tryz.prog E_nat_N_Sub := bodies_ok (by exact ⟨by kernel_rfl, by kernel_rfl, trivial⟩)
 have hBS : BodiesStepped E_nat_N_Sub LL_nat_N_Sub := by
  refine bodies_stepped ?_
  exact ⟨(stepped_paths [[60]] (by exact ⟨stepped_of (ls := [(1, l_nat_N_trim__nat_N_Sub_1L)]) rfl rfl ⟨by kernel_rfl, fun _ => rfl, l_nat_N_trim__nat_N_Sub_1_step, stepsI_end (by kernel_rfl)⟩,  trivial⟩) rfl),  trivial⟩
 have hS : SpecsOk Tryz.prog E_nat_N_Sub := specs_ok (by exact trivial)
 have hE : EOk Tryz.prog E_nat_N_Sub := eok_te ok
 exact fn_sound (L := LL_nat_N_Sub) hE hS hB (draws_ok hE hS (by kernel_rfl)) hBS (fn := Tryz.f60) (by kernel_rfl) (c := bodyOf Tryz.f60) (by kernel_rfl) (stepped_of (ls := [(4, l_nat_N_Sub_4L)]) rfl rfl ⟨by kernel_rfl, fun _ => rfl, l_nat_N_Sub_4_step, stepsI_end (by kernel_rfl)⟩) fun x r h => ⟨fuel, (f_nat_N_Sub_run fuel x).trans h⟩
noncomputable def E_nat_N_trim : Env := { te := te, spec := [], body := [], flat := [106] }
def l_nat_N_trim_1H : Ann := { slots := [(0, .one (.val (.slice (.int .u32))))], objs := [] }
def l_nat_N_trim_1X : Ann := { slots := [(0, .one (.val (.slice (.int .u32))))], objs := [] }
def l_nat_N_trim_1R : Ann := { slots := [], objs := [] }
def l_nat_N_trim_1 : Nat → List Int → Option (LR l_nat_N_trim_1X l_nat_N_trim_1R)
 | 0, _ => none
 | m + 1, s0 =>
  if decide ((s0.length : Int) > 0) = true then
   if (0 : Int) ≤ IntKind.i64.wrap ((s0.length : Int) - 1) then
    if IntKind.i64.wrap ((s0.length : Int) - 1) < s0.length then
     if (s0.getD ((IntKind.i64.wrap ((s0.length : Int) - 1)).toNat) 0 == 0) = true then
      if (0 : Int) ≤ IntKind.i64.wrap ((s0.length : Int) - 1) then
       if IntKind.i64.wrap ((s0.length : Int) - 1) ≤ s0.length then
        l_nat_N_trim_1 m ((s0.take (IntKind.i64.wrap ((s0.length : Int) - 1)).toNat).drop 0)
       else none
      else none
     else
      some (.exit (s0, ()))
    else none
   else none
  else
   some (.exit (s0, ()))
def l_nat_N_trim_1L : LSpec := { h := l_nat_N_trim_1H, x := l_nat_N_trim_1X, r := l_nat_N_trim_1R, xid := 0, rt := false, pins := [], f := fun k d => l_nat_N_trim_1 k d.1 }
def LL_nat_N_trim : Loops := [([78], [(1, l_nat_N_trim_1L)])]
def f_nat_N_trim (k : Nat) (a0 : List Int) : Option (List Int) :=
 match l_nat_N_trim_1 k a0 with
 | none => none
 | some (.exit d1) =>
  some d1.1
 | some (.ret d1) =>
  none
theorem l_nat_N_trim_1_step (m : Nat) (d : dens l_nat_N_trim_1H.tys) : l_nat_N_trim_1L.f (m + 1) d = round E_nat_N_trim LL_nat_N_trim m [78] 21 (loopN (bodyOf Tryz.f78) 0) l_nat_N_trim_1L (l_nat_N_trim_1L.f m) d := by kernel_rfl
theorem f_nat_N_trim_run (k : Nat) (x : denL [.slice (.int .u32)]) : runFn E_nat_N_trim LL_nat_N_trim k 78 Tryz.f78 [.slice (.int .u32)] [.imm (.slice (.int .u32))] x = f_nat_N_trim k x := by kernel_rfl
noncomputable def S_nat_N_trim : Vm.Spec := { ps := [.slice (.int .u32)], rs := [.imm (.slice (.int .u32))], f := fun x => f_nat_N_trim fuel x }
theorem f_nat_N_trim_holds : Vm.Spec.holds Tryz.prog 78 S_nat_N_trim := by
 have hB : BodiesOk Tryz.prog E_nat_N_trim := bodies_none rfl
 have hBS : BodiesStepped E_nat_N_trim LL_nat_N_trim := bodies_stepped_none rfl
 have hS : SpecsOk Tryz.prog E_nat_N_trim := specs_ok (by exact trivial)
 have hE : EOk Tryz.prog E_nat_N_trim := eok_te ok
 exact fn_sound (L := LL_nat_N_trim) hE hS hB (draws_ok hE hS (by kernel_rfl)) hBS (fn := Tryz.f78) (by kernel_rfl) (c := bodyOf Tryz.f78) (by kernel_rfl) (stepped_of (ls := [(1, l_nat_N_trim_1L)]) rfl rfl ⟨by kernel_rfl, fun _ => rfl, l_nat_N_trim_1_step, stepsI_end (by kernel_rfl)⟩) fun x r h => ⟨fuel, (f_nat_N_trim_run fuel x).trans h⟩
noncomputable def E_nat_N_short : Env := { te := te, spec := [(78, S_nat_N_trim)], body := [], flat := [106] }
def l_nat_N_short_4H : Ann := { slots := [(0, .one (.val (.slice (.int .u32)))), (1, .one (.val (.int .u32))), (6, .one (.own 44 (.int .u32))), (7, .one (.val (.int .u64))), (8, .one (.val (.int .i64)))], objs := [(44, .buf (.int .u32))] }
def l_nat_N_short_4X : Ann := { slots := [(6, .one (.own 44 (.int .u32))), (7, .one (.val (.int .u64)))], objs := [(44, .buf (.int .u32))] }
def l_nat_N_short_4R : Ann := { slots := [], objs := [] }
def l_nat_N_short_4 : Nat → List Int → Int → Int → Int → List Int → Option (LR l_nat_N_short_4X l_nat_N_short_4R)
 | 0, _, _, _, _, _ => none
 | m + 1, s0, s1, s7, s8, b44 =>
  if decide (s8 ≥ 0) = true then
   if (0 : Int) ≤ s8 then
    if s8 < s0.length then
     if IntKind.u64.wrap (s1) = 0 then
      none
     else
      if (0 : Int) ≤ s8 then
       if s8 < b44.length then
        if IntKind.u64.wrap (s1) = 0 then
         none
        else
         l_nat_N_short_4 m s0 s1 ((IntKind.u64.wrap ((IntKind.u64.wrap (s7 * 1000000000)) + (IntKind.u64.wrap (s0.getD s8.toNat 0)))).tmod (IntKind.u64.wrap (s1))) (IntKind.i64.wrap (s8 - 1)) (b44.set s8.toNat (IntKind.u32.wrap (IntKind.u64.wrap ((IntKind.u64.wrap ((IntKind.u64.wrap (s7 * 1000000000)) + (IntKind.u64.wrap (s0.getD s8.toNat 0)))).tdiv (IntKind.u64.wrap (s1))))))
       else none
      else none
    else none
   else none
  else
   some (.exit (s7, b44, ()))
def l_nat_N_short_4L : LSpec := { h := l_nat_N_short_4H, x := l_nat_N_short_4X, r := l_nat_N_short_4R, xid := 0, rt := false, pins := [44], f := fun k d => l_nat_N_short_4 k d.1 d.2.1 d.2.2.1 d.2.2.2.1 d.2.2.2.2.1 }
def LL_nat_N_short : Loops := [([88], [(4, l_nat_N_short_4L)])]
def f_nat_N_short (k : Nat) (a0 : List Int) (a1 : Int) : Option ((List Int) × (List Int)) :=
 if (0 : Int) ≤ (a0.length : Int) then
  if (a0.length : Int) ≤ (a0.length : Int) then
   if (a0.length : Int) * 4 ≤ 281474976710656 then
    match l_nat_N_short_4 k a0 a1 0 (IntKind.i64.wrap ((a0.length : Int) - 1)) (List.replicate ((a0.length : Int).toNat) 0) with
    | none => none
    | some (.exit d1) =>
     (f_nat_N_trim fuel d1.2.1).bind fun r2 =>
     (f_nat_N_trim fuel [IntKind.u32.wrap (d1.1)]).bind fun r3 =>
     some (r2, r3)
    | some (.ret d1) =>
     none
   else none
  else none
 else none
theorem l_nat_N_short_4_step (m : Nat) (d : dens l_nat_N_short_4H.tys) : l_nat_N_short_4L.f (m + 1) d = round E_nat_N_short LL_nat_N_short m [88] 45 (loopN (bodyOf Tryz.f88) 0) l_nat_N_short_4L (l_nat_N_short_4L.f m) d := by kernel_rfl
theorem f_nat_N_short_run (k : Nat) (x : denL [.slice (.int .u32), .int .u32]) : runFn E_nat_N_short LL_nat_N_short k 88 Tryz.f88 [.slice (.int .u32), .int .u32] [.imm (.slice (.int .u32)), .imm (.slice (.int .u32))] x = f_nat_N_short k x.1 x.2 := by kernel_rfl
noncomputable def S_nat_N_short : Vm.Spec := { ps := [.slice (.int .u32), .int .u32], rs := [.imm (.slice (.int .u32)), .imm (.slice (.int .u32))], f := fun x => f_nat_N_short fuel x.1 x.2 }
theorem f_nat_N_short_holds : Vm.Spec.holds Tryz.prog 88 S_nat_N_short := by
 have hB : BodiesOk Tryz.prog E_nat_N_short := bodies_none rfl
 have hBS : BodiesStepped E_nat_N_short LL_nat_N_short := bodies_stepped_none rfl
 have hS : SpecsOk Tryz.prog E_nat_N_short := specs_ok (by exact ⟨⟨by kernel_rfl, f_nat_N_trim_holds⟩, trivial⟩)
 have hE : EOk Tryz.prog E_nat_N_short := eok_te ok
 exact fn_sound (L := LL_nat_N_short) hE hS hB (draws_ok hE hS (by kernel_rfl)) hBS (fn := Tryz.f88) (by kernel_rfl) (c := bodyOf Tryz.f88) (by kernel_rfl) (stepped_of (ls := [(4, l_nat_N_short_4L)]) rfl rfl ⟨by kernel_rfl, fun _ => rfl, l_nat_N_short_4_step, stepsI_end (by kernel_rfl)⟩) fun x r h => ⟨fuel, (f_nat_N_short_run fuel x).trans h⟩
noncomputable def E_nat_N_Div : Env := { te := te, spec := [(55, S_nat_N_Mul), (59, S_nat_N_Cmp), (78, S_nat_N_trim), (88, S_nat_N_short)], body := [(89, Tryz.f89), (90, Tryz.f90)], flat := [106] }
def l_nat_N_Div_7H : Ann := { slots := [(0, .one (.val (.slice (.int .u32)))), (7, .one (.own 188 (.int .u32)))], objs := [(188, .buf (.int .u32))] }
def l_nat_N_Div_7X : Ann := { slots := [(7, .one (.own 188 (.int .u32)))], objs := [(188, .buf (.int .u32))] }
def l_nat_N_Div_7R : Ann := { slots := [], objs := [] }
def l_nat_N_Div_16H : Ann := { slots := [(7, .one (.own 188 (.int .u32))), (8, .one (.own 204 (.int .u32))), (9, .one (.val (.int .i64))), (11, .one (.val (.int .i64))), (13, .one (.val (.int .u64))), (14, .one (.val (.int .u64)))], objs := [(188, .buf (.int .u32)), (204, .buf (.int .u32))] }
def l_nat_N_Div_16X : Ann := { slots := [(7, .one (.own 188 (.int .u32))), (8, .one (.own 204 (.int .u32))), (13, .one (.val (.int .u64)))], objs := [(188, .buf (.int .u32)), (204, .buf (.int .u32))] }
def l_nat_N_Div_16R : Ann := { slots := [], objs := [] }
def l_nat_N_minus__nat_N_Div_4H : Ann := { slots := [(0, .one (.own 188 (.int .u32))), (1, .one (.own 204 (.int .u32))), (2, .one (.val (.int .i64))), (3, .one (.val (.int .u64))), (9, .one (.val (.int .i64))), (10, .one (.val (.int .u64))), (11, .one (.val (.int .i64)))], objs := [(188, .buf (.int .u32)), (204, .buf (.int .u32))] }
def l_nat_N_minus__nat_N_Div_4X : Ann := { slots := [(9, .one (.val (.int .i64)))], objs := [(188, .buf (.int .u32)), (204, .buf (.int .u32))] }
def l_nat_N_minus__nat_N_Div_4R : Ann := { slots := [], objs := [] }
def l_nat_N_plus__nat_N_Div_2H : Ann := { slots := [(0, .one (.own 188 (.int .u32))), (1, .one (.own 204 (.int .u32))), (2, .one (.val (.int .i64))), (6, .one (.val (.int .u32))), (7, .one (.val (.int .i64)))], objs := [(188, .buf (.int .u32)), (204, .buf (.int .u32))] }
def l_nat_N_plus__nat_N_Div_2X : Ann := { slots := [], objs := [(188, .buf (.int .u32)), (204, .buf (.int .u32))] }
def l_nat_N_plus__nat_N_Div_2R : Ann := { slots := [], objs := [] }
def l_nat_N_Div_12H : Ann := { slots := [(7, .one (.own 188 (.int .u32))), (8, .one (.own 204 (.int .u32))), (9, .one (.val (.int .i64))), (10, .one (.own 264 (.int .u32))), (11, .one (.val (.int .i64)))], objs := [(188, .buf (.int .u32)), (204, .buf (.int .u32)), (264, .buf (.int .u32))] }
def l_nat_N_Div_12X : Ann := { slots := [(7, .one (.own 188 (.int .u32))), (10, .one (.own 264 (.int .u32)))], objs := [(188, .buf (.int .u32)), (264, .buf (.int .u32)), (204, .buf (.int .u32))] }
def l_nat_N_Div_12R : Ann := { slots := [], objs := [] }
def l_nat_N_Div_7 : Nat → List Int → List Int → Option (LR l_nat_N_Div_7X l_nat_N_Div_7R)
 | 0, _, _ => none
 | m + 1, s0, b188 =>
  if decide ((b188.length : Int) ≤ (s0.length : Int)) = true then
   if (b188.length + 1) * 4 ≤ 140737488355328 then
    l_nat_N_Div_7 m s0 (b188 ++ [0])
   else none
  else
   some (.exit (b188, ()))
def l_nat_N_Div_7L : LSpec := { h := l_nat_N_Div_7H, x := l_nat_N_Div_7X, r := l_nat_N_Div_7R, xid := 0, rt := false, pins := [], f := fun k d => l_nat_N_Div_7 k d.1 d.2.1 }
def l_nat_N_Div_16 : Nat → Int → Int → Int → Int → List Int → List Int → Option (LR l_nat_N_Div_16X l_nat_N_Div_16R)
 | 0, _, _, _, _, _, _ => none
 | m + 1, s9, s11, s13, s14, b188, b204 =>
  if decide (s13 ≥ 1000000000) = false then
   if (0 : Int) ≤ IntKind.i64.wrap (s9 - 2) then
    if IntKind.i64.wrap (s9 - 2) < b204.length then
     if (0 : Int) ≤ IntKind.i64.wrap ((IntKind.i64.wrap (s11 + s9)) - 2) then
      if IntKind.i64.wrap ((IntKind.i64.wrap (s11 + s9)) - 2) < b188.length then
       if decide (IntKind.u64.wrap (s13 * (IntKind.u64.wrap (b204.getD ((IntKind.i64.wrap (s9 - 2)).toNat) 0))) > IntKind.u64.wrap ((IntKind.u64.wrap (s14 * 1000000000)) + (IntKind.u64.wrap (b188.getD ((IntKind.i64.wrap ((IntKind.i64.wrap (s11 + s9)) - 2)).toNat) 0)))) = true then
        if (0 : Int) ≤ IntKind.i64.wrap (s9 - 1) then
         if IntKind.i64.wrap (s9 - 1) < b204.length then
          if decide (IntKind.u64.wrap (s14 + (IntKind.u64.wrap (b204.getD ((IntKind.i64.wrap (s9 - 1)).toNat) 0))) ≥ 1000000000) = true then
           some (.exit (IntKind.u64.wrap (s13 - 1), b188, b204, ()))
          else
           l_nat_N_Div_16 m s9 s11 (IntKind.u64.wrap (s13 - 1)) (IntKind.u64.wrap (s14 + (IntKind.u64.wrap (b204.getD ((IntKind.i64.wrap (s9 - 1)).toNat) 0)))) b188 b204
         else none
        else none
       else
        some (.exit (s13, b188, b204, ()))
      else none
     else none
    else none
   else none
  else
   if (0 : Int) ≤ IntKind.i64.wrap (s9 - 1) then
    if IntKind.i64.wrap (s9 - 1) < b204.length then
     if decide (IntKind.u64.wrap (s14 + (IntKind.u64.wrap (b204.getD ((IntKind.i64.wrap (s9 - 1)).toNat) 0))) ≥ 1000000000) = true then
      some (.exit (IntKind.u64.wrap (s13 - 1), b188, b204, ()))
     else
      l_nat_N_Div_16 m s9 s11 (IntKind.u64.wrap (s13 - 1)) (IntKind.u64.wrap (s14 + (IntKind.u64.wrap (b204.getD ((IntKind.i64.wrap (s9 - 1)).toNat) 0)))) b188 b204
    else none
   else none
def l_nat_N_Div_16L : LSpec := { h := l_nat_N_Div_16H, x := l_nat_N_Div_16X, r := l_nat_N_Div_16R, xid := 4, rt := false, pins := [188, 204], f := fun k d => l_nat_N_Div_16 k d.1 d.2.1 d.2.2.1 d.2.2.2.1 d.2.2.2.2.1 d.2.2.2.2.2.1 }
def l_nat_N_minus__nat_N_Div_4 : Nat → Int → Int → Int → Int → Int → List Int → List Int → Option (LR l_nat_N_minus__nat_N_Div_4X l_nat_N_minus__nat_N_Div_4R)
 | 0, _, _, _, _, _, _, _ => none
 | m + 1, s2, s3, s9, s10, s11, b188, b204 =>
  if decide (s11 ≤ (b204.length : Int)) = true then
   if decide (s11 < (b204.length : Int)) = true then
    if (0 : Int) ≤ s11 then
     if s11 < b204.length then
      if (0 : Int) ≤ IntKind.i64.wrap (s2 + s11) then
       if IntKind.i64.wrap (s2 + s11) < b188.length then
        if decide (IntKind.i64.wrap ((IntKind.i64.wrap ((IntKind.i64.wrap (b188.getD ((IntKind.i64.wrap (s2 + s11)).toNat) 0)) - (IntKind.i64.wrap ((IntKind.u64.wrap (s10 + (IntKind.u64.wrap (s3 * (IntKind.u64.wrap (b204.getD s11.toNat 0)))))).tmod 1000000000)))) - s9) < 0) = true then
         if (0 : Int) ≤ IntKind.i64.wrap (s2 + s11) then
          if IntKind.i64.wrap (s2 + s11) < b188.length then
           l_nat_N_minus__nat_N_Div_4 m s2 s3 1 (IntKind.u64.wrap ((IntKind.u64.wrap (s10 + (IntKind.u64.wrap (s3 * (IntKind.u64.wrap (b204.getD s11.toNat 0)))))).tdiv 1000000000)) (IntKind.i64.wrap (s11 + 1)) (b188.set ((IntKind.i64.wrap (s2 + s11)).toNat) (IntKind.u32.wrap (IntKind.i64.wrap ((IntKind.i64.wrap ((IntKind.i64.wrap ((IntKind.i64.wrap (b188.getD ((IntKind.i64.wrap (s2 + s11)).toNat) 0)) - (IntKind.i64.wrap ((IntKind.u64.wrap (s10 + (IntKind.u64.wrap (s3 * (IntKind.u64.wrap (b204.getD s11.toNat 0)))))).tmod 1000000000)))) - s9)) + 1000000000)))) b204
          else none
         else none
        else
         if (0 : Int) ≤ IntKind.i64.wrap (s2 + s11) then
          if IntKind.i64.wrap (s2 + s11) < b188.length then
           l_nat_N_minus__nat_N_Div_4 m s2 s3 0 (IntKind.u64.wrap ((IntKind.u64.wrap (s10 + (IntKind.u64.wrap (s3 * (IntKind.u64.wrap (b204.getD s11.toNat 0)))))).tdiv 1000000000)) (IntKind.i64.wrap (s11 + 1)) (b188.set ((IntKind.i64.wrap (s2 + s11)).toNat) (IntKind.u32.wrap (IntKind.i64.wrap ((IntKind.i64.wrap ((IntKind.i64.wrap (b188.getD ((IntKind.i64.wrap (s2 + s11)).toNat) 0)) - (IntKind.i64.wrap ((IntKind.u64.wrap (s10 + (IntKind.u64.wrap (s3 * (IntKind.u64.wrap (b204.getD s11.toNat 0)))))).tmod 1000000000)))) - s9)))) b204
          else none
         else none
       else none
      else none
     else none
    else none
   else
    if (0 : Int) ≤ IntKind.i64.wrap (s2 + s11) then
     if IntKind.i64.wrap (s2 + s11) < b188.length then
      if decide (IntKind.i64.wrap ((IntKind.i64.wrap ((IntKind.i64.wrap (b188.getD ((IntKind.i64.wrap (s2 + s11)).toNat) 0)) - (IntKind.i64.wrap (s10.tmod 1000000000)))) - s9) < 0) = true then
       if (0 : Int) ≤ IntKind.i64.wrap (s2 + s11) then
        if IntKind.i64.wrap (s2 + s11) < b188.length then
         l_nat_N_minus__nat_N_Div_4 m s2 s3 1 (IntKind.u64.wrap (s10.tdiv 1000000000)) (IntKind.i64.wrap (s11 + 1)) (b188.set ((IntKind.i64.wrap (s2 + s11)).toNat) (IntKind.u32.wrap (IntKind.i64.wrap ((IntKind.i64.wrap ((IntKind.i64.wrap ((IntKind.i64.wrap (b188.getD ((IntKind.i64.wrap (s2 + s11)).toNat) 0)) - (IntKind.i64.wrap (s10.tmod 1000000000)))) - s9)) + 1000000000)))) b204
        else none
       else none
      else
       if (0 : Int) ≤ IntKind.i64.wrap (s2 + s11) then
        if IntKind.i64.wrap (s2 + s11) < b188.length then
         l_nat_N_minus__nat_N_Div_4 m s2 s3 0 (IntKind.u64.wrap (s10.tdiv 1000000000)) (IntKind.i64.wrap (s11 + 1)) (b188.set ((IntKind.i64.wrap (s2 + s11)).toNat) (IntKind.u32.wrap (IntKind.i64.wrap ((IntKind.i64.wrap ((IntKind.i64.wrap (b188.getD ((IntKind.i64.wrap (s2 + s11)).toNat) 0)) - (IntKind.i64.wrap (s10.tmod 1000000000)))) - s9)))) b204
        else none
       else none
     else none
    else none
  else
   some (.exit (s9, b188, b204, ()))
def l_nat_N_minus__nat_N_Div_4L : LSpec := { h := l_nat_N_minus__nat_N_Div_4H, x := l_nat_N_minus__nat_N_Div_4X, r := l_nat_N_minus__nat_N_Div_4R, xid := 0, rt := false, pins := [188, 204], f := fun k d => l_nat_N_minus__nat_N_Div_4 k d.1 d.2.1 d.2.2.1 d.2.2.2.1 d.2.2.2.2.1 d.2.2.2.2.2.1 d.2.2.2.2.2.2.1 }
def l_nat_N_plus__nat_N_Div_2 : Nat → Int → Int → Int → List Int → List Int → Option (LR l_nat_N_plus__nat_N_Div_2X l_nat_N_plus__nat_N_Div_2R)
 | 0, _, _, _, _, _ => none
 | m + 1, s2, s6, s7, b188, b204 =>
  if decide (s7 ≤ (b204.length : Int)) = true then
   if (0 : Int) ≤ IntKind.i64.wrap (s2 + s7) then
    if IntKind.i64.wrap (s2 + s7) < b188.length then
     if decide (s7 < (b204.length : Int)) = true then
      if (0 : Int) ≤ s7 then
       if s7 < b204.length then
        if (0 : Int) ≤ IntKind.i64.wrap (s2 + s7) then
         if IntKind.i64.wrap (s2 + s7) < b188.length then
          l_nat_N_plus__nat_N_Div_2 m s2 (IntKind.u32.wrap ((IntKind.u32.wrap ((IntKind.u32.wrap ((b188.getD ((IntKind.i64.wrap (s2 + s7)).toNat) 0) + s6)) + (b204.getD s7.toNat 0))).tdiv 1000000000)) (IntKind.i64.wrap (s7 + 1)) (b188.set ((IntKind.i64.wrap (s2 + s7)).toNat) ((IntKind.u32.wrap ((IntKind.u32.wrap ((b188.getD ((IntKind.i64.wrap (s2 + s7)).toNat) 0) + s6)) + (b204.getD s7.toNat 0))).tmod 1000000000)) b204
         else none
        else none
       else none
      else none
     else
      if (0 : Int) ≤ IntKind.i64.wrap (s2 + s7) then
       if IntKind.i64.wrap (s2 + s7) < b188.length then
        l_nat_N_plus__nat_N_Div_2 m s2 (IntKind.u32.wrap ((IntKind.u32.wrap ((b188.getD ((IntKind.i64.wrap (s2 + s7)).toNat) 0) + s6)).tdiv 1000000000)) (IntKind.i64.wrap (s7 + 1)) (b188.set ((IntKind.i64.wrap (s2 + s7)).toNat) ((IntKind.u32.wrap ((b188.getD ((IntKind.i64.wrap (s2 + s7)).toNat) 0) + s6)).tmod 1000000000)) b204
       else none
      else none
    else none
   else none
  else
   some (.exit (b188, b204, ()))
def l_nat_N_plus__nat_N_Div_2L : LSpec := { h := l_nat_N_plus__nat_N_Div_2H, x := l_nat_N_plus__nat_N_Div_2X, r := l_nat_N_plus__nat_N_Div_2R, xid := 0, rt := false, pins := [188, 204], f := fun k d => l_nat_N_plus__nat_N_Div_2 k d.1 d.2.1 d.2.2.1 d.2.2.2.1 d.2.2.2.2.1 }
def l_nat_N_Div_12 : Nat → Int → Int → List Int → List Int → List Int → Option (LR l_nat_N_Div_12X l_nat_N_Div_12R)
 | 0, _, _, _, _, _ => none
 | m + 1, s9, s11, b188, b204, b264 =>
  if decide (s11 ≥ 0) = true then
   if (0 : Int) ≤ IntKind.i64.wrap (s11 + s9) then
    if IntKind.i64.wrap (s11 + s9) < b188.length then
     if (0 : Int) ≤ IntKind.i64.wrap ((IntKind.i64.wrap (s11 + s9)) - 1) then
      if IntKind.i64.wrap ((IntKind.i64.wrap (s11 + s9)) - 1) < b188.length then
       if (0 : Int) ≤ IntKind.i64.wrap (s9 - 1) then
        if IntKind.i64.wrap (s9 - 1) < b204.length then
         if IntKind.u64.wrap (b204.getD ((IntKind.i64.wrap (s9 - 1)).toNat) 0) = 0 then
          none
         else
          if (0 : Int) ≤ IntKind.i64.wrap (s9 - 1) then
           if IntKind.i64.wrap (s9 - 1) < b204.length then
            if IntKind.u64.wrap (b204.getD ((IntKind.i64.wrap (s9 - 1)).toNat) 0) = 0 then
             none
            else
             match l_nat_N_Div_16 m s9 s11 (IntKind.u64.wrap ((IntKind.u64.wrap ((IntKind.u64.wrap ((IntKind.u64.wrap (b188.getD ((IntKind.i64.wrap (s11 + s9)).toNat) 0)) * 1000000000)) + (IntKind.u64.wrap (b188.getD ((IntKind.i64.wrap ((IntKind.i64.wrap (s11 + s9)) - 1)).toNat) 0)))).tdiv (IntKind.u64.wrap (b204.getD ((IntKind.i64.wrap (s9 - 1)).toNat) 0)))) ((IntKind.u64.wrap ((IntKind.u64.wrap ((IntKind.u64.wrap (b188.getD ((IntKind.i64.wrap (s11 + s9)).toNat) 0)) * 1000000000)) + (IntKind.u64.wrap (b188.getD ((IntKind.i64.wrap ((IntKind.i64.wrap (s11 + s9)) - 1)).toNat) 0)))).tmod (IntKind.u64.wrap (b204.getD ((IntKind.i64.wrap (s9 - 1)).toNat) 0))) b188 b204 with
             | none => none
             | some (.exit d1) =>
              match l_nat_N_minus__nat_N_Div_4 m s11 d1.1 0 0 0 d1.2.1 d1.2.2.1 with
              | none => none
              | some (.exit d2) =>
               if decide (d2.1 > 0) = true then
                match l_nat_N_plus__nat_N_Div_2 m s11 0 0 d2.2.1 d2.2.2.1 with
                | none => none
                | some (.exit d3) =>
                 if (0 : Int) ≤ s11 then
                  if s11 < b264.length then
                   l_nat_N_Div_12 m s9 (IntKind.i64.wrap (s11 - 1)) d3.1 d3.2.1 (b264.set s11.toNat (IntKind.u32.wrap (IntKind.u64.wrap (d1.1 - 1))))
                  else none
                 else none
                | some (.ret d3) =>
                 none
               else
                if (0 : Int) ≤ s11 then
                 if s11 < b264.length then
                  l_nat_N_Div_12 m s9 (IntKind.i64.wrap (s11 - 1)) d2.2.1 d2.2.2.1 (b264.set s11.toNat (IntKind.u32.wrap (d1.1)))
                 else none
                else none
              | some (.ret d2) =>
               none
             | some (.ret d1) =>
              none
           else none
          else none
        else none
       else none
      else none
     else none
    else none
   else none
  else
   some (.exit (b188, b264, b204, ()))
def l_nat_N_Div_12L : LSpec := { h := l_nat_N_Div_12H, x := l_nat_N_Div_12X, r := l_nat_N_Div_12R, xid := 2, rt := false, pins := [188, 204, 264], f := fun k d => l_nat_N_Div_12 k d.1 d.2.1 d.2.2.1 d.2.2.2.1 d.2.2.2.2.1 }
def LL_nat_N_Div : Loops := [([79], [(7, l_nat_N_Div_7L), (12, l_nat_N_Div_12L), (16, l_nat_N_Div_16L)]), ([89, 79], [(4, l_nat_N_minus__nat_N_Div_4L)]), ([90, 79], [(2, l_nat_N_plus__nat_N_Div_2L)])]
def f_nat_N_Div (k : Nat) (a0 : List Int) (a1 : List Int) : Option ((List Int) × (List Int)) :=
 (f_nat_N_Cmp fuel a0 a1).bind fun r1 =>
 if decide (r1 < 0) = true then
  some ([], a0)
 else
  if ((a1.length : Int) == 1) = true then
   if (0 : Int) < a1.length then
    (f_nat_N_short fuel a0 (a1.getD 0 0)).bind fun r2 =>
    some (r2.1, r2.2)
   else none
  else
   if (0 : Int) ≤ IntKind.i64.wrap ((a1.length : Int) - 1) then
    if IntKind.i64.wrap ((a1.length : Int) - 1) < a1.length then
     if IntKind.u64.wrap ((IntKind.u64.wrap (a1.getD ((IntKind.i64.wrap ((a1.length : Int) - 1)).toNat) 0)) + 1) = 0 then
      none
     else
      (f_nat_N_Mul fuel a0 [IntKind.u32.wrap (IntKind.u64.wrap ((1000000000 : Int).tdiv (IntKind.u64.wrap ((IntKind.u64.wrap (a1.getD ((IntKind.i64.wrap ((a1.length : Int) - 1)).toNat) 0)) + 1))))]).bind fun r3 =>
      if (r3.length + 1) * 4 ≤ 140737488355328 then
       (f_nat_N_Mul fuel a1 [IntKind.u32.wrap (IntKind.u64.wrap ((1000000000 : Int).tdiv (IntKind.u64.wrap ((IntKind.u64.wrap (a1.getD ((IntKind.i64.wrap ((a1.length : Int) - 1)).toNat) 0)) + 1))))]).bind fun r4 =>
       match l_nat_N_Div_7 k a0 (r3 ++ [0]) with
       | none => none
       | some (.exit d5) =>
        if (0 : Int) ≤ IntKind.i64.wrap ((d5.1.length : Int) - (r4.length : Int)) then
         if IntKind.i64.wrap ((d5.1.length : Int) - (r4.length : Int)) ≤ IntKind.i64.wrap ((d5.1.length : Int) - (r4.length : Int)) then
          if (IntKind.i64.wrap ((d5.1.length : Int) - (r4.length : Int))) * 4 ≤ 281474976710656 then
           match l_nat_N_Div_12 k (r4.length : Int) (IntKind.i64.wrap ((IntKind.i64.wrap ((d5.1.length : Int) - (r4.length : Int))) - 1)) d5.1 r4 (List.replicate ((IntKind.i64.wrap ((d5.1.length : Int) - (r4.length : Int))).toNat) 0) with
           | none => none
           | some (.exit d6) =>
            (f_nat_N_trim fuel d6.1).bind fun r7 =>
            (f_nat_N_short fuel r7 (IntKind.u32.wrap (IntKind.u64.wrap ((1000000000 : Int).tdiv (IntKind.u64.wrap ((IntKind.u64.wrap (a1.getD ((IntKind.i64.wrap ((a1.length : Int) - 1)).toNat) 0)) + 1)))))).bind fun r8 =>
            (f_nat_N_trim fuel d6.2.1).bind fun r9 =>
            some (r9, r8.1)
           | some (.ret d6) =>
            none
          else none
         else none
        else none
       | some (.ret d5) =>
        none
      else none
    else none
   else none
theorem l_nat_N_Div_7_step (m : Nat) (d : dens l_nat_N_Div_7H.tys) : l_nat_N_Div_7L.f (m + 1) d = round E_nat_N_Div LL_nat_N_Div m [79] 171 (loopN (bodyOf Tryz.f79) 0) l_nat_N_Div_7L (l_nat_N_Div_7L.f m) d := by kernel_rfl
theorem l_nat_N_Div_16_step (m : Nat) (d : dens l_nat_N_Div_16H.tys) : l_nat_N_Div_16L.f (m + 1) d = round E_nat_N_Div LL_nat_N_Div m [79] 171 (loopN (bodyOf Tryz.f79) 2) l_nat_N_Div_16L (l_nat_N_Div_16L.f m) d := by kernel_rfl
theorem l_nat_N_minus__nat_N_Div_4_step (m : Nat) (d : dens l_nat_N_minus__nat_N_Div_4H.tys) : l_nat_N_minus__nat_N_Div_4L.f (m + 1) d = round E_nat_N_Div LL_nat_N_Div m [89, 79] 62 (loopN (bodyOf Tryz.f89) 0) l_nat_N_minus__nat_N_Div_4L (l_nat_N_minus__nat_N_Div_4L.f m) d := by kernel_rfl
theorem l_nat_N_plus__nat_N_Div_2_step (m : Nat) (d : dens l_nat_N_plus__nat_N_Div_2H.tys) : l_nat_N_plus__nat_N_Div_2L.f (m + 1) d = round E_nat_N_Div LL_nat_N_Div m [90, 79] 42 (loopN (bodyOf Tryz.f90) 0) l_nat_N_plus__nat_N_Div_2L (l_nat_N_plus__nat_N_Div_2L.f m) d := by kernel_rfl
theorem l_nat_N_Div_12_step (m : Nat) (d : dens l_nat_N_Div_12H.tys) : l_nat_N_Div_12L.f (m + 1) d = round E_nat_N_Div LL_nat_N_Div m [79] 171 (loopN (bodyOf Tryz.f79) 1) l_nat_N_Div_12L (l_nat_N_Div_12L.f m) d := by kernel_rfl
theorem f_nat_N_Div_run (k : Nat) (x : denL [.slice (.int .u32), .slice (.int .u32)]) : runFn E_nat_N_Div LL_nat_N_Div k 79 Tryz.f79 [.slice (.int .u32), .slice (.int .u32)] [.imm (.slice (.int .u32)), .imm (.slice (.int .u32))] x = f_nat_N_Div k x.1 x.2 := by kernel_rfl
noncomputable def S_nat_N_Div : Vm.Spec := { ps := [.slice (.int .u32), .slice (.int .u32)], rs := [.imm (.slice (.int .u32)), .imm (.slice (.int .u32))], f := fun x => f_nat_N_Div fuel x.1 x.2 }
theorem f_nat_N_Div_holds : Vm.Spec.holds Tryz.prog 79 S_nat_N_Div := by
 have hB : BodiesOk Tryz.prog E_nat_N_Div := bodies_ok (by exact ⟨by kernel_rfl, by kernel_rfl, by kernel_rfl, by kernel_rfl, trivial⟩)
 have hBS : BodiesStepped E_nat_N_Div LL_nat_N_Div := by
  refine bodies_stepped ?_
  exact ⟨(stepped_paths [[79]] (by exact ⟨stepped_of (ls := [(4, l_nat_N_minus__nat_N_Div_4L)]) rfl rfl ⟨by kernel_rfl, fun _ => rfl, l_nat_N_minus__nat_N_Div_4_step, stepsI_end (by kernel_rfl)⟩,  trivial⟩) rfl), (stepped_paths [[79]] (by exact ⟨stepped_of (ls := [(2, l_nat_N_plus__nat_N_Div_2L)]) rfl rfl ⟨by kernel_rfl, fun _ => rfl, l_nat_N_plus__nat_N_Div_2_step, stepsI_end (by kernel_rfl)⟩,  trivial⟩) rfl),  trivial⟩
 have hS : SpecsOk Tryz.prog E_nat_N_Div := specs_ok (by exact ⟨⟨by kernel_rfl, f_nat_N_Mul_holds⟩, ⟨by kernel_rfl, f_nat_N_Cmp_holds⟩, ⟨by kernel_rfl, f_nat_N_trim_holds⟩, ⟨by kernel_rfl, f_nat_N_short_holds⟩, trivial⟩)
 have hE : EOk Tryz.prog E_nat_N_Div := eok_te ok
 exact fn_sound (L := LL_nat_N_Div) hE hS hB (draws_ok hE hS (by kernel_rfl)) hBS (fn := Tryz.f79) (by kernel_rfl) (c := bodyOf Tryz.f79) (by kernel_rfl) (stepped_of (ls := [(7, l_nat_N_Div_7L), (12, l_nat_N_Div_12L), (16, l_nat_N_Div_16L)]) rfl rfl ⟨by kernel_rfl, fun _ => rfl, l_nat_N_Div_7_step, by kernel_rfl, fun _ => rfl, l_nat_N_Div_12_step, by kernel_rfl, fun _ => rfl, l_nat_N_Div_16_step, stepsI_end (by kernel_rfl)⟩) fun x r h => ⟨fuel, (f_nat_N_Div_run fuel x).trans h⟩
noncomputable def E_nat_N_Gcd : Env := { te := te, spec := [(79, S_nat_N_Div)], body := [], flat := [106] }
def l_nat_N_Gcd_1H : Ann := { slots := [(0, .one (.val (.slice (.int .u32)))), (1, .one (.val (.slice (.int .u32))))], objs := [] }
def l_nat_N_Gcd_1X : Ann := { slots := [(0, .one (.val (.slice (.int .u32))))], objs := [] }
def l_nat_N_Gcd_1R : Ann := { slots := [], objs := [] }
def l_nat_N_Gcd_1 : Nat → List Int → List Int → Option (LR l_nat_N_Gcd_1X l_nat_N_Gcd_1R)
 | 0, _, _ => none
 | m + 1, s0, s1 =>
  if decide ((s1.length : Int) > 0) = true then
   (f_nat_N_Div fuel s0 s1).bind fun r1 =>
   l_nat_N_Gcd_1 m s1 r1.2
  else
   some (.exit (s0, ()))
def l_nat_N_Gcd_1L : LSpec := { h := l_nat_N_Gcd_1H, x := l_nat_N_Gcd_1X, r := l_nat_N_Gcd_1R, xid := 0, rt := false, pins := [], f := fun k d => l_nat_N_Gcd_1 k d.1 d.2.1 }
def LL_nat_N_Gcd : Loops := [([72], [(1, l_nat_N_Gcd_1L)])]
def f_nat_N_Gcd (k : Nat) (a0 : List Int) (a1 : List Int) : Option (List Int) :=
 match l_nat_N_Gcd_1 k a0 a1 with
 | none => none
 | some (.exit d1) =>
  some d1.1
 | some (.ret d1) =>
  none
theorem l_nat_N_Gcd_1_step (m : Nat) (d : dens l_nat_N_Gcd_1H.tys) : l_nat_N_Gcd_1L.f (m + 1) d = round E_nat_N_Gcd LL_nat_N_Gcd m [72] 19 (loopN (bodyOf Tryz.f72) 0) l_nat_N_Gcd_1L (l_nat_N_Gcd_1L.f m) d := by kernel_rfl
theorem f_nat_N_Gcd_run (k : Nat) (x : denL [.slice (.int .u32), .slice (.int .u32)]) : runFn E_nat_N_Gcd LL_nat_N_Gcd k 72 Tryz.f72 [.slice (.int .u32), .slice (.int .u32)] [.imm (.slice (.int .u32))] x = f_nat_N_Gcd k x.1 x.2 := by kernel_rfl
noncomputable def S_nat_N_Gcd : Vm.Spec := { ps := [.slice (.int .u32), .slice (.int .u32)], rs := [.imm (.slice (.int .u32))], f := fun x => f_nat_N_Gcd fuel x.1 x.2 }
theorem f_nat_N_Gcd_holds : Vm.Spec.holds Tryz.prog 72 S_nat_N_Gcd := by
 have hB : BodiesOk Tryz.prog E_nat_N_Gcd := bodies_none rfl
 have hBS : BodiesStepped E_nat_N_Gcd LL_nat_N_Gcd := bodies_stepped_none rfl
 have hS : SpecsOk Tryz.prog E_nat_N_Gcd := specs_ok (by exact ⟨⟨by kernel_rfl, f_nat_N_Div_holds⟩, trivial⟩)
 have hE : EOk Tryz.prog E_nat_N_Gcd := eok_te ok
 exact fn_sound (L := LL_nat_N_Gcd) hE hS hB (draws_ok hE hS (by kernel_rfl)) hBS (fn := Tryz.f72) (by kernel_rfl) (c := bodyOf Tryz.f72) (by kernel_rfl) (stepped_of (ls := [(1, l_nat_N_Gcd_1L)]) rfl rfl ⟨by kernel_rfl, fun _ => rfl, l_nat_N_Gcd_1_step, stepsI_end (by kernel_rfl)⟩) fun x r h => ⟨fuel, (f_nat_N_Gcd_run fuel x).trans h⟩
noncomputable def E_rat_Check : Env := { te := te, spec := [(59, S_nat_N_Cmp), (61, S_strings_CutPrefix), (62, S_strings_Cut), (63, S_nat_Read), (64, S_nat_Of), (71, S_nat_Check), (72, S_nat_N_Gcd)], body := [], flat := [106] }
def LL_rat_Check : Loops := []
def f_rat_Check (k : Nat) (a0 : ByteArray) : Option (Int) :=
 (f_strings_CutPrefix fuel a0 (⟨#[45]⟩ : ByteArray)).bind fun r1 =>
 (f_strings_Cut fuel r1.1 (⟨#[47]⟩ : ByteArray)).bind fun r2 =>
 (f_nat_Check fuel r2.1).bind fun r3 =>
 if r2.2.2 = true then
  (f_nat_Check fuel r2.2.1).bind fun r4 =>
  if (r3 == 5) = false then
   if (r4 == 5) = false then
    if r1.2 = true then
     if ((r2.1.toList == (⟨#[48]⟩ : ByteArray).toList)) = true then
      some 5
     else
      if (r3 != 0) = false then
       if (r4 != 0) = true then
        some 2
       else
        if r2.2.2 = true then
         if ((r2.2.1.toList == (⟨#[48]⟩ : ByteArray).toList)) = false then
          if ((r2.2.1.toList == (⟨#[49]⟩ : ByteArray).toList)) = false then
           (f_nat_Read fuel r2.1).bind fun r5 =>
           (f_nat_Read fuel r2.2.1).bind fun r6 =>
           (f_nat_N_Gcd fuel r5 r6).bind fun r7 =>
           (f_nat_Of fuel 1).bind fun r8 =>
           (f_nat_N_Cmp fuel r7 r8).bind fun r9 =>
           if (r9 != 0) = true then
            some 3
           else
            some 0
          else
           some 3
         else
          some 3
        else
         some 0
      else
       some 2
    else
     if (r3 != 0) = false then
      if (r4 != 0) = true then
       some 2
      else
       if r2.2.2 = true then
        if ((r2.2.1.toList == (⟨#[48]⟩ : ByteArray).toList)) = false then
         if ((r2.2.1.toList == (⟨#[49]⟩ : ByteArray).toList)) = false then
          (f_nat_Read fuel r2.1).bind fun r10 =>
          (f_nat_Read fuel r2.2.1).bind fun r11 =>
          (f_nat_N_Gcd fuel r10 r11).bind fun r12 =>
          (f_nat_Of fuel 1).bind fun r13 =>
          (f_nat_N_Cmp fuel r12 r13).bind fun r14 =>
          if (r14 != 0) = true then
           some 3
          else
           some 0
         else
          some 3
        else
         some 3
       else
        some 0
     else
      some 2
   else
    some 5
  else
   some 5
 else
  if (r3 == 5) = false then
   if r1.2 = true then
    if ((r2.1.toList == (⟨#[48]⟩ : ByteArray).toList)) = true then
     some 5
    else
     if (r3 != 0) = false then
      if r2.2.2 = true then
       if ((r2.2.1.toList == (⟨#[48]⟩ : ByteArray).toList)) = false then
        if ((r2.2.1.toList == (⟨#[49]⟩ : ByteArray).toList)) = false then
         (f_nat_Read fuel r2.1).bind fun r15 =>
         (f_nat_Read fuel r2.2.1).bind fun r16 =>
         (f_nat_N_Gcd fuel r15 r16).bind fun r17 =>
         (f_nat_Of fuel 1).bind fun r18 =>
         (f_nat_N_Cmp fuel r17 r18).bind fun r19 =>
         if (r19 != 0) = true then
          some 3
         else
          some 0
        else
         some 3
       else
        some 3
      else
       some 0
     else
      some 2
   else
    if (r3 != 0) = false then
     if r2.2.2 = true then
      if ((r2.2.1.toList == (⟨#[48]⟩ : ByteArray).toList)) = false then
       if ((r2.2.1.toList == (⟨#[49]⟩ : ByteArray).toList)) = false then
        (f_nat_Read fuel r2.1).bind fun r20 =>
        (f_nat_Read fuel r2.2.1).bind fun r21 =>
        (f_nat_N_Gcd fuel r20 r21).bind fun r22 =>
        (f_nat_Of fuel 1).bind fun r23 =>
        (f_nat_N_Cmp fuel r22 r23).bind fun r24 =>
        if (r24 != 0) = true then
         some 3
        else
         some 0
       else
        some 3
      else
       some 3
     else
      some 0
    else
     some 2
  else
   some 5
theorem f_rat_Check_run (k : Nat) (x : denL [.str]) : runFn E_rat_Check LL_rat_Check k 42 Tryz.f42 [.str] [.imm (.int .i64)] x = f_rat_Check k x := by kernel_rfl
noncomputable def S_rat_Check : Vm.Spec := { ps := [.str], rs := [.imm (.int .i64)], f := fun x => f_rat_Check fuel x }
theorem f_rat_Check_holds : Vm.Spec.holds Tryz.prog 42 S_rat_Check := by
 have hB : BodiesOk Tryz.prog E_rat_Check := bodies_none rfl
 have hBS : BodiesStepped E_rat_Check LL_rat_Check := bodies_stepped_none rfl
 have hS : SpecsOk Tryz.prog E_rat_Check := specs_ok (by exact ⟨⟨by kernel_rfl, f_nat_N_Cmp_holds⟩, ⟨by kernel_rfl, f_strings_CutPrefix_holds⟩, ⟨by kernel_rfl, f_strings_Cut_holds⟩, ⟨by kernel_rfl, f_nat_Read_holds⟩, ⟨by kernel_rfl, f_nat_Of_holds⟩, ⟨by kernel_rfl, f_nat_Check_holds⟩, ⟨by kernel_rfl, f_nat_N_Gcd_holds⟩, trivial⟩)
 have hE : EOk Tryz.prog E_rat_Check := eok_te ok
 exact fn_sound (L := LL_rat_Check) hE hS hB (draws_ok hE hS (by kernel_rfl)) hBS (fn := Tryz.f42) (by kernel_rfl) (c := bodyOf Tryz.f42) (by kernel_rfl) (stepped_none rfl) fun x r h => ⟨fuel, (f_rat_Check_run fuel x).trans h⟩
noncomputable def E_rat_CheckAll : Env := { te := te, spec := [(42, S_rat_Check)], body := [], flat := [106] }
def l_rat_CheckAll_2H : Ann := { slots := [(6, .one (.val (.slice .str))), (7, .one (.val (.int .i64))), (8, .one (.val (.int .i64)))], objs := [] }
def l_rat_CheckAll_2X : Ann := { slots := [], objs := [] }
def l_rat_CheckAll_2R : Ann := { slots := [(2, .one (.val (.int .i64)))], objs := [] }
def l_rat_CheckAll_2 : Nat → List ByteArray → Int → Int → Option (LR l_rat_CheckAll_2X l_rat_CheckAll_2R)
 | 0, _, _, _ => none
 | m + 1, s6, s7, s8 =>
  if decide (s8 < s7) = true then
   if (0 : Int) ≤ s8 then
    if s8 < s6.length then
     (f_rat_Check fuel (s6.getD s8.toNat ByteArray.empty)).bind fun r1 =>
     if (r1 != 0) = true then
      some (.ret (r1, ()))
     else
      l_rat_CheckAll_2 m s6 s7 (IntKind.i64.wrap (s8 + 1))
    else none
   else none
  else
   some (.exit ())
def l_rat_CheckAll_2L : LSpec := { h := l_rat_CheckAll_2H, x := l_rat_CheckAll_2X, r := l_rat_CheckAll_2R, xid := 0, rt := true, pins := [], f := fun k d => l_rat_CheckAll_2 k d.1 d.2.1 d.2.2.1 }
def LL_rat_CheckAll : Loops := [([32], [(2, l_rat_CheckAll_2L)])]
def f_rat_CheckAll (k : Nat) (a0 : List ByteArray) : Option (Int) :=
 match l_rat_CheckAll_2 k a0 (a0.length : Int) 0 with
 | none => none
 | some (.exit d1) =>
  some 0
 | some (.ret d1) =>
  some d1.1
theorem l_rat_CheckAll_2_step (m : Nat) (d : dens l_rat_CheckAll_2H.tys) : l_rat_CheckAll_2L.f (m + 1) d = round E_rat_CheckAll LL_rat_CheckAll m [32] 18 (loopN (bodyOf Tryz.f32) 0) l_rat_CheckAll_2L (l_rat_CheckAll_2L.f m) d := by kernel_rfl
theorem f_rat_CheckAll_run (k : Nat) (x : denL [.slice .str]) : runFn E_rat_CheckAll LL_rat_CheckAll k 32 Tryz.f32 [.slice .str] [.imm (.int .i64)] x = f_rat_CheckAll k x := by kernel_rfl
noncomputable def S_rat_CheckAll : Vm.Spec := { ps := [.slice .str], rs := [.imm (.int .i64)], f := fun x => f_rat_CheckAll fuel x }
theorem f_rat_CheckAll_holds : Vm.Spec.holds Tryz.prog 32 S_rat_CheckAll := by
 have hB : BodiesOk Tryz.prog E_rat_CheckAll := bodies_none rfl
 have hBS : BodiesStepped E_rat_CheckAll LL_rat_CheckAll := bodies_stepped_none rfl
 have hS : SpecsOk Tryz.prog E_rat_CheckAll := specs_ok (by exact ⟨⟨by kernel_rfl, f_rat_Check_holds⟩, trivial⟩)
 have hE : EOk Tryz.prog E_rat_CheckAll := eok_te ok
 exact fn_sound (L := LL_rat_CheckAll) hE hS hB (draws_ok hE hS (by kernel_rfl)) hBS (fn := Tryz.f32) (by kernel_rfl) (c := bodyOf Tryz.f32) (by kernel_rfl) (stepped_of (ls := [(2, l_rat_CheckAll_2L)]) rfl rfl ⟨by kernel_rfl, fun _ => rfl, l_rat_CheckAll_2_step, stepsI_end (by kernel_rfl)⟩) fun x r h => ⟨fuel, (f_rat_CheckAll_run fuel x).trans h⟩
noncomputable def E_rat_low : Env := { te := te, spec := [(59, S_nat_N_Cmp), (64, S_nat_Of), (72, S_nat_N_Gcd), (79, S_nat_N_Div)], body := [], flat := [106] }
def LL_rat_low : Loops := []
def f_rat_low (k : Nat) (a0 : Bool) (a1 : List Int) (a2 : List Int) : Option (Bool × ((List Int) × (List Int))) :=
 if ((a1.length : Int) == 0) = true then
  some (false, ([], []))
 else
  (f_nat_N_Gcd fuel a1 a2).bind fun r1 =>
  (f_nat_Of fuel 1).bind fun r2 =>
  (f_nat_N_Cmp fuel r1 r2).bind fun r3 =>
  if decide (r3 > 0) = true then
   (f_nat_N_Div fuel a1 r1).bind fun r4 =>
   (f_nat_N_Div fuel a2 r1).bind fun r5 =>
   some (a0, (r4.1, r5.1))
  else
   some (a0, (a1, a2))
theorem f_rat_low_run (k : Nat) (x : denL [.bool, .slice (.int .u32), .slice (.int .u32)]) : runFn E_rat_low LL_rat_low k 57 Tryz.f57 [.bool, .slice (.int .u32), .slice (.int .u32)] [.imm (.pair .bool (.pair (.slice (.int .u32)) (.slice (.int .u32))))] x = f_rat_low k x.1 x.2.1 x.2.2 := by kernel_rfl
noncomputable def S_rat_low : Vm.Spec := { ps := [.bool, .slice (.int .u32), .slice (.int .u32)], rs := [.imm (.pair .bool (.pair (.slice (.int .u32)) (.slice (.int .u32))))], f := fun x => f_rat_low fuel x.1 x.2.1 x.2.2 }
theorem f_rat_low_holds : Vm.Spec.holds Tryz.prog 57 S_rat_low := by
 have hB : BodiesOk Tryz.prog E_rat_low := bodies_none rfl
 have hBS : BodiesStepped E_rat_low LL_rat_low := bodies_stepped_none rfl
 have hS : SpecsOk Tryz.prog E_rat_low := specs_ok (by exact ⟨⟨by kernel_rfl, f_nat_N_Cmp_holds⟩, ⟨by kernel_rfl, f_nat_Of_holds⟩, ⟨by kernel_rfl, f_nat_N_Gcd_holds⟩, ⟨by kernel_rfl, f_nat_N_Div_holds⟩, trivial⟩)
 have hE : EOk Tryz.prog E_rat_low := eok_te ok
 exact fn_sound (L := LL_rat_low) hE hS hB (draws_ok hE hS (by kernel_rfl)) hBS (fn := Tryz.f57) (by kernel_rfl) (c := bodyOf Tryz.f57) (by kernel_rfl) (stepped_none rfl) fun x r h => ⟨fuel, (f_rat_low_run fuel x).trans h⟩
noncomputable def E_nat_N_Add : Env := { te := te, spec := [], body := [], flat := [106] }
def l_nat_N_Add_6H : Ann := { slots := [(1, .one (.val (.slice (.int .u32)))), (5, .one (.own 76 (.int .u32))), (6, .one (.val (.int .u32))), (20, .one (.val (.slice (.int .u32)))), (21, .one (.val (.int .i64))), (22, .one (.val (.int .i64)))], objs := [(76, .buf (.int .u32))] }
def l_nat_N_Add_6X : Ann := { slots := [(5, .one (.own 76 (.int .u32))), (6, .one (.val (.int .u32)))], objs := [(76, .buf (.int .u32))] }
def l_nat_N_Add_6R : Ann := { slots := [], objs := [] }
def l_nat_N_Add_6 : Nat → List Int → Int → List Int → Int → Int → List Int → Option (LR l_nat_N_Add_6X l_nat_N_Add_6R)
 | 0, _, _, _, _, _, _ => none
 | m + 1, s1, s6, s20, s21, s22, b76 =>
  if decide (s22 < s21) = true then
   if (0 : Int) ≤ s22 then
    if s22 < s20.length then
     if decide (s22 < (s1.length : Int)) = true then
      if (0 : Int) ≤ s22 then
       if s22 < s1.length then
        if (b76.length + 1) * 4 ≤ 140737488355328 then
         l_nat_N_Add_6 m s1 (IntKind.u32.wrap ((IntKind.u32.wrap ((IntKind.u32.wrap ((s20.getD s22.toNat 0) + s6)) + (s1.getD s22.toNat 0))).tdiv 1000000000)) s20 s21 (IntKind.i64.wrap (s22 + 1)) (b76 ++ [(IntKind.u32.wrap ((IntKind.u32.wrap ((s20.getD s22.toNat 0) + s6)) + (s1.getD s22.toNat 0))).tmod 1000000000])
        else none
       else none
      else none
     else
      if (b76.length + 1) * 4 ≤ 140737488355328 then
       l_nat_N_Add_6 m s1 (IntKind.u32.wrap ((IntKind.u32.wrap ((s20.getD s22.toNat 0) + s6)).tdiv 1000000000)) s20 s21 (IntKind.i64.wrap (s22 + 1)) (b76 ++ [(IntKind.u32.wrap ((s20.getD s22.toNat 0) + s6)).tmod 1000000000])
      else none
    else none
   else none
  else
   some (.exit (s6, b76, ()))
def l_nat_N_Add_6L : LSpec := { h := l_nat_N_Add_6H, x := l_nat_N_Add_6X, r := l_nat_N_Add_6R, xid := 0, rt := false, pins := [], f := fun k d => l_nat_N_Add_6 k d.1 d.2.1 d.2.2.1 d.2.2.2.1 d.2.2.2.2.1 d.2.2.2.2.2.1 }
def LL_nat_N_Add : Loops := [([58], [(6, l_nat_N_Add_6L)])]
def f_nat_N_Add (k : Nat) (a0 : List Int) (a1 : List Int) : Option (List Int) :=
 if decide ((a0.length : Int) < (a1.length : Int)) = true then
  if (0 : Int) ≤ IntKind.i64.wrap ((a1.length : Int) + 1) then
   if (IntKind.i64.wrap ((a1.length : Int) + 1)) * 4 ≤ 281474976710656 then
    match l_nat_N_Add_6 k a0 0 a1 (a1.length : Int) 0 (List.replicate 0 0) with
    | none => none
    | some (.exit d1) =>
     if decide (d1.1 > 0) = true then
      if (d1.2.1.length + 1) * 4 ≤ 140737488355328 then
       some (d1.2.1 ++ [d1.1])
      else none
     else
      some d1.2.1
    | some (.ret d1) =>
     none
   else none
  else none
 else
  if (0 : Int) ≤ IntKind.i64.wrap ((a0.length : Int) + 1) then
   if (IntKind.i64.wrap ((a0.length : Int) + 1)) * 4 ≤ 281474976710656 then
    match l_nat_N_Add_6 k a1 0 a0 (a0.length : Int) 0 (List.replicate 0 0) with
    | none => none
    | some (.exit d2) =>
     if decide (d2.1 > 0) = true then
      if (d2.2.1.length + 1) * 4 ≤ 140737488355328 then
       some (d2.2.1 ++ [d2.1])
      else none
     else
      some d2.2.1
    | some (.ret d2) =>
     none
   else none
  else none
theorem l_nat_N_Add_6_step (m : Nat) (d : dens l_nat_N_Add_6H.tys) : l_nat_N_Add_6L.f (m + 1) d = round E_nat_N_Add LL_nat_N_Add m [58] 55 (loopN (bodyOf Tryz.f58) 0) l_nat_N_Add_6L (l_nat_N_Add_6L.f m) d := by kernel_rfl
theorem f_nat_N_Add_run (k : Nat) (x : denL [.slice (.int .u32), .slice (.int .u32)]) : runFn E_nat_N_Add LL_nat_N_Add k 58 Tryz.f58 [.slice (.int .u32), .slice (.int .u32)] [.fresh (.int .u32)] x = f_nat_N_Add k x.1 x.2 := by kernel_rfl
noncomputable def S_nat_N_Add : Vm.Spec := { ps := [.slice (.int .u32), .slice (.int .u32)], rs := [.fresh (.int .u32)], f := fun x => f_nat_N_Add fuel x.1 x.2 }
theorem f_nat_N_Add_holds : Vm.Spec.holds Tryz.prog 58 S_nat_N_Add := by
 have hB : BodiesOk Tryz.prog E_nat_N_Add := bodies_none rfl
 have hBS : BodiesStepped E_nat_N_Add LL_nat_N_Add := bodies_stepped_none rfl
 have hS : SpecsOk Tryz.prog E_nat_N_Add := specs_ok (by exact trivial)
 have hE : EOk Tryz.prog E_nat_N_Add := eok_te ok
 exact fn_sound (L := LL_nat_N_Add) hE hS hB (draws_ok hE hS (by kernel_rfl)) hBS (fn := Tryz.f58) (by kernel_rfl) (c := bodyOf Tryz.f58) (by kernel_rfl) (stepped_of (ls := [(6, l_nat_N_Add_6L)]) rfl rfl ⟨by kernel_rfl, fun _ => rfl, l_nat_N_Add_6_step, stepsI_end (by kernel_rfl)⟩) fun x r h => ⟨fuel, (f_nat_N_Add_run fuel x).trans h⟩
noncomputable def E_rat_Q_Add : Env := { te := te, spec := [(55, S_nat_N_Mul), (56, S_rat_Q_whole), (57, S_rat_low), (58, S_nat_N_Add), (59, S_nat_N_Cmp), (60, S_nat_N_Sub)], body := [], flat := [106] }
def LL_rat_Q_Add : Loops := []
def f_rat_Q_Add (k : Nat) (a0 : Bool × ((List Int) × (List Int))) (a1 : Bool × ((List Int) × (List Int))) : Option (Bool × ((List Int) × (List Int))) :=
 if ((a0.2.1.length : Int) == 0) = true then
  some a1
 else
  if ((a1.2.1.length : Int) == 0) = true then
   some a0
  else
   (f_rat_Q_whole fuel a1).bind fun r1 =>
   (f_nat_N_Mul fuel a0.2.1 r1).bind fun r2 =>
   (f_rat_Q_whole fuel a0).bind fun r3 =>
   (f_nat_N_Mul fuel a1.2.1 r3).bind fun r4 =>
   (f_rat_Q_whole fuel a0).bind fun r5 =>
   (f_rat_Q_whole fuel a1).bind fun r6 =>
   (f_nat_N_Mul fuel r5 r6).bind fun r7 =>
   if (a0.1 == a1.1) = true then
    (f_nat_N_Add fuel r2 r4).bind fun r8 =>
    (f_rat_low fuel a0.1 r8 r7).bind fun r9 =>
    some r9
   else
    (f_nat_N_Cmp fuel r2 r4).bind fun r10 =>
    if decide (r10 ≥ 0) = true then
     (f_nat_N_Sub fuel r2 r4).bind fun r11 =>
     (f_rat_low fuel a0.1 r11 r7).bind fun r12 =>
     some r12
    else
     (f_nat_N_Sub fuel r4 r2).bind fun r13 =>
     (f_rat_low fuel a1.1 r13 r7).bind fun r14 =>
     some r14
theorem f_rat_Q_Add_run (k : Nat) (x : denL [.pair .bool (.pair (.slice (.int .u32)) (.slice (.int .u32))), .pair .bool (.pair (.slice (.int .u32)) (.slice (.int .u32)))]) : runFn E_rat_Q_Add LL_rat_Q_Add k 33 Tryz.f33 [.pair .bool (.pair (.slice (.int .u32)) (.slice (.int .u32))), .pair .bool (.pair (.slice (.int .u32)) (.slice (.int .u32)))] [.imm (.pair .bool (.pair (.slice (.int .u32)) (.slice (.int .u32))))] x = f_rat_Q_Add k x.1 x.2 := by kernel_rfl
noncomputable def S_rat_Q_Add : Vm.Spec := { ps := [.pair .bool (.pair (.slice (.int .u32)) (.slice (.int .u32))), .pair .bool (.pair (.slice (.int .u32)) (.slice (.int .u32)))], rs := [.imm (.pair .bool (.pair (.slice (.int .u32)) (.slice (.int .u32))))], f := fun x => f_rat_Q_Add fuel x.1 x.2 }
theorem f_rat_Q_Add_holds : Vm.Spec.holds Tryz.prog 33 S_rat_Q_Add := by
 have hB : BodiesOk Tryz.prog E_rat_Q_Add := bodies_none rfl
 have hBS : BodiesStepped E_rat_Q_Add LL_rat_Q_Add := bodies_stepped_none rfl
 have hS : SpecsOk Tryz.prog E_rat_Q_Add := specs_ok (by exact ⟨⟨by kernel_rfl, f_nat_N_Mul_holds⟩, ⟨by kernel_rfl, f_rat_Q_whole_holds⟩, ⟨by kernel_rfl, f_rat_low_holds⟩, ⟨by kernel_rfl, f_nat_N_Add_holds⟩, ⟨by kernel_rfl, f_nat_N_Cmp_holds⟩, ⟨by kernel_rfl, f_nat_N_Sub_holds⟩, trivial⟩)
 have hE : EOk Tryz.prog E_rat_Q_Add := eok_te ok
 exact fn_sound (L := LL_rat_Q_Add) hE hS hB (draws_ok hE hS (by kernel_rfl)) hBS (fn := Tryz.f33) (by kernel_rfl) (c := bodyOf Tryz.f33) (by kernel_rfl) (stepped_none rfl) fun x r h => ⟨fuel, (f_rat_Q_Add_run fuel x).trans h⟩
noncomputable def E_rat_In : Env := { te := te, spec := [(61, S_strings_CutPrefix), (62, S_strings_Cut), (63, S_nat_Read), (64, S_nat_Of)], body := [], flat := [106] }
def LL_rat_In : Loops := []
def f_rat_In (k : Nat) (a0 : ByteArray) : Option (Bool × ((List Int) × (List Int))) :=
 (f_strings_CutPrefix fuel a0 (⟨#[45]⟩ : ByteArray)).bind fun r1 =>
 (f_strings_Cut fuel r1.1 (⟨#[47]⟩ : ByteArray)).bind fun r2 =>
 (f_nat_Read fuel r2.1).bind fun r3 =>
 (f_nat_Of fuel 1).bind fun r4 =>
 if r2.2.2 = true then
  (f_nat_Read fuel r2.2.1).bind fun r5 =>
  some (r1.2, (r3, r5))
 else
  some (r1.2, (r3, r4))
theorem f_rat_In_run (k : Nat) (x : denL [.str]) : runFn E_rat_In LL_rat_In k 34 Tryz.f34 [.str] [.imm (.pair .bool (.pair (.slice (.int .u32)) (.slice (.int .u32))))] x = f_rat_In k x := by kernel_rfl
noncomputable def S_rat_In : Vm.Spec := { ps := [.str], rs := [.imm (.pair .bool (.pair (.slice (.int .u32)) (.slice (.int .u32))))], f := fun x => f_rat_In fuel x }
theorem f_rat_In_holds : Vm.Spec.holds Tryz.prog 34 S_rat_In := by
 have hB : BodiesOk Tryz.prog E_rat_In := bodies_none rfl
 have hBS : BodiesStepped E_rat_In LL_rat_In := bodies_stepped_none rfl
 have hS : SpecsOk Tryz.prog E_rat_In := specs_ok (by exact ⟨⟨by kernel_rfl, f_strings_CutPrefix_holds⟩, ⟨by kernel_rfl, f_strings_Cut_holds⟩, ⟨by kernel_rfl, f_nat_Read_holds⟩, ⟨by kernel_rfl, f_nat_Of_holds⟩, trivial⟩)
 have hE : EOk Tryz.prog E_rat_In := eok_te ok
 exact fn_sound (L := LL_rat_In) hE hS hB (draws_ok hE hS (by kernel_rfl)) hBS (fn := Tryz.f34) (by kernel_rfl) (c := bodyOf Tryz.f34) (by kernel_rfl) (stepped_none rfl) fun x r h => ⟨fuel, (f_rat_In_run fuel x).trans h⟩
noncomputable def E_rat_Sum : Env := { te := te, spec := [(31, S_rat_Told), (32, S_rat_CheckAll), (33, S_rat_Q_Add), (34, S_rat_In), (35, S_rat_Fits)], body := [], flat := [106] }
def l_rat_Sum_8H : Ann := { slots := [(5, .one (.fix (.pbox 20 0))), (16, .one (.val (.slice .str))), (17, .one (.val (.int .i64))), (18, .one (.val (.int .i64)))], objs := [(20, .box [.val .bool, .val (.slice (.int .u32)), .val (.slice (.int .u32))])] }
def l_rat_Sum_8X : Ann := { slots := [(5, .one (.fix (.pbox 20 0)))], objs := [(20, .box [.val .bool, .val (.slice (.int .u32)), .val (.slice (.int .u32))])] }
def l_rat_Sum_8R : Ann := { slots := [(2, .one (.val .str)), (3, .one (.val (.int .i64)))], objs := [(20, .box [.val .bool, .val (.slice (.int .u32)), .val (.slice (.int .u32))])] }
def l_rat_Sum_8 : Nat → List ByteArray → Int → Int → Bool → List Int → List Int → Option (LR l_rat_Sum_8X l_rat_Sum_8R)
 | 0, _, _, _, _, _, _ => none
 | m + 1, s16, s17, s18, b20_0, b20_1, b20_2 =>
  if decide (s18 < s17) = true then
   if (0 : Int) ≤ s18 then
    if s18 < s16.length then
     (f_rat_In fuel (s16.getD s18.toNat ByteArray.empty)).bind fun r1 =>
     (f_rat_Q_Add fuel (b20_0, (b20_1, b20_2)) r1).bind fun r2 =>
     (f_rat_Fits fuel r2).bind fun r3 =>
     if (r3 != 0) = true then
      some (.ret ((⟨#[]⟩ : ByteArray), 2, r2.1, r2.2.1, r2.2.2, ()))
     else
      l_rat_Sum_8 m s16 s17 (IntKind.i64.wrap (s18 + 1)) r2.1 r2.2.1 r2.2.2
    else none
   else none
  else
   some (.exit (b20_0, b20_1, b20_2, ()))
def l_rat_Sum_8L : LSpec := { h := l_rat_Sum_8H, x := l_rat_Sum_8X, r := l_rat_Sum_8R, xid := 0, rt := true, pins := [20], f := fun k d => l_rat_Sum_8 k d.1 d.2.1 d.2.2.1 d.2.2.2.1 d.2.2.2.2.1 d.2.2.2.2.2.1 }
def LL_rat_Sum : Loops := [([10], [(8, l_rat_Sum_8L)])]
def f_rat_Sum (k : Nat) (a0 : List ByteArray) : Option (ByteArray × Int) :=
 if decide ((a0.length : Int) > 256) = true then
  some ((⟨#[]⟩ : ByteArray), 2)
 else
  (f_rat_CheckAll fuel a0).bind fun r1 =>
  if (r1 != 0) = true then
   some ((⟨#[]⟩ : ByteArray), r1)
  else
   match l_rat_Sum_8 k a0 (a0.length : Int) 0 false [] [] with
   | none => none
   | some (.exit d2) =>
    (f_rat_Told fuel (d2.1, (d2.2.1, d2.2.2.1))).bind fun r3 =>
    some (r3.1, r3.2)
   | some (.ret d2) =>
    some (d2.1, d2.2.1)
theorem l_rat_Sum_8_step (m : Nat) (d : dens l_rat_Sum_8H.tys) : l_rat_Sum_8L.f (m + 1) d = round E_rat_Sum LL_rat_Sum m [10] 34 (loopN (bodyOf Tryz.f10) 0) l_rat_Sum_8L (l_rat_Sum_8L.f m) d := by kernel_rfl
theorem f_rat_Sum_run (k : Nat) (x : denL [.slice .str]) : runFn E_rat_Sum LL_rat_Sum k 10 Tryz.f10 [.slice .str] [.imm .str, .imm (.int .i64)] x = f_rat_Sum k x := by kernel_rfl
noncomputable def S_rat_Sum : Vm.Spec := { ps := [.slice .str], rs := [.imm .str, .imm (.int .i64)], f := fun x => f_rat_Sum fuel x }
theorem f_rat_Sum_holds : Vm.Spec.holds Tryz.prog 10 S_rat_Sum := by
 have hB : BodiesOk Tryz.prog E_rat_Sum := bodies_none rfl
 have hBS : BodiesStepped E_rat_Sum LL_rat_Sum := bodies_stepped_none rfl
 have hS : SpecsOk Tryz.prog E_rat_Sum := specs_ok (by exact ⟨⟨by kernel_rfl, f_rat_Told_holds⟩, ⟨by kernel_rfl, f_rat_CheckAll_holds⟩, ⟨by kernel_rfl, f_rat_Q_Add_holds⟩, ⟨by kernel_rfl, f_rat_In_holds⟩, ⟨by kernel_rfl, f_rat_Fits_holds⟩, trivial⟩)
 have hE : EOk Tryz.prog E_rat_Sum := eok_te ok
 exact fn_sound (L := LL_rat_Sum) hE hS hB (draws_ok hE hS (by kernel_rfl)) hBS (fn := Tryz.f10) (by kernel_rfl) (c := bodyOf Tryz.f10) (by kernel_rfl) (stepped_of (ls := [(8, l_rat_Sum_8L)]) rfl rfl ⟨by kernel_rfl, fun _ => rfl, l_rat_Sum_8_step, stepsI_end (by kernel_rfl)⟩) fun x r h => ⟨fuel, (f_rat_Sum_run fuel x).trans h⟩
noncomputable def E_rat_Q_Sign : Env := { te := te, spec := [], body := [], flat := [106] }
def LL_rat_Q_Sign : Loops := []
def f_rat_Q_Sign (k : Nat) (a0 : Bool × ((List Int) × (List Int))) : Option (Int) :=
 if ((a0.2.1.length : Int) == 0) = true then
  some 0
 else
  if a0.1 = true then
   some (-1)
  else
   some 1
theorem f_rat_Q_Sign_run (k : Nat) (x : denL [.pair .bool (.pair (.slice (.int .u32)) (.slice (.int .u32)))]) : runFn E_rat_Q_Sign LL_rat_Q_Sign k 36 Tryz.f36 [.pair .bool (.pair (.slice (.int .u32)) (.slice (.int .u32)))] [.imm (.int .i64)] x = f_rat_Q_Sign k x := by kernel_rfl
noncomputable def S_rat_Q_Sign : Vm.Spec := { ps := [.pair .bool (.pair (.slice (.int .u32)) (.slice (.int .u32)))], rs := [.imm (.int .i64)], f := fun x => f_rat_Q_Sign fuel x }
theorem f_rat_Q_Sign_holds : Vm.Spec.holds Tryz.prog 36 S_rat_Q_Sign := by
 have hB : BodiesOk Tryz.prog E_rat_Q_Sign := bodies_none rfl
 have hBS : BodiesStepped E_rat_Q_Sign LL_rat_Q_Sign := bodies_stepped_none rfl
 have hS : SpecsOk Tryz.prog E_rat_Q_Sign := specs_ok (by exact trivial)
 have hE : EOk Tryz.prog E_rat_Q_Sign := eok_te ok
 exact fn_sound (L := LL_rat_Q_Sign) hE hS hB (draws_ok hE hS (by kernel_rfl)) hBS (fn := Tryz.f36) (by kernel_rfl) (c := bodyOf Tryz.f36) (by kernel_rfl) (stepped_none rfl) fun x r h => ⟨fuel, (f_rat_Q_Sign_run fuel x).trans h⟩
noncomputable def E_rat_Odds : Env := { te := te, spec := [(10, S_rat_Sum), (34, S_rat_In), (36, S_rat_Q_Sign)], body := [], flat := [106] }
def l_rat_Odds_5H : Ann := { slots := [(15, .one (.val (.slice .str))), (16, .one (.val (.int .i64))), (17, .one (.val (.int .i64)))], objs := [] }
def l_rat_Odds_5X : Ann := { slots := [], objs := [] }
def l_rat_Odds_5R : Ann := { slots := [(2, .one (.val (.int .i64)))], objs := [] }
def l_rat_Odds_5 : Nat → List ByteArray → Int → Int → Option (LR l_rat_Odds_5X l_rat_Odds_5R)
 | 0, _, _, _ => none
 | m + 1, s15, s16, s17 =>
  if decide (s17 < s16) = true then
   if (0 : Int) ≤ s17 then
    if s17 < s15.length then
     (f_rat_In fuel (s15.getD s17.toNat ByteArray.empty)).bind fun r1 =>
     (f_rat_Q_Sign fuel r1).bind fun r2 =>
     if decide (r2 < 0) = true then
      some (.ret (4, ()))
     else
      l_rat_Odds_5 m s15 s16 (IntKind.i64.wrap (s17 + 1))
    else none
   else none
  else
   some (.exit ())
def l_rat_Odds_5L : LSpec := { h := l_rat_Odds_5H, x := l_rat_Odds_5X, r := l_rat_Odds_5R, xid := 0, rt := true, pins := [], f := fun k d => l_rat_Odds_5 k d.1 d.2.1 d.2.2.1 }
def LL_rat_Odds : Loops := [([11], [(5, l_rat_Odds_5L)])]
def f_rat_Odds (k : Nat) (a0 : List ByteArray) : Option (Int) :=
 (f_rat_Sum fuel a0).bind fun r1 =>
 if (r1.2 != 0) = true then
  some r1.2
 else
  match l_rat_Odds_5 k a0 (a0.length : Int) 0 with
  | none => none
  | some (.exit d2) =>
   if (!(r1.1.toList == (⟨#[49]⟩ : ByteArray).toList)) = true then
    some 3
   else
    some 0
  | some (.ret d2) =>
   some d2.1
theorem l_rat_Odds_5_step (m : Nat) (d : dens l_rat_Odds_5H.tys) : l_rat_Odds_5L.f (m + 1) d = round E_rat_Odds LL_rat_Odds m [11] 28 (loopN (bodyOf Tryz.f11) 0) l_rat_Odds_5L (l_rat_Odds_5L.f m) d := by kernel_rfl
theorem f_rat_Odds_run (k : Nat) (x : denL [.slice .str]) : runFn E_rat_Odds LL_rat_Odds k 11 Tryz.f11 [.slice .str] [.imm (.int .i64)] x = f_rat_Odds k x := by kernel_rfl
noncomputable def S_rat_Odds : Vm.Spec := { ps := [.slice .str], rs := [.imm (.int .i64)], f := fun x => f_rat_Odds fuel x }
theorem f_rat_Odds_holds : Vm.Spec.holds Tryz.prog 11 S_rat_Odds := by
 have hB : BodiesOk Tryz.prog E_rat_Odds := bodies_none rfl
 have hBS : BodiesStepped E_rat_Odds LL_rat_Odds := bodies_stepped_none rfl
 have hS : SpecsOk Tryz.prog E_rat_Odds := specs_ok (by exact ⟨⟨by kernel_rfl, f_rat_Sum_holds⟩, ⟨by kernel_rfl, f_rat_In_holds⟩, ⟨by kernel_rfl, f_rat_Q_Sign_holds⟩, trivial⟩)
 have hE : EOk Tryz.prog E_rat_Odds := eok_te ok
 exact fn_sound (L := LL_rat_Odds) hE hS hB (draws_ok hE hS (by kernel_rfl)) hBS (fn := Tryz.f11) (by kernel_rfl) (c := bodyOf Tryz.f11) (by kernel_rfl) (stepped_of (ls := [(5, l_rat_Odds_5L)]) rfl rfl ⟨by kernel_rfl, fun _ => rfl, l_rat_Odds_5_step, stepsI_end (by kernel_rfl)⟩) fun x r h => ⟨fuel, (f_rat_Odds_run fuel x).trans h⟩
noncomputable def E_tree_Sets : Env := { te := te, spec := [], body := [(49, Tryz.f49), (83, Tryz.f83)], flat := [106] }
def l_slices_IndexFunc_TreeNode__tree_Sets_2H : Ann := { slots := [(0, .one (.val (.slice (.pair (.int .i64) (.pair (.int .i64) (.pair (.int .i64) (.pair (.slice (.int .i64)) (.pair (.slice .str) .str)))))))), (1, .one (.fix (.clos 56))), (7, .one (.val (.int .i64))), (8, .one (.val (.int .i64)))], objs := [(56, .clos 83 [.fix (.pbox 12 0), .fix (.pbox 32 0)]), (12, .box [.val (.int .i64)]), (32, .box [.val (.int .i64)])] }
def l_slices_IndexFunc_TreeNode__tree_Sets_2X : Ann := { slots := [], objs := [(56, .clos 83 [.fix (.pbox 12 0), .fix (.pbox 32 0)]), (12, .box [.val (.int .i64)]), (32, .box [.val (.int .i64)])] }
def l_slices_IndexFunc_TreeNode__tree_Sets_2R : Ann := { slots := [(4, .one (.val (.int .i64)))], objs := [(56, .clos 83 [.fix (.pbox 12 0), .fix (.pbox 32 0)]), (12, .box [.val (.int .i64)]), (32, .box [.val (.int .i64)])] }
def l_tree_Sets_3H : Ann := { slots := [(0, .one (.val (.slice (.pair (.int .i64) (.pair (.int .i64) (.pair (.int .i64) (.pair (.slice (.int .i64)) (.pair (.slice .str) .str)))))))), (3, .one (.fix (.pbox 12 0))), (6, .one (.own 84 (.int .i64))), (7, .one (.own 120 (.int .i64))), (10, .one (.val (.int .i64)))], objs := [(12, .box [.val (.int .i64)]), (84, .buf (.int .i64)), (120, .buf (.int .i64))] }
def l_tree_Sets_3X : Ann := { slots := [(6, .one (.own 84 (.int .i64))), (7, .one (.own 120 (.int .i64)))], objs := [(84, .buf (.int .i64)), (120, .buf (.int .i64)), (12, .box [.val (.int .i64)])] }
def l_tree_Sets_3R : Ann := { slots := [], objs := [] }
def l_slices_IndexFunc_TreeNode__tree_Sets_2 : Nat → List (Int × (Int × (Int × ((List Int) × ((List ByteArray) × ByteArray))))) → Int → Int → Int → Int → Option (LR l_slices_IndexFunc_TreeNode__tree_Sets_2X l_slices_IndexFunc_TreeNode__tree_Sets_2R)
 | 0, _, _, _, _, _ => none
 | m + 1, s0, s7, s8, b12_0, b32_0 =>
  if decide (s8 < s7) = true then
   if (0 : Int) ≤ s8 then
    if s8 < s0.length then
     if ((s0.getD s8.toNat (0, (0, (0, ([], ([], ByteArray.empty)))))).1 == 2) = true then
      if (((s0.getD s8.toNat (0, (0, (0, ([], ([], ByteArray.empty)))))).2).1 == b12_0) = true then
       if ((((s0.getD s8.toNat (0, (0, (0, ([], ([], ByteArray.empty)))))).2).2).1 == b32_0) = true then
        some (.ret (s8, b12_0, b32_0, ()))
       else
        l_slices_IndexFunc_TreeNode__tree_Sets_2 m s0 s7 (IntKind.i64.wrap (s8 + 1)) b12_0 b32_0
      else
       l_slices_IndexFunc_TreeNode__tree_Sets_2 m s0 s7 (IntKind.i64.wrap (s8 + 1)) b12_0 b32_0
     else
      l_slices_IndexFunc_TreeNode__tree_Sets_2 m s0 s7 (IntKind.i64.wrap (s8 + 1)) b12_0 b32_0
    else none
   else none
  else
   some (.exit (b12_0, b32_0, ()))
def l_slices_IndexFunc_TreeNode__tree_Sets_2L : LSpec := { h := l_slices_IndexFunc_TreeNode__tree_Sets_2H, x := l_slices_IndexFunc_TreeNode__tree_Sets_2X, r := l_slices_IndexFunc_TreeNode__tree_Sets_2R, xid := 0, rt := true, pins := [56, 12, 32], f := fun k d => l_slices_IndexFunc_TreeNode__tree_Sets_2 k d.1 d.2.1 d.2.2.1 d.2.2.2.1 d.2.2.2.2.1 }
def l_tree_Sets_3 : Nat → List (Int × (Int × (Int × ((List Int) × ((List ByteArray) × ByteArray))))) → Int → Int → List Int → List Int → Option (LR l_tree_Sets_3X l_tree_Sets_3R)
 | 0, _, _, _, _, _ => none
 | m + 1, s0, s10, b12_0, b84, b120 =>
  if decide (s10 < 10) = true then
   match l_slices_IndexFunc_TreeNode__tree_Sets_2 m s0 (s0.length : Int) 0 b12_0 s10 with
   | none => none
   | some (.exit d1) =>
    l_tree_Sets_3 m s0 (IntKind.i64.wrap (s10 + 1)) d1.1 b84 b120
   | some (.ret d1) =>
    if decide (d1.1 ≥ 0) = true then
     if (0 : Int) ≤ d1.1 then
      if d1.1 < s0.length then
       if (b84.length + 1) * 8 ≤ 140737488355328 then
        if (b120.length + 1) * 8 ≤ 140737488355328 then
         l_tree_Sets_3 m s0 (IntKind.i64.wrap (s10 + 1)) d1.2.1 (b84 ++ [d1.2.2.1]) (b120 ++ [((((((s0.getD d1.1.toNat (0, (0, (0, ([], ([], ByteArray.empty)))))).2).2).2).1).length : Int)])
        else none
       else none
      else none
     else none
    else
     l_tree_Sets_3 m s0 (IntKind.i64.wrap (s10 + 1)) d1.2.1 b84 b120
  else
   some (.exit (b84, b120, b12_0, ()))
def l_tree_Sets_3L : LSpec := { h := l_tree_Sets_3H, x := l_tree_Sets_3X, r := l_tree_Sets_3R, xid := 0, rt := false, pins := [12], f := fun k d => l_tree_Sets_3 k d.1 d.2.1 d.2.2.1 d.2.2.2.1 d.2.2.2.2.1 }
def LL_tree_Sets : Loops := [([49, 68], [(2, l_slices_IndexFunc_TreeNode__tree_Sets_2L)]), ([68], [(3, l_tree_Sets_3L)])]
def f_tree_Sets (k : Nat) (a0 : List (Int × (Int × (Int × ((List Int) × ((List ByteArray) × ByteArray)))))) (a1 : Int) : Option (List Int × List Int) :=
 match l_tree_Sets_3 k a0 0 a1 [] [] with
 | none => none
 | some (.exit d1) =>
  some (d1.1, d1.2.1)
 | some (.ret d1) =>
  none
theorem l_slices_IndexFunc_TreeNode__tree_Sets_2_step (m : Nat) (d : dens l_slices_IndexFunc_TreeNode__tree_Sets_2H.tys) : l_slices_IndexFunc_TreeNode__tree_Sets_2L.f (m + 1) d = round E_tree_Sets LL_tree_Sets m [49, 68] 19 (loopN (bodyOf Tryz.f49) 0) l_slices_IndexFunc_TreeNode__tree_Sets_2L (l_slices_IndexFunc_TreeNode__tree_Sets_2L.f m) d := by kernel_rfl
theorem l_tree_Sets_3_step (m : Nat) (d : dens l_tree_Sets_3H.tys) : l_tree_Sets_3L.f (m + 1) d = round E_tree_Sets LL_tree_Sets m [68] 34 (loopN (bodyOf Tryz.f68) 0) l_tree_Sets_3L (l_tree_Sets_3L.f m) d := by kernel_rfl
theorem f_tree_Sets_run (k : Nat) (x : denL [.slice (.pair (.int .i64) (.pair (.int .i64) (.pair (.int .i64) (.pair (.slice (.int .i64)) (.pair (.slice .str) .str))))), .int .i64]) : runFn E_tree_Sets LL_tree_Sets k 68 Tryz.f68 [.slice (.pair (.int .i64) (.pair (.int .i64) (.pair (.int .i64) (.pair (.slice (.int .i64)) (.pair (.slice .str) .str))))), .int .i64] [.fresh (.int .i64), .fresh (.int .i64)] x = f_tree_Sets k x.1 x.2 := by kernel_rfl
noncomputable def S_tree_Sets : Vm.Spec := { ps := [.slice (.pair (.int .i64) (.pair (.int .i64) (.pair (.int .i64) (.pair (.slice (.int .i64)) (.pair (.slice .str) .str))))), .int .i64], rs := [.fresh (.int .i64), .fresh (.int .i64)], f := fun x => f_tree_Sets fuel x.1 x.2 }
theorem f_tree_Sets_holds : Vm.Spec.holds Tryz.prog 68 S_tree_Sets := by
 have hB : BodiesOk Tryz.prog E_tree_Sets := bodies_ok (by exact ⟨by kernel_rfl, by kernel_rfl, by kernel_rfl, by kernel_rfl, trivial⟩)
 have hBS : BodiesStepped E_tree_Sets LL_tree_Sets := by
  refine bodies_stepped ?_
  exact ⟨(stepped_paths [[68]] (by exact ⟨stepped_of (ls := [(2, l_slices_IndexFunc_TreeNode__tree_Sets_2L)]) rfl rfl ⟨by kernel_rfl, fun _ => rfl, l_slices_IndexFunc_TreeNode__tree_Sets_2_step, stepsI_end (by kernel_rfl)⟩,  trivial⟩) rfl), (fun _ => stepped_noloop (by kernel_rfl)),  trivial⟩
 have hS : SpecsOk Tryz.prog E_tree_Sets := specs_ok (by exact trivial)
 have hE : EOk Tryz.prog E_tree_Sets := eok_te ok
 exact fn_sound (L := LL_tree_Sets) hE hS hB (draws_ok hE hS (by kernel_rfl)) hBS (fn := Tryz.f68) (by kernel_rfl) (c := bodyOf Tryz.f68) (by kernel_rfl) (stepped_of (ls := [(3, l_tree_Sets_3L)]) rfl rfl ⟨by kernel_rfl, fun _ => rfl, l_tree_Sets_3_step, stepsI_end (by kernel_rfl)⟩) fun x r h => ⟨fuel, (f_tree_Sets_run fuel x).trans h⟩
noncomputable def E_recall_Strategy : Env := { te := te, spec := [(11, S_rat_Odds), (68, S_tree_Sets)], body := [], flat := [106] }
def l_recall_Strategy_5H : Ann := { slots := [(7, .one (.own 60 (.int .i64))), (8, .one (.own 61 (.int .i64))), (23, .one (.val (.slice (.pair (.int .i64) (.slice .str))))), (24, .one (.val (.int .i64))), (25, .one (.val (.int .i64)))], objs := [(60, .buf (.int .i64)), (61, .buf (.int .i64))] }
def l_recall_Strategy_5X : Ann := { slots := [], objs := [(60, .buf (.int .i64)), (61, .buf (.int .i64))] }
def l_recall_Strategy_5R : Ann := { slots := [(6, .one (.val (.int .i64)))], objs := [(60, .buf (.int .i64)), (61, .buf (.int .i64))] }
def l_recall_Strategy_5 : Nat → List (Int × (List ByteArray)) → Int → Int → List Int → List Int → Option (LR l_recall_Strategy_5X l_recall_Strategy_5R)
 | 0, _, _, _, _, _ => none
 | m + 1, s23, s24, s25, b60, b61 =>
  if decide (s25 < s24) = true then
   if (0 : Int) ≤ s25 then
    if s25 < s23.length then
     if (0 : Int) ≤ s25 then
      if s25 < b60.length then
       if ((s23.getD s25.toNat (0, [])).1 != b60.getD s25.toNat 0) = false then
        if (0 : Int) ≤ s25 then
         if s25 < b61.length then
          if ((((s23.getD s25.toNat (0, [])).2).length : Int) != b61.getD s25.toNat 0) = true then
           some (.ret (3, b60, b61, ()))
          else
           (f_rat_Odds fuel ((s23.getD s25.toNat (0, [])).2)).bind fun r1 =>
           if (r1 != 0) = true then
            some (.ret (r1, b60, b61, ()))
           else
            l_recall_Strategy_5 m s23 s24 (IntKind.i64.wrap (s25 + 1)) b60 b61
         else none
        else none
       else
        some (.ret (3, b60, b61, ()))
      else none
     else none
    else none
   else none
  else
   some (.exit (b60, b61, ()))
def l_recall_Strategy_5L : LSpec := { h := l_recall_Strategy_5H, x := l_recall_Strategy_5X, r := l_recall_Strategy_5R, xid := 0, rt := true, pins := [60, 61], f := fun k d => l_recall_Strategy_5 k d.1 d.2.1 d.2.2.1 d.2.2.2.1 d.2.2.2.2.1 }
def LL_recall_Strategy : Loops := [([39], [(5, l_recall_Strategy_5L)])]
def f_recall_Strategy (k : Nat) (a0 : List (Int × (Int × (Int × ((List Int) × ((List ByteArray) × ByteArray)))))) (a1 : Int) (a2 : List (Int × (List ByteArray))) : Option (Int) :=
 (f_tree_Sets fuel a0 a1).bind fun r1 =>
 if ((a2.length : Int) != (r1.1.length : Int)) = true then
  some 3
 else
  match l_recall_Strategy_5 k a2 (a2.length : Int) 0 r1.1 r1.2 with
  | none => none
  | some (.exit d2) =>
   some 0
  | some (.ret d2) =>
   some d2.1
theorem l_recall_Strategy_5_step (m : Nat) (d : dens l_recall_Strategy_5H.tys) : l_recall_Strategy_5L.f (m + 1) d = round E_recall_Strategy LL_recall_Strategy m [39] 54 (loopN (bodyOf Tryz.f39) 0) l_recall_Strategy_5L (l_recall_Strategy_5L.f m) d := by kernel_rfl
theorem f_recall_Strategy_run (k : Nat) (x : denL [.slice (.pair (.int .i64) (.pair (.int .i64) (.pair (.int .i64) (.pair (.slice (.int .i64)) (.pair (.slice .str) .str))))), .int .i64, .slice (.pair (.int .i64) (.slice .str))]) : runFn E_recall_Strategy LL_recall_Strategy k 39 Tryz.f39 [.slice (.pair (.int .i64) (.pair (.int .i64) (.pair (.int .i64) (.pair (.slice (.int .i64)) (.pair (.slice .str) .str))))), .int .i64, .slice (.pair (.int .i64) (.slice .str))] [.imm (.int .i64)] x = f_recall_Strategy k x.1 x.2.1 x.2.2 := by kernel_rfl
noncomputable def S_recall_Strategy : Vm.Spec := { ps := [.slice (.pair (.int .i64) (.pair (.int .i64) (.pair (.int .i64) (.pair (.slice (.int .i64)) (.pair (.slice .str) .str))))), .int .i64, .slice (.pair (.int .i64) (.slice .str))], rs := [.imm (.int .i64)], f := fun x => f_recall_Strategy fuel x.1 x.2.1 x.2.2 }
theorem f_recall_Strategy_holds : Vm.Spec.holds Tryz.prog 39 S_recall_Strategy := by
 have hB : BodiesOk Tryz.prog E_recall_Strategy := bodies_none rfl
 have hBS : BodiesStepped E_recall_Strategy LL_recall_Strategy := bodies_stepped_none rfl
 have hS : SpecsOk Tryz.prog E_recall_Strategy := specs_ok (by exact ⟨⟨by kernel_rfl, f_rat_Odds_holds⟩, ⟨by kernel_rfl, f_tree_Sets_holds⟩, trivial⟩)
 have hE : EOk Tryz.prog E_recall_Strategy := eok_te ok
 exact fn_sound (L := LL_recall_Strategy) hE hS hB (draws_ok hE hS (by kernel_rfl)) hBS (fn := Tryz.f39) (by kernel_rfl) (c := bodyOf Tryz.f39) (by kernel_rfl) (stepped_of (ls := [(5, l_recall_Strategy_5L)]) rfl rfl ⟨by kernel_rfl, fun _ => rfl, l_recall_Strategy_5_step, stepsI_end (by kernel_rfl)⟩) fun x r h => ⟨fuel, (f_recall_Strategy_run fuel x).trans h⟩
noncomputable def E_tree_children : Env := { te := te, spec := [], body := [], flat := [106] }
def l_tree_children_7H : Ann := { slots := [(0, .one (.val (.slice (.pair (.int .i64) (.pair (.int .i64) (.pair (.int .i64) (.pair (.slice (.int .i64)) (.pair (.slice .str) .str)))))))), (1, .one (.val (.int .i64))), (19, .one (.val (.slice (.int .i64)))), (20, .one (.val (.int .i64))), (21, .one (.val (.int .i64)))], objs := [] }
def l_tree_children_7X : Ann := { slots := [], objs := [] }
def l_tree_children_7R : Ann := { slots := [(4, .one (.val (.int .i64)))], objs := [] }
def l_tree_children_7 : Nat → List (Int × (Int × (Int × ((List Int) × ((List ByteArray) × ByteArray))))) → Int → List Int → Int → Int → Option (LR l_tree_children_7X l_tree_children_7R)
 | 0, _, _, _, _, _ => none
 | m + 1, s0, s1, s19, s20, s21 =>
  if decide (s21 < s20) = true then
   if (0 : Int) ≤ s21 then
    if s21 < s19.length then
     if decide (s19.getD s21.toNat 0 ≤ s1) = false then
      if decide (s19.getD s21.toNat 0 ≥ (s0.length : Int)) = true then
       some (.ret (3, ()))
      else
       l_tree_children_7 m s0 s1 s19 s20 (IntKind.i64.wrap (s21 + 1))
     else
      some (.ret (3, ()))
    else none
   else none
  else
   some (.exit ())
def l_tree_children_7L : LSpec := { h := l_tree_children_7H, x := l_tree_children_7X, r := l_tree_children_7R, xid := 0, rt := true, pins := [], f := fun k d => l_tree_children_7 k d.1 d.2.1 d.2.2.1 d.2.2.2.1 d.2.2.2.2.1 }
def LL_tree_children : Loops := [([87], [(7, l_tree_children_7L)])]
def f_tree_children (k : Nat) (a0 : List (Int × (Int × (Int × ((List Int) × ((List ByteArray) × ByteArray)))))) (a1 : Int) : Option (Int) :=
 if (0 : Int) ≤ a1 then
  if a1 < a0.length then
   if (((((((a0.getD a1.toNat (0, (0, (0, ([], ([], ByteArray.empty)))))).2).2).2).1).length : Int) == 0) = true then
    some 3
   else
    if decide (((((((a0.getD a1.toNat (0, (0, (0, ([], ([], ByteArray.empty)))))).2).2).2).1).length : Int) > 6) = true then
     some 2
    else
     match l_tree_children_7 k a0 a1 (((((a0.getD a1.toNat (0, (0, (0, ([], ([], ByteArray.empty)))))).2).2).2).1) ((((((a0.getD a1.toNat (0, (0, (0, ([], ([], ByteArray.empty)))))).2).2).2).1).length : Int) 0 with
     | none => none
     | some (.exit d1) =>
      some 0
     | some (.ret d1) =>
      some d1.1
  else none
 else none
theorem l_tree_children_7_step (m : Nat) (d : dens l_tree_children_7H.tys) : l_tree_children_7L.f (m + 1) d = round E_tree_children LL_tree_children m [87] 35 (loopN (bodyOf Tryz.f87) 0) l_tree_children_7L (l_tree_children_7L.f m) d := by kernel_rfl
theorem f_tree_children_run (k : Nat) (x : denL [.slice (.pair (.int .i64) (.pair (.int .i64) (.pair (.int .i64) (.pair (.slice (.int .i64)) (.pair (.slice .str) .str))))), .int .i64]) : runFn E_tree_children LL_tree_children k 87 Tryz.f87 [.slice (.pair (.int .i64) (.pair (.int .i64) (.pair (.int .i64) (.pair (.slice (.int .i64)) (.pair (.slice .str) .str))))), .int .i64] [.imm (.int .i64)] x = f_tree_children k x.1 x.2 := by kernel_rfl
noncomputable def S_tree_children : Vm.Spec := { ps := [.slice (.pair (.int .i64) (.pair (.int .i64) (.pair (.int .i64) (.pair (.slice (.int .i64)) (.pair (.slice .str) .str))))), .int .i64], rs := [.imm (.int .i64)], f := fun x => f_tree_children fuel x.1 x.2 }
theorem f_tree_children_holds : Vm.Spec.holds Tryz.prog 87 S_tree_children := by
 have hB : BodiesOk Tryz.prog E_tree_children := bodies_none rfl
 have hBS : BodiesStepped E_tree_children LL_tree_children := bodies_stepped_none rfl
 have hS : SpecsOk Tryz.prog E_tree_children := specs_ok (by exact trivial)
 have hE : EOk Tryz.prog E_tree_children := eok_te ok
 exact fn_sound (L := LL_tree_children) hE hS hB (draws_ok hE hS (by kernel_rfl)) hBS (fn := Tryz.f87) (by kernel_rfl) (c := bodyOf Tryz.f87) (by kernel_rfl) (stepped_of (ls := [(7, l_tree_children_7L)]) rfl rfl ⟨by kernel_rfl, fun _ => rfl, l_tree_children_7_step, stepsI_end (by kernel_rfl)⟩) fun x r h => ⟨fuel, (f_tree_children_run fuel x).trans h⟩
noncomputable def E_tree_node : Env := { te := te, spec := [(11, S_rat_Odds), (42, S_rat_Check), (87, S_tree_children)], body := [], flat := [106] }
def LL_tree_node : Loops := []
def f_tree_node (k : Nat) (a0 : List (Int × (Int × (Int × ((List Int) × ((List ByteArray) × ByteArray)))))) (a1 : Int) : Option (Int) :=
 if (0 : Int) ≤ a1 then
  if a1 < a0.length then
   if ((a0.getD a1.toNat (0, (0, (0, ([], ([], ByteArray.empty)))))).1 == 0) = true then
    if (((a0.getD a1.toNat (0, (0, (0, ([], ([], ByteArray.empty)))))).2).1 != 0) = false then
     if ((((a0.getD a1.toNat (0, (0, (0, ([], ([], ByteArray.empty)))))).2).2).1 != 0) = false then
      if decide (((((((a0.getD a1.toNat (0, (0, (0, ([], ([], ByteArray.empty)))))).2).2).2).1).length : Int) > 0) = false then
       if decide ((((((((a0.getD a1.toNat (0, (0, (0, ([], ([], ByteArray.empty)))))).2).2).2).2).1).length : Int) > 0) = true then
        some 3
       else
        (f_rat_Check fuel ((((((a0.getD a1.toNat (0, (0, (0, ([], ([], ByteArray.empty)))))).2).2).2).2).2)).bind fun r1 =>
        some r1
      else
       some 3
     else
      some 3
    else
     some 3
   else
    if ((a0.getD a1.toNat (0, (0, (0, ([], ([], ByteArray.empty)))))).1 == 1) = true then
     if (((a0.getD a1.toNat (0, (0, (0, ([], ([], ByteArray.empty)))))).2).1 != 0) = false then
      if ((((a0.getD a1.toNat (0, (0, (0, ([], ([], ByteArray.empty)))))).2).2).1 != 0) = false then
       if (!(((((((a0.getD a1.toNat (0, (0, (0, ([], ([], ByteArray.empty)))))).2).2).2).2).2).toList == (⟨#[]⟩ : ByteArray).toList)) = true then
        some 3
       else
        (f_tree_children fuel a0 a1).bind fun r2 =>
        if (r2 != 0) = true then
         some r2
        else
         if ((((((((a0.getD a1.toNat (0, (0, (0, ([], ([], ByteArray.empty)))))).2).2).2).2).1).length : Int) != ((((((a0.getD a1.toNat (0, (0, (0, ([], ([], ByteArray.empty)))))).2).2).2).1).length : Int)) = true then
          some 3
         else
          (f_rat_Odds fuel ((((((a0.getD a1.toNat (0, (0, (0, ([], ([], ByteArray.empty)))))).2).2).2).2).1)).bind fun r3 =>
          some r3
      else
       some 3
     else
      some 3
    else
     if ((a0.getD a1.toNat (0, (0, (0, ([], ([], ByteArray.empty)))))).1 == 2) = true then
      if decide ((((((((a0.getD a1.toNat (0, (0, (0, ([], ([], ByteArray.empty)))))).2).2).2).2).1).length : Int) > 0) = false then
       if (!(((((((a0.getD a1.toNat (0, (0, (0, ([], ([], ByteArray.empty)))))).2).2).2).2).2).toList == (⟨#[]⟩ : ByteArray).toList)) = true then
        some 3
       else
        if decide (((a0.getD a1.toNat (0, (0, (0, ([], ([], ByteArray.empty)))))).2).1 < 0) = false then
         if decide (((a0.getD a1.toNat (0, (0, (0, ([], ([], ByteArray.empty)))))).2).1 > 1) = false then
          if decide ((((a0.getD a1.toNat (0, (0, (0, ([], ([], ByteArray.empty)))))).2).2).1 < 0) = false then
           if decide ((((a0.getD a1.toNat (0, (0, (0, ([], ([], ByteArray.empty)))))).2).2).1 ≥ 10) = true then
            some 4
           else
            (f_tree_children fuel a0 a1).bind fun r4 =>
            some r4
          else
           some 4
         else
          some 4
        else
         some 4
      else
       some 3
     else
      some 1
  else none
 else none
theorem f_tree_node_run (k : Nat) (x : denL [.slice (.pair (.int .i64) (.pair (.int .i64) (.pair (.int .i64) (.pair (.slice (.int .i64)) (.pair (.slice .str) .str))))), .int .i64]) : runFn E_tree_node LL_tree_node k 76 Tryz.f76 [.slice (.pair (.int .i64) (.pair (.int .i64) (.pair (.int .i64) (.pair (.slice (.int .i64)) (.pair (.slice .str) .str))))), .int .i64] [.imm (.int .i64)] x = f_tree_node k x.1 x.2 := by kernel_rfl
noncomputable def S_tree_node : Vm.Spec := { ps := [.slice (.pair (.int .i64) (.pair (.int .i64) (.pair (.int .i64) (.pair (.slice (.int .i64)) (.pair (.slice .str) .str))))), .int .i64], rs := [.imm (.int .i64)], f := fun x => f_tree_node fuel x.1 x.2 }
theorem f_tree_node_holds : Vm.Spec.holds Tryz.prog 76 S_tree_node := by
 have hB : BodiesOk Tryz.prog E_tree_node := bodies_none rfl
 have hBS : BodiesStepped E_tree_node LL_tree_node := bodies_stepped_none rfl
 have hS : SpecsOk Tryz.prog E_tree_node := specs_ok (by exact ⟨⟨by kernel_rfl, f_rat_Odds_holds⟩, ⟨by kernel_rfl, f_rat_Check_holds⟩, ⟨by kernel_rfl, f_tree_children_holds⟩, trivial⟩)
 have hE : EOk Tryz.prog E_tree_node := eok_te ok
 exact fn_sound (L := LL_tree_node) hE hS hB (draws_ok hE hS (by kernel_rfl)) hBS (fn := Tryz.f76) (by kernel_rfl) (c := bodyOf Tryz.f76) (by kernel_rfl) (stepped_none rfl) fun x r h => ⟨fuel, (f_tree_node_run fuel x).trans h⟩
noncomputable def E_tree_Check : Env := { te := te, spec := [(76, S_tree_node)], body := [], flat := [106] }
def l_tree_Check_13H : Ann := { slots := [(3, .one (.own 92 (.int .i64))), (38, .one (.val (.slice (.int .i64)))), (39, .one (.val (.int .i64))), (40, .one (.val (.int .i64)))], objs := [(92, .buf (.int .i64))] }
def l_tree_Check_13X : Ann := { slots := [(3, .one (.own 92 (.int .i64)))], objs := [(92, .buf (.int .i64))] }
def l_tree_Check_13R : Ann := { slots := [], objs := [] }
def l_tree_Check_7H : Ann := { slots := [(0, .one (.val (.slice (.pair (.int .i64) (.pair (.int .i64) (.pair (.int .i64) (.pair (.slice (.int .i64)) (.pair (.slice .str) .str)))))))), (3, .one (.own 92 (.int .i64))), (24, .one (.val (.slice (.pair (.int .i64) (.pair (.int .i64) (.pair (.int .i64) (.pair (.slice (.int .i64)) (.pair (.slice .str) .str)))))))), (25, .one (.val (.int .i64))), (26, .one (.val (.int .i64)))], objs := [(92, .buf (.int .i64))] }
def l_tree_Check_7X : Ann := { slots := [(3, .one (.own 92 (.int .i64)))], objs := [(92, .buf (.int .i64))] }
def l_tree_Check_7R : Ann := { slots := [(2, .one (.val (.int .i64)))], objs := [(92, .buf (.int .i64))] }
def l_tree_Check_19H : Ann := { slots := [(52, .one (.own 92 (.int .i64))), (53, .one (.val (.int .i64))), (54, .one (.val (.int .i64)))], objs := [(92, .buf (.int .i64))] }
def l_tree_Check_19X : Ann := { slots := [], objs := [(92, .buf (.int .i64))] }
def l_tree_Check_19R : Ann := { slots := [(2, .one (.val (.int .i64)))], objs := [(92, .buf (.int .i64))] }
def l_tree_Check_28H : Ann := { slots := [(12, .one (.fix (.pbox 48 0))), (75, .one (.val (.slice (.pair (.int .i64) (.pair (.int .i64) (.pair (.int .i64) (.pair (.slice (.int .i64)) (.pair (.slice .str) .str)))))))), (76, .one (.val (.int .i64))), (77, .one (.val (.int .i64)))], objs := [(48, .box [.val (.int .i64), .val (.int .i64), .val (.int .i64), .val (.slice (.int .i64)), .val (.slice .str), .val .str])] }
def l_tree_Check_28X : Ann := { slots := [], objs := [(48, .box [.val (.int .i64), .val (.int .i64), .val (.int .i64), .val (.slice (.int .i64)), .val (.slice .str), .val .str])] }
def l_tree_Check_28R : Ann := { slots := [(2, .one (.val (.int .i64)))], objs := [(48, .box [.val (.int .i64), .val (.int .i64), .val (.int .i64), .val (.slice (.int .i64)), .val (.slice .str), .val .str])] }
def l_tree_Check_25H : Ann := { slots := [(0, .one (.val (.slice (.pair (.int .i64) (.pair (.int .i64) (.pair (.int .i64) (.pair (.slice (.int .i64)) (.pair (.slice .str) .str)))))))), (66, .one (.val (.slice (.pair (.int .i64) (.pair (.int .i64) (.pair (.int .i64) (.pair (.slice (.int .i64)) (.pair (.slice .str) .str)))))))), (67, .one (.val (.int .i64))), (68, .one (.val (.int .i64)))], objs := [] }
def l_tree_Check_25X : Ann := { slots := [], objs := [] }
def l_tree_Check_25R : Ann := { slots := [(2, .one (.val (.int .i64)))], objs := [] }
def l_tree_Check_13 : Nat → List Int → Int → Int → List Int → Option (LR l_tree_Check_13X l_tree_Check_13R)
 | 0, _, _, _, _ => none
 | m + 1, s38, s39, s40, b92 =>
  if decide (s40 < s39) = true then
   if (0 : Int) ≤ s40 then
    if s40 < s38.length then
     if (0 : Int) ≤ s38.getD s40.toNat 0 then
      if s38.getD s40.toNat 0 < b92.length then
       if (0 : Int) ≤ s38.getD s40.toNat 0 then
        if s38.getD s40.toNat 0 < b92.length then
         l_tree_Check_13 m s38 s39 (IntKind.i64.wrap (s40 + 1)) (b92.set ((s38.getD s40.toNat 0).toNat) (IntKind.i64.wrap ((b92.getD ((s38.getD s40.toNat 0).toNat) 0) + 1)))
        else none
       else none
      else none
     else none
    else none
   else none
  else
   some (.exit (b92, ()))
def l_tree_Check_13L : LSpec := { h := l_tree_Check_13H, x := l_tree_Check_13X, r := l_tree_Check_13R, xid := 2, rt := false, pins := [92], f := fun k d => l_tree_Check_13 k d.1 d.2.1 d.2.2.1 d.2.2.2.1 }
def l_tree_Check_7 : Nat → List (Int × (Int × (Int × ((List Int) × ((List ByteArray) × ByteArray))))) → List (Int × (Int × (Int × ((List Int) × ((List ByteArray) × ByteArray))))) → Int → Int → List Int → Option (LR l_tree_Check_7X l_tree_Check_7R)
 | 0, _, _, _, _, _ => none
 | m + 1, s0, s24, s25, s26, b92 =>
  if decide (s26 < s25) = true then
   if (0 : Int) ≤ s26 then
    if s26 < s24.length then
     (f_tree_node fuel s0 s26).bind fun r1 =>
     if (r1 != 0) = true then
      some (.ret (r1, b92, ()))
     else
      match l_tree_Check_13 m (((((s24.getD s26.toNat (0, (0, (0, ([], ([], ByteArray.empty)))))).2).2).2).1) ((((((s24.getD s26.toNat (0, (0, (0, ([], ([], ByteArray.empty)))))).2).2).2).1).length : Int) 0 b92 with
      | none => none
      | some (.exit d2) =>
       l_tree_Check_7 m s0 s24 s25 (IntKind.i64.wrap (s26 + 1)) d2.1
      | some (.ret d2) =>
       none
    else none
   else none
  else
   some (.exit (b92, ()))
def l_tree_Check_7L : LSpec := { h := l_tree_Check_7H, x := l_tree_Check_7X, r := l_tree_Check_7R, xid := 0, rt := true, pins := [92], f := fun k d => l_tree_Check_7 k d.1 d.2.1 d.2.2.1 d.2.2.2.1 d.2.2.2.2.1 }
def l_tree_Check_19 : Nat → Int → Int → List Int → Option (LR l_tree_Check_19X l_tree_Check_19R)
 | 0, _, _, _ => none
 | m + 1, s53, s54, b92 =>
  if decide (s54 < s53) = true then
   if (0 : Int) ≤ s54 then
    if s54 < b92.length then
     if decide (s54 > 0) = true then
      if (b92.getD s54.toNat 0 != 1) = true then
       some (.ret (3, b92, ()))
      else
       l_tree_Check_19 m s53 (IntKind.i64.wrap (s54 + 1)) b92
     else
      l_tree_Check_19 m s53 (IntKind.i64.wrap (s54 + 1)) b92
    else none
   else none
  else
   some (.exit (b92, ()))
def l_tree_Check_19L : LSpec := { h := l_tree_Check_19H, x := l_tree_Check_19X, r := l_tree_Check_19R, xid := 4, rt := true, pins := [92], f := fun k d => l_tree_Check_19 k d.1 d.2.1 d.2.2.1 }
def l_tree_Check_28 : Nat → List (Int × (Int × (Int × ((List Int) × ((List ByteArray) × ByteArray))))) → Int → Int → Int → Int → Int → List Int → List ByteArray → ByteArray → Option (LR l_tree_Check_28X l_tree_Check_28R)
 | 0, _, _, _, _, _, _, _, _, _ => none
 | m + 1, s75, s76, s77, b48_0, b48_1, b48_2, b48_3, b48_4, b48_5 =>
  if decide (s77 < s76) = true then
   if (0 : Int) ≤ s77 then
    if s77 < s75.length then
     if (b48_0 == 2) = true then
      if ((s75.getD s77.toNat (0, (0, (0, ([], ([], ByteArray.empty)))))).1 == 2) = true then
       if (b48_1 == ((s75.getD s77.toNat (0, (0, (0, ([], ([], ByteArray.empty)))))).2).1) = true then
        if (b48_2 == (((s75.getD s77.toNat (0, (0, (0, ([], ([], ByteArray.empty)))))).2).2).1) = true then
         if ((b48_3.length : Int) != ((((((s75.getD s77.toNat (0, (0, (0, ([], ([], ByteArray.empty)))))).2).2).2).1).length : Int)) = true then
          some (.ret (3, b48_0, b48_1, b48_2, b48_3, b48_4, b48_5, ()))
         else
          l_tree_Check_28 m s75 s76 (IntKind.i64.wrap (s77 + 1)) b48_0 b48_1 b48_2 b48_3 b48_4 b48_5
        else
         l_tree_Check_28 m s75 s76 (IntKind.i64.wrap (s77 + 1)) b48_0 b48_1 b48_2 b48_3 b48_4 b48_5
       else
        l_tree_Check_28 m s75 s76 (IntKind.i64.wrap (s77 + 1)) b48_0 b48_1 b48_2 b48_3 b48_4 b48_5
      else
       l_tree_Check_28 m s75 s76 (IntKind.i64.wrap (s77 + 1)) b48_0 b48_1 b48_2 b48_3 b48_4 b48_5
     else
      l_tree_Check_28 m s75 s76 (IntKind.i64.wrap (s77 + 1)) b48_0 b48_1 b48_2 b48_3 b48_4 b48_5
    else none
   else none
  else
   some (.exit (b48_0, b48_1, b48_2, b48_3, b48_4, b48_5, ()))
def l_tree_Check_28L : LSpec := { h := l_tree_Check_28H, x := l_tree_Check_28X, r := l_tree_Check_28R, xid := 8, rt := true, pins := [48], f := fun k d => l_tree_Check_28 k d.1 d.2.1 d.2.2.1 d.2.2.2.1 d.2.2.2.2.1 d.2.2.2.2.2.1 d.2.2.2.2.2.2.1 d.2.2.2.2.2.2.2.1 d.2.2.2.2.2.2.2.2.1 }
def l_tree_Check_25 : Nat → List (Int × (Int × (Int × ((List Int) × ((List ByteArray) × ByteArray))))) → List (Int × (Int × (Int × ((List Int) × ((List ByteArray) × ByteArray))))) → Int → Int → Option (LR l_tree_Check_25X l_tree_Check_25R)
 | 0, _, _, _, _ => none
 | m + 1, s0, s66, s67, s68 =>
  if decide (s68 < s67) = true then
   if (0 : Int) ≤ s68 then
    if s68 < s66.length then
     if (0 : Int) ≤ s68 then
      if s68 ≤ s0.length then
       match l_tree_Check_28 m ((s0.take s68.toNat).drop 0) (((s0.take s68.toNat).drop 0).length : Int) 0 ((s66.getD s68.toNat (0, (0, (0, ([], ([], ByteArray.empty)))))).1) (((s66.getD s68.toNat (0, (0, (0, ([], ([], ByteArray.empty)))))).2).1) ((((s66.getD s68.toNat (0, (0, (0, ([], ([], ByteArray.empty)))))).2).2).1) (((((s66.getD s68.toNat (0, (0, (0, ([], ([], ByteArray.empty)))))).2).2).2).1) ((((((s66.getD s68.toNat (0, (0, (0, ([], ([], ByteArray.empty)))))).2).2).2).2).1) ((((((s66.getD s68.toNat (0, (0, (0, ([], ([], ByteArray.empty)))))).2).2).2).2).2) with
       | none => none
       | some (.exit d1) =>
        l_tree_Check_25 m s0 s66 s67 (IntKind.i64.wrap (s68 + 1))
       | some (.ret d1) =>
        some (.ret (d1.1, ()))
      else none
     else none
    else none
   else none
  else
   some (.exit ())
def l_tree_Check_25L : LSpec := { h := l_tree_Check_25H, x := l_tree_Check_25X, r := l_tree_Check_25R, xid := 6, rt := true, pins := [], f := fun k d => l_tree_Check_25 k d.1 d.2.1 d.2.2.1 d.2.2.2.1 }
def LL_tree_Check : Loops := [([48], [(7, l_tree_Check_7L), (13, l_tree_Check_13L), (19, l_tree_Check_19L), (25, l_tree_Check_25L), (28, l_tree_Check_28L)])]
def f_tree_Check (k : Nat) (a0 : List (Int × (Int × (Int × ((List Int) × ((List ByteArray) × ByteArray)))))) : Option (Int) :=
 if decide ((a0.length : Int) > 120) = true then
  some 2
 else
  if ((a0.length : Int) == 0) = true then
   some 8
  else
   if (0 : Int) ≤ (a0.length : Int) then
    if (a0.length : Int) ≤ (a0.length : Int) then
     if (a0.length : Int) * 8 ≤ 281474976710656 then
      match l_tree_Check_7 k a0 a0 (a0.length : Int) 0 (List.replicate ((a0.length : Int).toNat) 0) with
      | none => none
      | some (.exit d1) =>
       match l_tree_Check_19 k (d1.1.length : Int) 0 d1.1 with
       | none => none
       | some (.exit d2) =>
        match l_tree_Check_25 k a0 a0 (a0.length : Int) 0 with
        | none => none
        | some (.exit d3) =>
         some 0
        | some (.ret d3) =>
         some d3.1
       | some (.ret d2) =>
        some d2.1
      | some (.ret d1) =>
       some d1.1
     else none
    else none
   else none
theorem l_tree_Check_13_step (m : Nat) (d : dens l_tree_Check_13H.tys) : l_tree_Check_13L.f (m + 1) d = round E_tree_Check LL_tree_Check m [48] 114 (loopN (bodyOf Tryz.f48) 1) l_tree_Check_13L (l_tree_Check_13L.f m) d := by kernel_rfl
theorem l_tree_Check_7_step (m : Nat) (d : dens l_tree_Check_7H.tys) : l_tree_Check_7L.f (m + 1) d = round E_tree_Check LL_tree_Check m [48] 114 (loopN (bodyOf Tryz.f48) 0) l_tree_Check_7L (l_tree_Check_7L.f m) d := by kernel_rfl
theorem l_tree_Check_19_step (m : Nat) (d : dens l_tree_Check_19H.tys) : l_tree_Check_19L.f (m + 1) d = round E_tree_Check LL_tree_Check m [48] 114 (loopN (bodyOf Tryz.f48) 2) l_tree_Check_19L (l_tree_Check_19L.f m) d := by kernel_rfl
theorem l_tree_Check_28_step (m : Nat) (d : dens l_tree_Check_28H.tys) : l_tree_Check_28L.f (m + 1) d = round E_tree_Check LL_tree_Check m [48] 114 (loopN (bodyOf Tryz.f48) 4) l_tree_Check_28L (l_tree_Check_28L.f m) d := by kernel_rfl
theorem l_tree_Check_25_step (m : Nat) (d : dens l_tree_Check_25H.tys) : l_tree_Check_25L.f (m + 1) d = round E_tree_Check LL_tree_Check m [48] 114 (loopN (bodyOf Tryz.f48) 3) l_tree_Check_25L (l_tree_Check_25L.f m) d := by kernel_rfl
theorem f_tree_Check_run (k : Nat) (x : denL [.slice (.pair (.int .i64) (.pair (.int .i64) (.pair (.int .i64) (.pair (.slice (.int .i64)) (.pair (.slice .str) .str)))))]) : runFn E_tree_Check LL_tree_Check k 48 Tryz.f48 [.slice (.pair (.int .i64) (.pair (.int .i64) (.pair (.int .i64) (.pair (.slice (.int .i64)) (.pair (.slice .str) .str)))))] [.imm (.int .i64)] x = f_tree_Check k x := by kernel_rfl
noncomputable def S_tree_Check : Vm.Spec := { ps := [.slice (.pair (.int .i64) (.pair (.int .i64) (.pair (.int .i64) (.pair (.slice (.int .i64)) (.pair (.slice .str) .str)))))], rs := [.imm (.int .i64)], f := fun x => f_tree_Check fuel x }
theorem f_tree_Check_holds : Vm.Spec.holds Tryz.prog 48 S_tree_Check := by
 have hB : BodiesOk Tryz.prog E_tree_Check := bodies_none rfl
 have hBS : BodiesStepped E_tree_Check LL_tree_Check := bodies_stepped_none rfl
 have hS : SpecsOk Tryz.prog E_tree_Check := specs_ok (by exact ⟨⟨by kernel_rfl, f_tree_node_holds⟩, trivial⟩)
 have hE : EOk Tryz.prog E_tree_Check := eok_te ok
 exact fn_sound (L := LL_tree_Check) hE hS hB (draws_ok hE hS (by kernel_rfl)) hBS (fn := Tryz.f48) (by kernel_rfl) (c := bodyOf Tryz.f48) (by kernel_rfl) (stepped_of (ls := [(7, l_tree_Check_7L), (13, l_tree_Check_13L), (19, l_tree_Check_19L), (25, l_tree_Check_25L), (28, l_tree_Check_28L)]) rfl rfl ⟨by kernel_rfl, fun _ => rfl, l_tree_Check_7_step, by kernel_rfl, fun _ => rfl, l_tree_Check_13_step, by kernel_rfl, fun _ => rfl, l_tree_Check_19_step, by kernel_rfl, fun _ => rfl, l_tree_Check_25_step, by kernel_rfl, fun _ => rfl, l_tree_Check_28_step, stepsI_end (by kernel_rfl)⟩) fun x r h => ⟨fuel, (f_tree_Check_run fuel x).trans h⟩
end Go.Proofs.YtbcooccafbccdaaGreatDoor
