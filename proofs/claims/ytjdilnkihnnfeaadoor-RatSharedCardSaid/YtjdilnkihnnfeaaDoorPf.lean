/- Pure functions, printed by a program of this session out of the program. -/
import Derived.Test.YtjdilnkihnnfeaaDoorVmD
import Derived.Test.YtjdilnkihnnfeaaDoorSh
set_option linter.unusedVariables false
namespace Go.Proofs.YtjdilnkihnnfeaaDoor
open Go Vm Go.Proofs
def te : TE := [(2, ⟨.int .i64, .sc, 8⟩),
  (3, ⟨.int .i64, .sc, 8⟩),
  (4, ⟨.bool, .sc, 1⟩),
  (5, ⟨.int .u8, .sc, 1⟩),
  (9, ⟨.str, .sc, 16⟩),
  (22, ⟨.str, .sc, 16⟩),
  (24, ⟨.int .i64, .sc, 8⟩),
  (26, ⟨.slice .str, .slice 22, 24⟩),
  (49, ⟨.slice (.int .u32), .slice 79, 24⟩),
  (51, ⟨.pair .bool (.pair (.slice (.int .u32)) (.slice (.int .u32))), .st [4, 49, 49], 56⟩),
  (52, ⟨.slice (.int .i64), .slice 24, 24⟩),
  (78, ⟨.slice (.int .u8), .slice 5, 24⟩),
  (79, ⟨.int .u32, .sc, 4⟩),
  (80, ⟨.int .u64, .sc, 8⟩),
  (81, ⟨.arr 9 (.int .u8), .ar 9 5, 9⟩)]
theorem ok : EOk Tryd.prog ⟨te, [], []⟩ := eok_of (by kernel_rfl)
/-! strings.trimLeftByte -/
noncomputable def E_strings_trimLeftByte : Env := { te := te, spec := [], body := [] }
def l_strings_trimLeftByte_1H : Ann := { slots := [(0, .one (.val .str)), (1, .one (.val (.int .u8)))], objs := [] }
def l_strings_trimLeftByte_1X : Ann := { slots := [(0, .one (.val .str))], objs := [] }
def l_strings_trimLeftByte_1R : Ann := { slots := [], objs := [] }
def l_strings_trimLeftByte_1 : Nat → ByteArray → Int → Option (LR l_strings_trimLeftByte_1X l_strings_trimLeftByte_1R)
  | 0, _, _ => none
  | m + 1, s0, s1 =>
    if decide ((s0.size : Int) > 0) = true then
      if (0 : Int) < (s0.size : Int) then
        if (((s0.data.getD 0 0).toNat : Int) == s1) = true then
          if (1 : Int) ≤ s0.size then
            l_strings_trimLeftByte_1 m (s0.extract 1 s0.size) s1
          else none
        else
          some (.exit (s0, ()))
      else none
    else
      some (.exit (s0, ()))
def l_strings_trimLeftByte_1L : LSpec := { h := l_strings_trimLeftByte_1H, x := l_strings_trimLeftByte_1X, r := l_strings_trimLeftByte_1R, xid := 0, rt := false, pins := [], f := fun k d => l_strings_trimLeftByte_1 k d.1 d.2.1 }
def LL_strings_trimLeftByte : Loops := [([69], [(1, l_strings_trimLeftByte_1L)])]
def f_strings_trimLeftByte (k : Nat) (a0 : ByteArray) (a1 : Int) : Option (ByteArray) :=
  match l_strings_trimLeftByte_1 k a0 a1 with
  | none => none
  | some (.exit d1) =>
    some d1.1
  | some (.ret d1) =>
    none
theorem l_strings_trimLeftByte_1_step (m : Nat) (d : dens l_strings_trimLeftByte_1H.tys) : l_strings_trimLeftByte_1L.f (m + 1) d = round E_strings_trimLeftByte LL_strings_trimLeftByte m [69] 17 (loopN (bodyOf Tryd.f69) 0) l_strings_trimLeftByte_1L (l_strings_trimLeftByte_1L.f m) d := by kernel_rfl
theorem f_strings_trimLeftByte_run (k : Nat) (x : denL [.str, .int .u8]) : runFn E_strings_trimLeftByte LL_strings_trimLeftByte k 69 Tryd.f69 [.str, .int .u8] [.imm .str] x = f_strings_trimLeftByte k x.1 x.2 := by kernel_rfl
noncomputable def S_strings_trimLeftByte : Vm.Spec := { ps := [.str, .int .u8], rs := [.imm .str], f := fun x => f_strings_trimLeftByte fuel x.1 x.2 }
theorem f_strings_trimLeftByte_holds : Vm.Spec.holds Tryd.prog 69 S_strings_trimLeftByte := by
  have hB : BodiesOk Tryd.prog E_strings_trimLeftByte := bodies_none rfl
  have hBS : BodiesStepped E_strings_trimLeftByte LL_strings_trimLeftByte := bodies_stepped_none rfl
  have hS : SpecsOk Tryd.prog E_strings_trimLeftByte := specs_ok (by exact trivial)
  have hE : EOk Tryd.prog E_strings_trimLeftByte := eok_te ok
  exact fn_sound (L := LL_strings_trimLeftByte) hE hS hB (draws_ok hE hS (by kernel_rfl)) hBS (fn := Tryd.f69) (by kernel_rfl) (c := bodyOf Tryd.f69) (by kernel_rfl) (stepped_of (ls := [(1, l_strings_trimLeftByte_1L)]) rfl rfl ⟨by kernel_rfl, fun _ => rfl, l_strings_trimLeftByte_1_step, stepsI_end (by kernel_rfl)⟩) fun x r h => ⟨fuel, (f_strings_trimLeftByte_run fuel x).trans h⟩

/-! strings.TrimLeft -/
noncomputable def E_strings_TrimLeft : Env := { te := te, spec := [(69, S_strings_trimLeftByte)], body := [] }
def LL_strings_TrimLeft : Loops := []
def f_strings_TrimLeft (k : Nat) (a0 : ByteArray) (a1 : ByteArray) : Option (ByteArray) :=
  if ((a0.toList == (⟨#[]⟩ : ByteArray).toList)) = false then
    if ((a1.toList == (⟨#[]⟩ : ByteArray).toList)) = true then
      some a0
    else
      if ((a1.size : Int) == 1) = true then
        if (0 : Int) < (a1.size : Int) then
          if decide (((a1.data.getD 0 0).toNat : Int) < 128) = true then
            if (0 : Int) < (a1.size : Int) then
              (f_strings_trimLeftByte fuel a0 ((a1.data.getD 0 0).toNat : Int)).bind fun r1 =>
              some r1
            else none
          else none
        else none
      else none
  else
    some a0
theorem f_strings_TrimLeft_run (k : Nat) (x : denL [.str, .str]) : runFn E_strings_TrimLeft LL_strings_TrimLeft k 63 Tryd.f63 [.str, .str] [.imm .str] x = f_strings_TrimLeft k x.1 x.2 := by kernel_rfl
noncomputable def S_strings_TrimLeft : Vm.Spec := { ps := [.str, .str], rs := [.imm .str], f := fun x => f_strings_TrimLeft fuel x.1 x.2 }
theorem f_strings_TrimLeft_holds : Vm.Spec.holds Tryd.prog 63 S_strings_TrimLeft := by
  have hB : BodiesOk Tryd.prog E_strings_TrimLeft := bodies_none rfl
  have hBS : BodiesStepped E_strings_TrimLeft LL_strings_TrimLeft := bodies_stepped_none rfl
  have hS : SpecsOk Tryd.prog E_strings_TrimLeft := specs_ok (by exact ⟨⟨by kernel_rfl, f_strings_trimLeftByte_holds⟩, trivial⟩)
  have hE : EOk Tryd.prog E_strings_TrimLeft := eok_te ok
  exact fn_sound (L := LL_strings_TrimLeft) hE hS hB (draws_ok hE hS (by kernel_rfl)) hBS (fn := Tryd.f63) (by kernel_rfl) (c := bodyOf Tryd.f63) (by kernel_rfl) (stepped_none rfl) fun x r h => ⟨fuel, (f_strings_TrimLeft_run fuel x).trans h⟩

/-! gamehall/gamehallkeep2.fine -/
noncomputable def E_gamehallkeep2_fine : Env := { te := te, spec := [], body := [(32, Tryd.f32), (33, Tryd.f33), (56, Tryd.f56)] }
def l_slices_IndexFunc_Errno__slices_ContainsFunc_Errno__gamehallkeep2_fine_2H : Ann := { slots := [(0, .one (.val (.slice (.int .i64)))), (1, .one (.fix (.func 33))), (7, .one (.val (.int .i64))), (8, .one (.val (.int .i64)))], objs := [] }
def l_slices_IndexFunc_Errno__slices_ContainsFunc_Errno__gamehallkeep2_fine_2X : Ann := { slots := [], objs := [] }
def l_slices_IndexFunc_Errno__slices_ContainsFunc_Errno__gamehallkeep2_fine_2R : Ann := { slots := [(4, .one (.val (.int .i64)))], objs := [] }
def l_slices_IndexFunc_Errno__slices_ContainsFunc_Errno__gamehallkeep2_fine_2 : Nat → List Int → Int → Int → Option (LR l_slices_IndexFunc_Errno__slices_ContainsFunc_Errno__gamehallkeep2_fine_2X l_slices_IndexFunc_Errno__slices_ContainsFunc_Errno__gamehallkeep2_fine_2R)
  | 0, _, _, _ => none
  | m + 1, s0, s7, s8 =>
    if decide (s8 < s7) = true then
      if (0 : Int) ≤ s8 then
        if s8 < s0.length then
          if (s0.getD s8.toNat 0 != 0) = true then
            some (.ret (s8, ()))
          else
            l_slices_IndexFunc_Errno__slices_ContainsFunc_Errno__gamehallkeep2_fine_2 m s0 s7 (IntKind.i64.wrap (s8 + 1))
        else none
      else none
    else
      some (.exit ())
def l_slices_IndexFunc_Errno__slices_ContainsFunc_Errno__gamehallkeep2_fine_2L : LSpec := { h := l_slices_IndexFunc_Errno__slices_ContainsFunc_Errno__gamehallkeep2_fine_2H, x := l_slices_IndexFunc_Errno__slices_ContainsFunc_Errno__gamehallkeep2_fine_2X, r := l_slices_IndexFunc_Errno__slices_ContainsFunc_Errno__gamehallkeep2_fine_2R, xid := 0, rt := true, pins := [], f := fun k d => l_slices_IndexFunc_Errno__slices_ContainsFunc_Errno__gamehallkeep2_fine_2 k d.1 d.2.1 d.2.2.1 }
def LL_gamehallkeep2_fine : Loops := [([56, 32, 13], [(2, l_slices_IndexFunc_Errno__slices_ContainsFunc_Errno__gamehallkeep2_fine_2L)])]
def f_gamehallkeep2_fine (k : Nat) (a0 : List Int) : Option (Bool) :=
  match l_slices_IndexFunc_Errno__slices_ContainsFunc_Errno__gamehallkeep2_fine_2 k a0 (a0.length : Int) 0 with
  | none => none
  | some (.exit d1) =>
    some true
  | some (.ret d1) =>
    some (!(decide (d1.1 ≥ 0)))
theorem l_slices_IndexFunc_Errno__slices_ContainsFunc_Errno__gamehallkeep2_fine_2_step (m : Nat) (d : dens l_slices_IndexFunc_Errno__slices_ContainsFunc_Errno__gamehallkeep2_fine_2H.tys) : l_slices_IndexFunc_Errno__slices_ContainsFunc_Errno__gamehallkeep2_fine_2L.f (m + 1) d = round E_gamehallkeep2_fine LL_gamehallkeep2_fine m [56, 32, 13] 19 (loopN (bodyOf Tryd.f56) 0) l_slices_IndexFunc_Errno__slices_ContainsFunc_Errno__gamehallkeep2_fine_2L (l_slices_IndexFunc_Errno__slices_ContainsFunc_Errno__gamehallkeep2_fine_2L.f m) d := by kernel_rfl
theorem f_gamehallkeep2_fine_run (k : Nat) (x : denL [.slice (.int .i64)]) : runFn E_gamehallkeep2_fine LL_gamehallkeep2_fine k 13 Tryd.f13 [.slice (.int .i64)] [.imm .bool] x = f_gamehallkeep2_fine k x := by kernel_rfl
noncomputable def S_gamehallkeep2_fine : Vm.Spec := { ps := [.slice (.int .i64)], rs := [.imm .bool], f := fun x => f_gamehallkeep2_fine fuel x }
theorem f_gamehallkeep2_fine_holds : Vm.Spec.holds Tryd.prog 13 S_gamehallkeep2_fine := by
  have hB : BodiesOk Tryd.prog E_gamehallkeep2_fine := bodies_ok (by exact ⟨by kernel_rfl, by kernel_rfl, by kernel_rfl, by kernel_rfl, by kernel_rfl, by kernel_rfl, trivial⟩)
  have hBS : BodiesStepped E_gamehallkeep2_fine LL_gamehallkeep2_fine := by
    refine bodies_stepped ?_
    exact ⟨(fun _ => stepped_noloop (by kernel_rfl)), (fun _ => stepped_noloop (by kernel_rfl)), (stepped_paths [[32, 13]] (by exact ⟨stepped_of (ls := [(2, l_slices_IndexFunc_Errno__slices_ContainsFunc_Errno__gamehallkeep2_fine_2L)]) rfl rfl ⟨by kernel_rfl, fun _ => rfl, l_slices_IndexFunc_Errno__slices_ContainsFunc_Errno__gamehallkeep2_fine_2_step, stepsI_end (by kernel_rfl)⟩,  trivial⟩) rfl),  trivial⟩
  have hS : SpecsOk Tryd.prog E_gamehallkeep2_fine := specs_ok (by exact trivial)
  have hE : EOk Tryd.prog E_gamehallkeep2_fine := eok_te ok
  exact fn_sound (L := LL_gamehallkeep2_fine) hE hS hB (draws_ok hE hS (by kernel_rfl)) hBS (fn := Tryd.f13) (by kernel_rfl) (c := bodyOf Tryd.f13) (by kernel_rfl) (stepped_none rfl) fun x r h => ⟨fuel, (f_gamehallkeep2_fine_run fuel x).trans h⟩

/-! gamehall/nat.Check -/
noncomputable def E_nat_Check : Env := { te := te, spec := [], body := [] }
def l_nat_Check_4H : Ann := { slots := [(18, .one (.val (.slice (.int .u8)))), (19, .one (.val (.int .i64))), (20, .one (.val (.int .i64)))], objs := [] }
def l_nat_Check_4X : Ann := { slots := [], objs := [] }
def l_nat_Check_4R : Ann := { slots := [(2, .one (.val (.int .i64)))], objs := [] }
def l_nat_Check_4 : Nat → List Int → Int → Int → Option (LR l_nat_Check_4X l_nat_Check_4R)
  | 0, _, _, _ => none
  | m + 1, s18, s19, s20 =>
    if decide (s20 < s19) = true then
      if (0 : Int) ≤ s20 then
        if s20 < s18.length then
          if decide (s18.getD s20.toNat 0 < 48) = false then
            if decide (s18.getD s20.toNat 0 > 57) = true then
              some (.ret (5, ()))
            else
              l_nat_Check_4 m s18 s19 (IntKind.i64.wrap (s20 + 1))
          else
            some (.ret (5, ()))
        else none
      else none
    else
      some (.exit ())
def l_nat_Check_4L : LSpec := { h := l_nat_Check_4H, x := l_nat_Check_4X, r := l_nat_Check_4R, xid := 0, rt := true, pins := [], f := fun k d => l_nat_Check_4 k d.1 d.2.1 d.2.2.1 }
def LL_nat_Check : Loops := [([47], [(4, l_nat_Check_4L)])]
def f_nat_Check (k : Nat) (a0 : ByteArray) : Option (Int) :=
  if ((a0.toList == (⟨#[]⟩ : ByteArray).toList)) = false then
    if (0 : Int) < (a0.size : Int) then
      if (((a0.data.getD 0 0).toNat : Int) == 48) = true then
        if decide ((a0.size : Int) > 1) = true then
          some 5
        else
          match l_nat_Check_4 k (a0.data.toList.map fun c => (c.toNat : Int)) ((a0.data.toList.map fun c => (c.toNat : Int)).length : Int) 0 with
          | none => none
          | some (.exit d1) =>
            if decide ((a0.size : Int) > 2000) = true then
              some 2
            else
              some 0
          | some (.ret d1) =>
            some d1.1
      else
        match l_nat_Check_4 k (a0.data.toList.map fun c => (c.toNat : Int)) ((a0.data.toList.map fun c => (c.toNat : Int)).length : Int) 0 with
        | none => none
        | some (.exit d2) =>
          if decide ((a0.size : Int) > 2000) = true then
            some 2
          else
            some 0
        | some (.ret d2) =>
          some d2.1
    else none
  else
    some 5
theorem l_nat_Check_4_step (m : Nat) (d : dens l_nat_Check_4H.tys) : l_nat_Check_4L.f (m + 1) d = round E_nat_Check LL_nat_Check m [47] 34 (loopN (bodyOf Tryd.f47) 0) l_nat_Check_4L (l_nat_Check_4L.f m) d := by kernel_rfl
theorem f_nat_Check_run (k : Nat) (x : denL [.str]) : runFn E_nat_Check LL_nat_Check k 47 Tryd.f47 [.str] [.imm (.int .i64)] x = f_nat_Check k x := by kernel_rfl
noncomputable def S_nat_Check : Vm.Spec := { ps := [.str], rs := [.imm (.int .i64)], f := fun x => f_nat_Check fuel x }
theorem f_nat_Check_holds : Vm.Spec.holds Tryd.prog 47 S_nat_Check := by
  have hB : BodiesOk Tryd.prog E_nat_Check := bodies_none rfl
  have hBS : BodiesStepped E_nat_Check LL_nat_Check := bodies_stepped_none rfl
  have hS : SpecsOk Tryd.prog E_nat_Check := specs_ok (by exact trivial)
  have hE : EOk Tryd.prog E_nat_Check := eok_te ok
  exact fn_sound (L := LL_nat_Check) hE hS hB (draws_ok hE hS (by kernel_rfl)) hBS (fn := Tryd.f47) (by kernel_rfl) (c := bodyOf Tryd.f47) (by kernel_rfl) (stepped_of (ls := [(4, l_nat_Check_4L)]) rfl rfl ⟨by kernel_rfl, fun _ => rfl, l_nat_Check_4_step, stepsI_end (by kernel_rfl)⟩) fun x r h => ⟨fuel, (f_nat_Check_run fuel x).trans h⟩

/-! gamehall/nat.Read -/
noncomputable def E_nat_Read : Env := { te := te, spec := [], body := [(62, Tryd.f62)] }
def l_nat_Read_7H : Ann := { slots := [(5, .one (.val (.int .u32))), (20, .one (.val (.slice (.int .u8)))), (21, .one (.val (.int .i64))), (22, .one (.val (.int .i64)))], objs := [] }
def l_nat_Read_7X : Ann := { slots := [(5, .one (.val (.int .u32)))], objs := [] }
def l_nat_Read_7R : Ann := { slots := [], objs := [] }
def l_nat_Read_3H : Ann := { slots := [(0, .one (.val .str)), (3, .one (.own 144 (.int .u32))), (4, .one (.val (.int .i64)))], objs := [(144, .buf (.int .u32))] }
def l_nat_Read_3X : Ann := { slots := [(3, .one (.own 144 (.int .u32)))], objs := [(144, .buf (.int .u32))] }
def l_nat_Read_3R : Ann := { slots := [], objs := [] }
def l_nat_N_trim__nat_Read_1H : Ann := { slots := [(0, .one (.pre 144 (.int .u32)))], objs := [(144, .buf (.int .u32))] }
def l_nat_N_trim__nat_Read_1X : Ann := { slots := [(0, .one (.pre 144 (.int .u32)))], objs := [(144, .buf (.int .u32))] }
def l_nat_N_trim__nat_Read_1R : Ann := { slots := [], objs := [] }
def l_nat_Read_7 : Nat → Int → List Int → Int → Int → Option (LR l_nat_Read_7X l_nat_Read_7R)
  | 0, _, _, _, _ => none
  | m + 1, s5, s20, s21, s22 =>
    if decide (s22 < s21) = true then
      if (0 : Int) ≤ s22 then
        if s22 < s20.length then
          l_nat_Read_7 m (IntKind.u32.wrap ((IntKind.u32.wrap (s5 * 10)) + (IntKind.u32.wrap (IntKind.u8.wrap ((s20.getD s22.toNat 0) - 48))))) s20 s21 (IntKind.i64.wrap (s22 + 1))
        else none
      else none
    else
      some (.exit (s5, ()))
def l_nat_Read_7L : LSpec := { h := l_nat_Read_7H, x := l_nat_Read_7X, r := l_nat_Read_7R, xid := 2, rt := false, pins := [], f := fun k d => l_nat_Read_7 k d.1 d.2.1 d.2.2.1 d.2.2.2.1 }
def l_nat_Read_3 : Nat → ByteArray → Int → List Int → Option (LR l_nat_Read_3X l_nat_Read_3R)
  | 0, _, _, _ => none
  | m + 1, s0, s4, b144 =>
    if decide (s4 > 0) = true then
      if (0 : Int) ≤ s4 then
        if s4 ≤ s0.size then
          if (0 : Int) ≤ (if IntKind.i64.wrap (s4 - 9) > 0 then IntKind.i64.wrap (s4 - 9) else 0) then
            if (if IntKind.i64.wrap (s4 - 9) > 0 then IntKind.i64.wrap (s4 - 9) else 0) ≤ s4 then
              match l_nat_Read_7 m 0 ((s0.extract (if IntKind.i64.wrap (s4 - 9) > 0 then IntKind.i64.wrap (s4 - 9) else 0).toNat s4.toNat).data.toList.map fun c => (c.toNat : Int)) (((s0.extract (if IntKind.i64.wrap (s4 - 9) > 0 then IntKind.i64.wrap (s4 - 9) else 0).toNat s4.toNat).data.toList.map fun c => (c.toNat : Int)).length : Int) 0 with
              | none => none
              | some (.exit d1) =>
                if (b144.length + 1) * 4 ≤ 140737488355328 then
                  l_nat_Read_3 m s0 (IntKind.i64.wrap (s4 - 9)) (b144 ++ [d1.1])
                else none
              | some (.ret d1) =>
                none
            else none
          else none
        else none
      else none
    else
      some (.exit (b144, ()))
def l_nat_Read_3L : LSpec := { h := l_nat_Read_3H, x := l_nat_Read_3X, r := l_nat_Read_3R, xid := 0, rt := false, pins := [], f := fun k d => l_nat_Read_3 k d.1 d.2.1 d.2.2.1 }
def l_nat_N_trim__nat_Read_1 : Nat → Nat → List Int → Option (LR l_nat_N_trim__nat_Read_1X l_nat_N_trim__nat_Read_1R)
  | 0, _, _ => none
  | m + 1, s0, b144 =>
    if decide ((s0 : Int) > 0) = true then
      if (0 : Int) ≤ IntKind.i64.wrap ((s0 : Int) - 1) then
        if IntKind.i64.wrap ((s0 : Int) - 1) < s0 then
          if (b144.getD ((IntKind.i64.wrap ((s0 : Int) - 1)).toNat) 0 == 0) = true then
            if (0 : Int) ≤ IntKind.i64.wrap ((s0 : Int) - 1) then
              if IntKind.i64.wrap ((s0 : Int) - 1) ≤ s0 then
                l_nat_N_trim__nat_Read_1 m ((IntKind.i64.wrap ((s0 : Int) - 1)).toNat) b144
              else none
            else none
          else
            some (.exit (s0, b144, ()))
        else none
      else none
    else
      some (.exit (s0, b144, ()))
def l_nat_N_trim__nat_Read_1L : LSpec := { h := l_nat_N_trim__nat_Read_1H, x := l_nat_N_trim__nat_Read_1X, r := l_nat_N_trim__nat_Read_1R, xid := 0, rt := false, pins := [144], f := fun k d => l_nat_N_trim__nat_Read_1 k d.1 d.2.1 }
def LL_nat_Read : Loops := [([48], [(3, l_nat_Read_3L), (7, l_nat_Read_7L)]), ([62, 48], [(1, l_nat_N_trim__nat_Read_1L)])]
def f_nat_Read (k : Nat) (a0 : ByteArray) : Option (List Int) :=
  match l_nat_Read_3 k a0 (a0.size : Int) [] with
  | none => none
  | some (.exit d1) =>
    match l_nat_N_trim__nat_Read_1 k d1.1.length d1.1 with
    | none => none
    | some (.exit d2) =>
      some (d2.2.1.take d2.1)
    | some (.ret d2) =>
      none
  | some (.ret d1) =>
    none
theorem l_nat_Read_7_step (m : Nat) (d : dens l_nat_Read_7H.tys) : l_nat_Read_7L.f (m + 1) d = round E_nat_Read LL_nat_Read m [48] 39 (loopN (bodyOf Tryd.f48) 1) l_nat_Read_7L (l_nat_Read_7L.f m) d := by kernel_rfl
theorem l_nat_Read_3_step (m : Nat) (d : dens l_nat_Read_3H.tys) : l_nat_Read_3L.f (m + 1) d = round E_nat_Read LL_nat_Read m [48] 39 (loopN (bodyOf Tryd.f48) 0) l_nat_Read_3L (l_nat_Read_3L.f m) d := by kernel_rfl
theorem l_nat_N_trim__nat_Read_1_step (m : Nat) (d : dens l_nat_N_trim__nat_Read_1H.tys) : l_nat_N_trim__nat_Read_1L.f (m + 1) d = round E_nat_Read LL_nat_Read m [62, 48] 21 (loopN (bodyOf Tryd.f62) 0) l_nat_N_trim__nat_Read_1L (l_nat_N_trim__nat_Read_1L.f m) d := by kernel_rfl
theorem f_nat_Read_run (k : Nat) (x : denL [.str]) : runFn E_nat_Read LL_nat_Read k 48 Tryd.f48 [.str] [.fresh (.int .u32)] x = f_nat_Read k x := by kernel_rfl
noncomputable def S_nat_Read : Vm.Spec := { ps := [.str], rs := [.fresh (.int .u32)], f := fun x => f_nat_Read fuel x }
theorem f_nat_Read_holds : Vm.Spec.holds Tryd.prog 48 S_nat_Read := by
  have hB : BodiesOk Tryd.prog E_nat_Read := bodies_ok (by exact ⟨by kernel_rfl, by kernel_rfl, trivial⟩)
  have hBS : BodiesStepped E_nat_Read LL_nat_Read := by
    refine bodies_stepped ?_
    exact ⟨(stepped_paths [[48]] (by exact ⟨stepped_of (ls := [(1, l_nat_N_trim__nat_Read_1L)]) rfl rfl ⟨by kernel_rfl, fun _ => rfl, l_nat_N_trim__nat_Read_1_step, stepsI_end (by kernel_rfl)⟩,  trivial⟩) rfl),  trivial⟩
  have hS : SpecsOk Tryd.prog E_nat_Read := specs_ok (by exact trivial)
  have hE : EOk Tryd.prog E_nat_Read := eok_te ok
  exact fn_sound (L := LL_nat_Read) hE hS hB (draws_ok hE hS (by kernel_rfl)) hBS (fn := Tryd.f48) (by kernel_rfl) (c := bodyOf Tryd.f48) (by kernel_rfl) (stepped_of (ls := [(3, l_nat_Read_3L), (7, l_nat_Read_7L)]) rfl rfl ⟨by kernel_rfl, fun _ => rfl, l_nat_Read_3_step, by kernel_rfl, fun _ => rfl, l_nat_Read_7_step, stepsI_end (by kernel_rfl)⟩) fun x r h => ⟨fuel, (f_nat_Read_run fuel x).trans h⟩

/-! gamehall/nat.Of -/
noncomputable def E_nat_Of : Env := { te := te, spec := [], body := [] }
def l_nat_Of_2H : Ann := { slots := [(0, .one (.val (.int .i64))), (3, .one (.own 44 (.int .u32)))], objs := [(44, .buf (.int .u32))] }
def l_nat_Of_2X : Ann := { slots := [(3, .one (.own 44 (.int .u32)))], objs := [(44, .buf (.int .u32))] }
def l_nat_Of_2R : Ann := { slots := [], objs := [] }
def l_nat_Of_2 : Nat → Int → List Int → Option (LR l_nat_Of_2X l_nat_Of_2R)
  | 0, _, _ => none
  | m + 1, s0, b44 =>
    if decide (s0 > 0) = true then
      if (b44.length + 1) * 4 ≤ 140737488355328 then
        l_nat_Of_2 m (IntKind.i64.wrap (s0.tdiv 1000000000)) (b44 ++ [IntKind.u32.wrap (s0.tmod 1000000000)])
      else none
    else
      some (.exit (b44, ()))
def l_nat_Of_2L : LSpec := { h := l_nat_Of_2H, x := l_nat_Of_2X, r := l_nat_Of_2R, xid := 0, rt := false, pins := [], f := fun k d => l_nat_Of_2 k d.1 d.2.1 }
def LL_nat_Of : Loops := [([51], [(2, l_nat_Of_2L)])]
def f_nat_Of (k : Nat) (a0 : Int) : Option (List Int) :=
  match l_nat_Of_2 k a0 [] with
  | none => none
  | some (.exit d1) =>
    some d1.1
  | some (.ret d1) =>
    none
theorem l_nat_Of_2_step (m : Nat) (d : dens l_nat_Of_2H.tys) : l_nat_Of_2L.f (m + 1) d = round E_nat_Of LL_nat_Of m [51] 15 (loopN (bodyOf Tryd.f51) 0) l_nat_Of_2L (l_nat_Of_2L.f m) d := by kernel_rfl
theorem f_nat_Of_run (k : Nat) (x : denL [.int .i64]) : runFn E_nat_Of LL_nat_Of k 51 Tryd.f51 [.int .i64] [.fresh (.int .u32)] x = f_nat_Of k x := by kernel_rfl
noncomputable def S_nat_Of : Vm.Spec := { ps := [.int .i64], rs := [.fresh (.int .u32)], f := fun x => f_nat_Of fuel x }
theorem f_nat_Of_holds : Vm.Spec.holds Tryd.prog 51 S_nat_Of := by
  have hB : BodiesOk Tryd.prog E_nat_Of := bodies_none rfl
  have hBS : BodiesStepped E_nat_Of LL_nat_Of := bodies_stepped_none rfl
  have hS : SpecsOk Tryd.prog E_nat_Of := specs_ok (by exact trivial)
  have hE : EOk Tryd.prog E_nat_Of := eok_te ok
  exact fn_sound (L := LL_nat_Of) hE hS hB (draws_ok hE hS (by kernel_rfl)) hBS (fn := Tryd.f51) (by kernel_rfl) (c := bodyOf Tryd.f51) (by kernel_rfl) (stepped_of (ls := [(2, l_nat_Of_2L)]) rfl rfl ⟨by kernel_rfl, fun _ => rfl, l_nat_Of_2_step, stepsI_end (by kernel_rfl)⟩) fun x r h => ⟨fuel, (f_nat_Of_run fuel x).trans h⟩

/-! (gamehall/nat.N).Text -/
noncomputable def E_nat_N_Text : Env := { te := te, spec := [(63, S_strings_TrimLeft)], body := [] }
def l_nat_N_Text_10H : Ann := { slots := [(5, .one (.val (.int .u32))), (6, .one (.fix (.pbox 24 0))), (7, .one (.val (.int .i64)))], objs := [(24, .box [.val (.arr 9 (.int .u8))])] }
def l_nat_N_Text_10X : Ann := { slots := [(6, .one (.fix (.pbox 24 0)))], objs := [(24, .box [.val (.arr 9 (.int .u8))])] }
def l_nat_N_Text_10R : Ann := { slots := [], objs := [] }
def l_nat_N_Text_5H : Ann := { slots := [(0, .one (.val (.slice (.int .u32)))), (3, .one (.own 56 (.int .u8))), (4, .one (.val (.int .i64)))], objs := [(56, .buf (.int .u8))] }
def l_nat_N_Text_5X : Ann := { slots := [(3, .one (.own 56 (.int .u8)))], objs := [(56, .buf (.int .u8))] }
def l_nat_N_Text_5R : Ann := { slots := [], objs := [] }
def l_nat_N_Text_10 : Nat → Int → Int → List Int → Option (LR l_nat_N_Text_10X l_nat_N_Text_10R)
  | 0, _, _, _ => none
  | m + 1, s5, s7, b24_0 =>
    if decide (s7 ≥ 0) = true then
      if (0 : Int) ≤ s7 then
        if s7 < 9 then
          l_nat_N_Text_10 m (IntKind.u32.wrap (s5.tdiv 10)) (IntKind.i64.wrap (s7 - 1)) (b24_0.set s7.toNat (IntKind.u8.wrap (IntKind.u32.wrap (48 + (s5.tmod 10)))))
        else none
      else none
    else
      some (.exit (b24_0, ()))
def l_nat_N_Text_10L : LSpec := { h := l_nat_N_Text_10H, x := l_nat_N_Text_10X, r := l_nat_N_Text_10R, xid := 2, rt := false, pins := [24], f := fun k d => l_nat_N_Text_10 k d.1 d.2.1 d.2.2.1 }
def l_nat_N_Text_5 : Nat → List Int → Int → List Int → Option (LR l_nat_N_Text_5X l_nat_N_Text_5R)
  | 0, _, _, _ => none
  | m + 1, s0, s4, b56 =>
    if decide (s4 ≥ 0) = true then
      if (0 : Int) ≤ s4 then
        if s4 < s0.length then
          match l_nat_N_Text_10 m (s0.getD s4.toNat 0) 8 (List.replicate 9 0) with
          | none => none
          | some (.exit d1) =>
            if (b56.length + ((d1.1.take 9).drop 0).length) * 1 ≤ 140737488355328 then
              l_nat_N_Text_5 m s0 (IntKind.i64.wrap (s4 - 1)) (b56 ++ ((d1.1.take 9).drop 0))
            else none
          | some (.ret d1) =>
            none
        else none
      else none
    else
      some (.exit (b56, ()))
def l_nat_N_Text_5L : LSpec := { h := l_nat_N_Text_5H, x := l_nat_N_Text_5X, r := l_nat_N_Text_5R, xid := 0, rt := false, pins := [], f := fun k d => l_nat_N_Text_5 k d.1 d.2.1 d.2.2.1 }
def LL_nat_N_Text : Loops := [([57], [(5, l_nat_N_Text_5L), (10, l_nat_N_Text_10L)])]
def f_nat_N_Text (k : Nat) (a0 : List Int) : Option (ByteArray) :=
  if ((a0.length : Int) == 0) = true then
    some (⟨#[48]⟩ : ByteArray)
  else
    if (0 : Int) ≤ IntKind.i64.wrap (9 * (a0.length : Int)) then
      if (IntKind.i64.wrap (9 * (a0.length : Int))) * 1 ≤ 281474976710656 then
        match l_nat_N_Text_5 k a0 (IntKind.i64.wrap ((a0.length : Int) - 1)) (List.replicate 0 0) with
        | none => none
        | some (.exit d1) =>
          (f_strings_TrimLeft fuel (⟨(d1.1.map fun n => UInt8.ofNat n.toNat).toArray⟩ : ByteArray) (⟨#[48]⟩ : ByteArray)).bind fun r2 =>
          some r2
        | some (.ret d1) =>
          none
      else none
    else none
theorem l_nat_N_Text_10_step (m : Nat) (d : dens l_nat_N_Text_10H.tys) : l_nat_N_Text_10L.f (m + 1) d = round E_nat_N_Text LL_nat_N_Text m [57] 44 (loopN (bodyOf Tryd.f57) 1) l_nat_N_Text_10L (l_nat_N_Text_10L.f m) d := by kernel_rfl
theorem l_nat_N_Text_5_step (m : Nat) (d : dens l_nat_N_Text_5H.tys) : l_nat_N_Text_5L.f (m + 1) d = round E_nat_N_Text LL_nat_N_Text m [57] 44 (loopN (bodyOf Tryd.f57) 0) l_nat_N_Text_5L (l_nat_N_Text_5L.f m) d := by kernel_rfl
theorem f_nat_N_Text_run (k : Nat) (x : denL [.slice (.int .u32)]) : runFn E_nat_N_Text LL_nat_N_Text k 57 Tryd.f57 [.slice (.int .u32)] [.imm .str] x = f_nat_N_Text k x := by kernel_rfl
noncomputable def S_nat_N_Text : Vm.Spec := { ps := [.slice (.int .u32)], rs := [.imm .str], f := fun x => f_nat_N_Text fuel x }
theorem f_nat_N_Text_holds : Vm.Spec.holds Tryd.prog 57 S_nat_N_Text := by
  have hB : BodiesOk Tryd.prog E_nat_N_Text := bodies_none rfl
  have hBS : BodiesStepped E_nat_N_Text LL_nat_N_Text := bodies_stepped_none rfl
  have hS : SpecsOk Tryd.prog E_nat_N_Text := specs_ok (by exact ⟨⟨by kernel_rfl, f_strings_TrimLeft_holds⟩, trivial⟩)
  have hE : EOk Tryd.prog E_nat_N_Text := eok_te ok
  exact fn_sound (L := LL_nat_N_Text) hE hS hB (draws_ok hE hS (by kernel_rfl)) hBS (fn := Tryd.f57) (by kernel_rfl) (c := bodyOf Tryd.f57) (by kernel_rfl) (stepped_of (ls := [(5, l_nat_N_Text_5L), (10, l_nat_N_Text_10L)]) rfl rfl ⟨by kernel_rfl, fun _ => rfl, l_nat_N_Text_5_step, by kernel_rfl, fun _ => rfl, l_nat_N_Text_10_step, stepsI_end (by kernel_rfl)⟩) fun x r h => ⟨fuel, (f_nat_N_Text_run fuel x).trans h⟩

/-! (gamehall/nat.N).Digits -/
noncomputable def E_nat_N_Digits : Env := { te := te, spec := [(57, S_nat_N_Text)], body := [] }
def LL_nat_N_Digits : Loops := []
def f_nat_N_Digits (k : Nat) (a0 : List Int) : Option (Int) :=
  (f_nat_N_Text fuel a0).bind fun r1 =>
  some (r1.size : Int)
theorem f_nat_N_Digits_run (k : Nat) (x : denL [.slice (.int .u32)]) : runFn E_nat_N_Digits LL_nat_N_Digits k 59 Tryd.f59 [.slice (.int .u32)] [.imm (.int .i64)] x = f_nat_N_Digits k x := by kernel_rfl
noncomputable def S_nat_N_Digits : Vm.Spec := { ps := [.slice (.int .u32)], rs := [.imm (.int .i64)], f := fun x => f_nat_N_Digits fuel x }
theorem f_nat_N_Digits_holds : Vm.Spec.holds Tryd.prog 59 S_nat_N_Digits := by
  have hB : BodiesOk Tryd.prog E_nat_N_Digits := bodies_none rfl
  have hBS : BodiesStepped E_nat_N_Digits LL_nat_N_Digits := bodies_stepped_none rfl
  have hS : SpecsOk Tryd.prog E_nat_N_Digits := specs_ok (by exact ⟨⟨by kernel_rfl, f_nat_N_Text_holds⟩, trivial⟩)
  have hE : EOk Tryd.prog E_nat_N_Digits := eok_te ok
  exact fn_sound (L := LL_nat_N_Digits) hE hS hB (draws_ok hE hS (by kernel_rfl)) hBS (fn := Tryd.f59) (by kernel_rfl) (c := bodyOf Tryd.f59) (by kernel_rfl) (stepped_none rfl) fun x r h => ⟨fuel, (f_nat_N_Digits_run fuel x).trans h⟩

/-! (gamehall/nat.N).Cmp -/
noncomputable def E_nat_N_Cmp : Env := { te := te, spec := [], body := [] }
def l_nat_N_Cmp_6H : Ann := { slots := [(0, .one (.val (.slice (.int .u32)))), (1, .one (.val (.slice (.int .u32)))), (5, .one (.val (.int .i64)))], objs := [] }
def l_nat_N_Cmp_6X : Ann := { slots := [], objs := [] }
def l_nat_N_Cmp_6R : Ann := { slots := [(4, .one (.val (.int .i64)))], objs := [] }
def l_nat_N_Cmp_6 : Nat → List Int → List Int → Int → Option (LR l_nat_N_Cmp_6X l_nat_N_Cmp_6R)
  | 0, _, _, _ => none
  | m + 1, s0, s1, s5 =>
    if decide (s5 ≥ 0) = true then
      if (0 : Int) ≤ s5 then
        if s5 < s0.length then
          if (0 : Int) ≤ s5 then
            if s5 < s1.length then
              if decide (s0.getD s5.toNat 0 < s1.getD s5.toNat 0) = true then
                some (.ret ((-1), ()))
              else
                if (0 : Int) ≤ s5 then
                  if s5 < s0.length then
                    if (0 : Int) ≤ s5 then
                      if s5 < s1.length then
                        if decide (s0.getD s5.toNat 0 > s1.getD s5.toNat 0) = true then
                          some (.ret (1, ()))
                        else
                          l_nat_N_Cmp_6 m s0 s1 (IntKind.i64.wrap (s5 - 1))
                      else none
                    else none
                  else none
                else none
            else none
          else none
        else none
      else none
    else
      some (.exit ())
def l_nat_N_Cmp_6L : LSpec := { h := l_nat_N_Cmp_6H, x := l_nat_N_Cmp_6X, r := l_nat_N_Cmp_6R, xid := 0, rt := true, pins := [], f := fun k d => l_nat_N_Cmp_6 k d.1 d.2.1 d.2.2.1 }
def LL_nat_N_Cmp : Loops := [([50], [(6, l_nat_N_Cmp_6L)])]
def f_nat_N_Cmp (k : Nat) (a0 : List Int) (a1 : List Int) : Option (Int) :=
  if ((a0.length : Int) != (a1.length : Int)) = true then
    if decide ((a0.length : Int) < (a1.length : Int)) = true then
      some (-1)
    else
      some 1
  else
    match l_nat_N_Cmp_6 k a0 a1 (IntKind.i64.wrap ((a0.length : Int) - 1)) with
    | none => none
    | some (.exit d1) =>
      some 0
    | some (.ret d1) =>
      some d1.1
theorem l_nat_N_Cmp_6_step (m : Nat) (d : dens l_nat_N_Cmp_6H.tys) : l_nat_N_Cmp_6L.f (m + 1) d = round E_nat_N_Cmp LL_nat_N_Cmp m [50] 43 (loopN (bodyOf Tryd.f50) 0) l_nat_N_Cmp_6L (l_nat_N_Cmp_6L.f m) d := by kernel_rfl
theorem f_nat_N_Cmp_run (k : Nat) (x : denL [.slice (.int .u32), .slice (.int .u32)]) : runFn E_nat_N_Cmp LL_nat_N_Cmp k 50 Tryd.f50 [.slice (.int .u32), .slice (.int .u32)] [.imm (.int .i64)] x = f_nat_N_Cmp k x.1 x.2 := by kernel_rfl
noncomputable def S_nat_N_Cmp : Vm.Spec := { ps := [.slice (.int .u32), .slice (.int .u32)], rs := [.imm (.int .i64)], f := fun x => f_nat_N_Cmp fuel x.1 x.2 }
theorem f_nat_N_Cmp_holds : Vm.Spec.holds Tryd.prog 50 S_nat_N_Cmp := by
  have hB : BodiesOk Tryd.prog E_nat_N_Cmp := bodies_none rfl
  have hBS : BodiesStepped E_nat_N_Cmp LL_nat_N_Cmp := bodies_stepped_none rfl
  have hS : SpecsOk Tryd.prog E_nat_N_Cmp := specs_ok (by exact trivial)
  have hE : EOk Tryd.prog E_nat_N_Cmp := eok_te ok
  exact fn_sound (L := LL_nat_N_Cmp) hE hS hB (draws_ok hE hS (by kernel_rfl)) hBS (fn := Tryd.f50) (by kernel_rfl) (c := bodyOf Tryd.f50) (by kernel_rfl) (stepped_of (ls := [(6, l_nat_N_Cmp_6L)]) rfl rfl ⟨by kernel_rfl, fun _ => rfl, l_nat_N_Cmp_6_step, stepsI_end (by kernel_rfl)⟩) fun x r h => ⟨fuel, (f_nat_N_Cmp_run fuel x).trans h⟩

/-! (gamehall/nat.N).Add -/
noncomputable def E_nat_N_Add : Env := { te := te, spec := [], body := [] }
def l_nat_N_Add_6H : Ann := { slots := [(1, .one (.val (.slice (.int .u32)))), (5, .one (.own 76 (.int .u32))), (6, .one (.val (.int .u32))), (20, .one (.val (.slice (.int .u32)))), (21, .one (.val (.int .i64))), (22, .one (.val (.int .i64)))], objs := [(76, .buf (.int .u32))] }
def l_nat_N_Add_6X : Ann := { slots := [(5, .one (.own 76 (.int .u32))), (6, .one (.val (.int .u32)))], objs := [(76, .buf (.int .u32))] }
def l_nat_N_Add_6R : Ann := { slots := [], objs := [] }
def l_nat_N_Add_6 : Nat → List Int → Int → List Int → Int → Int → List Int → Option (LR l_nat_N_Add_6X l_nat_N_Add_6R)
  | 0, _, _, _, _, _, _ => none
  | m + 1, s1, s6, s20, s21, s22, b76 =>
    if decide (s22 < s21) = true then
      if (0 : Int) ≤ s22 then
        if s22 < s20.length then
          if decide (s22 < (s1.length : Int)) = true then
            if (0 : Int) ≤ s22 then
              if s22 < s1.length then
                if (b76.length + 1) * 4 ≤ 140737488355328 then
                  l_nat_N_Add_6 m s1 (IntKind.u32.wrap ((IntKind.u32.wrap ((IntKind.u32.wrap ((s20.getD s22.toNat 0) + s6)) + (s1.getD s22.toNat 0))).tdiv 1000000000)) s20 s21 (IntKind.i64.wrap (s22 + 1)) (b76 ++ [(IntKind.u32.wrap ((IntKind.u32.wrap ((s20.getD s22.toNat 0) + s6)) + (s1.getD s22.toNat 0))).tmod 1000000000])
                else none
              else none
            else none
          else
            if (b76.length + 1) * 4 ≤ 140737488355328 then
              l_nat_N_Add_6 m s1 (IntKind.u32.wrap ((IntKind.u32.wrap ((s20.getD s22.toNat 0) + s6)).tdiv 1000000000)) s20 s21 (IntKind.i64.wrap (s22 + 1)) (b76 ++ [(IntKind.u32.wrap ((s20.getD s22.toNat 0) + s6)).tmod 1000000000])
            else none
        else none
      else none
    else
      some (.exit (s6, b76, ()))
def l_nat_N_Add_6L : LSpec := { h := l_nat_N_Add_6H, x := l_nat_N_Add_6X, r := l_nat_N_Add_6R, xid := 0, rt := false, pins := [], f := fun k d => l_nat_N_Add_6 k d.1 d.2.1 d.2.2.1 d.2.2.2.1 d.2.2.2.2.1 d.2.2.2.2.2.1 }
def LL_nat_N_Add : Loops := [([54], [(6, l_nat_N_Add_6L)])]
def f_nat_N_Add (k : Nat) (a0 : List Int) (a1 : List Int) : Option (List Int) :=
  if decide ((a0.length : Int) < (a1.length : Int)) = true then
    if (0 : Int) ≤ IntKind.i64.wrap ((a1.length : Int) + 1) then
      if (IntKind.i64.wrap ((a1.length : Int) + 1)) * 4 ≤ 281474976710656 then
        match l_nat_N_Add_6 k a0 0 a1 (a1.length : Int) 0 (List.replicate 0 0) with
        | none => none
        | some (.exit d1) =>
          if decide (d1.1 > 0) = true then
            if (d1.2.1.length + 1) * 4 ≤ 140737488355328 then
              some (d1.2.1 ++ [d1.1])
            else none
          else
            some d1.2.1
        | some (.ret d1) =>
          none
      else none
    else none
  else
    if (0 : Int) ≤ IntKind.i64.wrap ((a0.length : Int) + 1) then
      if (IntKind.i64.wrap ((a0.length : Int) + 1)) * 4 ≤ 281474976710656 then
        match l_nat_N_Add_6 k a1 0 a0 (a0.length : Int) 0 (List.replicate 0 0) with
        | none => none
        | some (.exit d2) =>
          if decide (d2.1 > 0) = true then
            if (d2.2.1.length + 1) * 4 ≤ 140737488355328 then
              some (d2.2.1 ++ [d2.1])
            else none
          else
            some d2.2.1
        | some (.ret d2) =>
          none
      else none
    else none
theorem l_nat_N_Add_6_step (m : Nat) (d : dens l_nat_N_Add_6H.tys) : l_nat_N_Add_6L.f (m + 1) d = round E_nat_N_Add LL_nat_N_Add m [54] 55 (loopN (bodyOf Tryd.f54) 0) l_nat_N_Add_6L (l_nat_N_Add_6L.f m) d := by kernel_rfl
theorem f_nat_N_Add_run (k : Nat) (x : denL [.slice (.int .u32), .slice (.int .u32)]) : runFn E_nat_N_Add LL_nat_N_Add k 54 Tryd.f54 [.slice (.int .u32), .slice (.int .u32)] [.fresh (.int .u32)] x = f_nat_N_Add k x.1 x.2 := by kernel_rfl
noncomputable def S_nat_N_Add : Vm.Spec := { ps := [.slice (.int .u32), .slice (.int .u32)], rs := [.fresh (.int .u32)], f := fun x => f_nat_N_Add fuel x.1 x.2 }
theorem f_nat_N_Add_holds : Vm.Spec.holds Tryd.prog 54 S_nat_N_Add := by
  have hB : BodiesOk Tryd.prog E_nat_N_Add := bodies_none rfl
  have hBS : BodiesStepped E_nat_N_Add LL_nat_N_Add := bodies_stepped_none rfl
  have hS : SpecsOk Tryd.prog E_nat_N_Add := specs_ok (by exact trivial)
  have hE : EOk Tryd.prog E_nat_N_Add := eok_te ok
  exact fn_sound (L := LL_nat_N_Add) hE hS hB (draws_ok hE hS (by kernel_rfl)) hBS (fn := Tryd.f54) (by kernel_rfl) (c := bodyOf Tryd.f54) (by kernel_rfl) (stepped_of (ls := [(6, l_nat_N_Add_6L)]) rfl rfl ⟨by kernel_rfl, fun _ => rfl, l_nat_N_Add_6_step, stepsI_end (by kernel_rfl)⟩) fun x r h => ⟨fuel, (f_nat_N_Add_run fuel x).trans h⟩

/-! (gamehall/nat.N).Sub -/
noncomputable def E_nat_N_Sub : Env := { te := te, spec := [], body := [(62, Tryd.f62)] }
def l_nat_N_Sub_4H : Ann := { slots := [(0, .one (.val (.slice (.int .u32)))), (1, .one (.val (.slice (.int .u32)))), (5, .one (.own 44 (.int .u32))), (6, .one (.val (.int .i64))), (13, .one (.val (.int .i64))), (14, .one (.val (.int .i64)))], objs := [(44, .buf (.int .u32))] }
def l_nat_N_Sub_4X : Ann := { slots := [(5, .one (.own 44 (.int .u32)))], objs := [(44, .buf (.int .u32))] }
def l_nat_N_Sub_4R : Ann := { slots := [], objs := [] }
def l_nat_N_trim__nat_N_Sub_1H : Ann := { slots := [(0, .one (.pre 44 (.int .u32)))], objs := [(44, .buf (.int .u32))] }
def l_nat_N_trim__nat_N_Sub_1X : Ann := { slots := [(0, .one (.pre 44 (.int .u32)))], objs := [(44, .buf (.int .u32))] }
def l_nat_N_trim__nat_N_Sub_1R : Ann := { slots := [], objs := [] }
def l_nat_N_Sub_4 : Nat → List Int → List Int → Int → Int → Int → List Int → Option (LR l_nat_N_Sub_4X l_nat_N_Sub_4R)
  | 0, _, _, _, _, _, _ => none
  | m + 1, s0, s1, s6, s13, s14, b44 =>
    if decide (s14 < s13) = true then
      if (0 : Int) ≤ s14 then
        if s14 < s0.length then
          if decide (s14 < (s1.length : Int)) = true then
            if (0 : Int) ≤ s14 then
              if s14 < s1.length then
                if decide (IntKind.i64.wrap ((IntKind.i64.wrap ((IntKind.i64.wrap (s0.getD s14.toNat 0)) - s6)) - (IntKind.i64.wrap (s1.getD s14.toNat 0))) < 0) = true then
                  if (0 : Int) ≤ s14 then
                    if s14 < b44.length then
                      l_nat_N_Sub_4 m s0 s1 1 s13 (IntKind.i64.wrap (s14 + 1)) (b44.set s14.toNat (IntKind.u32.wrap (IntKind.i64.wrap ((IntKind.i64.wrap ((IntKind.i64.wrap ((IntKind.i64.wrap (s0.getD s14.toNat 0)) - s6)) - (IntKind.i64.wrap (s1.getD s14.toNat 0)))) + 1000000000))))
                    else none
                  else none
                else
                  if (0 : Int) ≤ s14 then
                    if s14 < b44.length then
                      l_nat_N_Sub_4 m s0 s1 0 s13 (IntKind.i64.wrap (s14 + 1)) (b44.set s14.toNat (IntKind.u32.wrap (IntKind.i64.wrap ((IntKind.i64.wrap ((IntKind.i64.wrap (s0.getD s14.toNat 0)) - s6)) - (IntKind.i64.wrap (s1.getD s14.toNat 0))))))
                    else none
                  else none
              else none
            else none
          else
            if decide (IntKind.i64.wrap ((IntKind.i64.wrap (s0.getD s14.toNat 0)) - s6) < 0) = true then
              if (0 : Int) ≤ s14 then
                if s14 < b44.length then
                  l_nat_N_Sub_4 m s0 s1 1 s13 (IntKind.i64.wrap (s14 + 1)) (b44.set s14.toNat (IntKind.u32.wrap (IntKind.i64.wrap ((IntKind.i64.wrap ((IntKind.i64.wrap (s0.getD s14.toNat 0)) - s6)) + 1000000000))))
                else none
              else none
            else
              if (0 : Int) ≤ s14 then
                if s14 < b44.length then
                  l_nat_N_Sub_4 m s0 s1 0 s13 (IntKind.i64.wrap (s14 + 1)) (b44.set s14.toNat (IntKind.u32.wrap (IntKind.i64.wrap ((IntKind.i64.wrap (s0.getD s14.toNat 0)) - s6))))
                else none
              else none
        else none
      else none
    else
      some (.exit (b44, ()))
def l_nat_N_Sub_4L : LSpec := { h := l_nat_N_Sub_4H, x := l_nat_N_Sub_4X, r := l_nat_N_Sub_4R, xid := 0, rt := false, pins := [44], f := fun k d => l_nat_N_Sub_4 k d.1 d.2.1 d.2.2.1 d.2.2.2.1 d.2.2.2.2.1 d.2.2.2.2.2.1 }
def l_nat_N_trim__nat_N_Sub_1 : Nat → Nat → List Int → Option (LR l_nat_N_trim__nat_N_Sub_1X l_nat_N_trim__nat_N_Sub_1R)
  | 0, _, _ => none
  | m + 1, s0, b44 =>
    if decide ((s0 : Int) > 0) = true then
      if (0 : Int) ≤ IntKind.i64.wrap ((s0 : Int) - 1) then
        if IntKind.i64.wrap ((s0 : Int) - 1) < s0 then
          if (b44.getD ((IntKind.i64.wrap ((s0 : Int) - 1)).toNat) 0 == 0) = true then
            if (0 : Int) ≤ IntKind.i64.wrap ((s0 : Int) - 1) then
              if IntKind.i64.wrap ((s0 : Int) - 1) ≤ s0 then
                l_nat_N_trim__nat_N_Sub_1 m ((IntKind.i64.wrap ((s0 : Int) - 1)).toNat) b44
              else none
            else none
          else
            some (.exit (s0, b44, ()))
        else none
      else none
    else
      some (.exit (s0, b44, ()))
def l_nat_N_trim__nat_N_Sub_1L : LSpec := { h := l_nat_N_trim__nat_N_Sub_1H, x := l_nat_N_trim__nat_N_Sub_1X, r := l_nat_N_trim__nat_N_Sub_1R, xid := 0, rt := false, pins := [44], f := fun k d => l_nat_N_trim__nat_N_Sub_1 k d.1 d.2.1 }
def LL_nat_N_Sub : Loops := [([55], [(4, l_nat_N_Sub_4L)]), ([62, 55], [(1, l_nat_N_trim__nat_N_Sub_1L)])]
def f_nat_N_Sub (k : Nat) (a0 : List Int) (a1 : List Int) : Option (List Int) :=
  if (0 : Int) ≤ (a0.length : Int) then
    if (a0.length : Int) ≤ (a0.length : Int) then
      if (a0.length : Int) * 4 ≤ 281474976710656 then
        match l_nat_N_Sub_4 k a0 a1 0 (a0.length : Int) 0 (List.replicate ((a0.length : Int).toNat) 0) with
        | none => none
        | some (.exit d1) =>
          match l_nat_N_trim__nat_N_Sub_1 k d1.1.length d1.1 with
          | none => none
          | some (.exit d2) =>
            some (d2.2.1.take d2.1)
          | some (.ret d2) =>
            none
        | some (.ret d1) =>
          none
      else none
    else none
  else none
theorem l_nat_N_Sub_4_step (m : Nat) (d : dens l_nat_N_Sub_4H.tys) : l_nat_N_Sub_4L.f (m + 1) d = round E_nat_N_Sub LL_nat_N_Sub m [55] 47 (loopN (bodyOf Tryd.f55) 0) l_nat_N_Sub_4L (l_nat_N_Sub_4L.f m) d := by kernel_rfl
theorem l_nat_N_trim__nat_N_Sub_1_step (m : Nat) (d : dens l_nat_N_trim__nat_N_Sub_1H.tys) : l_nat_N_trim__nat_N_Sub_1L.f (m + 1) d = round E_nat_N_Sub LL_nat_N_Sub m [62, 55] 21 (loopN (bodyOf Tryd.f62) 0) l_nat_N_trim__nat_N_Sub_1L (l_nat_N_trim__nat_N_Sub_1L.f m) d := by kernel_rfl
theorem f_nat_N_Sub_run (k : Nat) (x : denL [.slice (.int .u32), .slice (.int .u32)]) : runFn E_nat_N_Sub LL_nat_N_Sub k 55 Tryd.f55 [.slice (.int .u32), .slice (.int .u32)] [.fresh (.int .u32)] x = f_nat_N_Sub k x.1 x.2 := by kernel_rfl
noncomputable def S_nat_N_Sub : Vm.Spec := { ps := [.slice (.int .u32), .slice (.int .u32)], rs := [.fresh (.int .u32)], f := fun x => f_nat_N_Sub fuel x.1 x.2 }
theorem f_nat_N_Sub_holds : Vm.Spec.holds Tryd.prog 55 S_nat_N_Sub := by
  have hB : BodiesOk Tryd.prog E_nat_N_Sub := bodies_ok (by exact ⟨by kernel_rfl, by kernel_rfl, trivial⟩)
  have hBS : BodiesStepped E_nat_N_Sub LL_nat_N_Sub := by
    refine bodies_stepped ?_
    exact ⟨(stepped_paths [[55]] (by exact ⟨stepped_of (ls := [(1, l_nat_N_trim__nat_N_Sub_1L)]) rfl rfl ⟨by kernel_rfl, fun _ => rfl, l_nat_N_trim__nat_N_Sub_1_step, stepsI_end (by kernel_rfl)⟩,  trivial⟩) rfl),  trivial⟩
  have hS : SpecsOk Tryd.prog E_nat_N_Sub := specs_ok (by exact trivial)
  have hE : EOk Tryd.prog E_nat_N_Sub := eok_te ok
  exact fn_sound (L := LL_nat_N_Sub) hE hS hB (draws_ok hE hS (by kernel_rfl)) hBS (fn := Tryd.f55) (by kernel_rfl) (c := bodyOf Tryd.f55) (by kernel_rfl) (stepped_of (ls := [(4, l_nat_N_Sub_4L)]) rfl rfl ⟨by kernel_rfl, fun _ => rfl, l_nat_N_Sub_4_step, stepsI_end (by kernel_rfl)⟩) fun x r h => ⟨fuel, (f_nat_N_Sub_run fuel x).trans h⟩

/-! (gamehall/nat.N).Mul -/
noncomputable def E_nat_N_Mul : Env := { te := te, spec := [], body := [(62, Tryd.f62)] }
def l_nat_N_Mul_7H : Ann := { slots := [(5, .one (.own 68 (.int .u32))), (6, .one (.val (.int .i64))), (7, .one (.val (.int .u32))), (8, .one (.val (.int .u64))), (25, .one (.val (.slice (.int .u32)))), (26, .one (.val (.int .i64))), (27, .one (.val (.int .i64)))], objs := [(68, .buf (.int .u32))] }
def l_nat_N_Mul_7X : Ann := { slots := [(5, .one (.own 68 (.int .u32))), (8, .one (.val (.int .u64)))], objs := [(68, .buf (.int .u32))] }
def l_nat_N_Mul_7R : Ann := { slots := [], objs := [] }
def l_nat_N_Mul_3H : Ann := { slots := [(1, .one (.val (.slice (.int .u32)))), (5, .one (.own 68 (.int .u32))), (18, .one (.val (.slice (.int .u32)))), (19, .one (.val (.int .i64))), (20, .one (.val (.int .i64)))], objs := [(68, .buf (.int .u32))] }
def l_nat_N_Mul_3X : Ann := { slots := [(5, .one (.own 68 (.int .u32)))], objs := [(68, .buf (.int .u32))] }
def l_nat_N_Mul_3R : Ann := { slots := [], objs := [] }
def l_nat_N_trim__nat_N_Mul_1H : Ann := { slots := [(0, .one (.pre 68 (.int .u32)))], objs := [(68, .buf (.int .u32))] }
def l_nat_N_trim__nat_N_Mul_1X : Ann := { slots := [(0, .one (.pre 68 (.int .u32)))], objs := [(68, .buf (.int .u32))] }
def l_nat_N_trim__nat_N_Mul_1R : Ann := { slots := [], objs := [] }
def l_nat_N_Mul_7 : Nat → Int → Int → Int → List Int → Int → Int → List Int → Option (LR l_nat_N_Mul_7X l_nat_N_Mul_7R)
  | 0, _, _, _, _, _, _, _ => none
  | m + 1, s6, s7, s8, s25, s26, s27, b68 =>
    if decide (s27 < s26) = true then
      if (0 : Int) ≤ s27 then
        if s27 < s25.length then
          if (0 : Int) ≤ IntKind.i64.wrap (s6 + s27) then
            if IntKind.i64.wrap (s6 + s27) < b68.length then
              if (0 : Int) ≤ IntKind.i64.wrap (s6 + s27) then
                if IntKind.i64.wrap (s6 + s27) < b68.length then
                  l_nat_N_Mul_7 m s6 s7 (IntKind.u64.wrap ((IntKind.u64.wrap ((IntKind.u64.wrap ((IntKind.u64.wrap ((IntKind.u64.wrap (s7)) * (IntKind.u64.wrap (s25.getD s27.toNat 0)))) + (IntKind.u64.wrap (b68.getD ((IntKind.i64.wrap (s6 + s27)).toNat) 0)))) + s8)).tdiv 1000000000)) s25 s26 (IntKind.i64.wrap (s27 + 1)) (b68.set ((IntKind.i64.wrap (s6 + s27)).toNat) (IntKind.u32.wrap ((IntKind.u64.wrap ((IntKind.u64.wrap ((IntKind.u64.wrap ((IntKind.u64.wrap (s7)) * (IntKind.u64.wrap (s25.getD s27.toNat 0)))) + (IntKind.u64.wrap (b68.getD ((IntKind.i64.wrap (s6 + s27)).toNat) 0)))) + s8)).tmod 1000000000)))
                else none
              else none
            else none
          else none
        else none
      else none
    else
      some (.exit (s8, b68, ()))
def l_nat_N_Mul_7L : LSpec := { h := l_nat_N_Mul_7H, x := l_nat_N_Mul_7X, r := l_nat_N_Mul_7R, xid := 2, rt := false, pins := [68], f := fun k d => l_nat_N_Mul_7 k d.1 d.2.1 d.2.2.1 d.2.2.2.1 d.2.2.2.2.1 d.2.2.2.2.2.1 d.2.2.2.2.2.2.1 }
def l_nat_N_Mul_3 : Nat → List Int → List Int → Int → Int → List Int → Option (LR l_nat_N_Mul_3X l_nat_N_Mul_3R)
  | 0, _, _, _, _, _ => none
  | m + 1, s1, s18, s19, s20, b68 =>
    if decide (s20 < s19) = true then
      if (0 : Int) ≤ s20 then
        if s20 < s18.length then
          match l_nat_N_Mul_7 m s20 (s18.getD s20.toNat 0) 0 s1 (s1.length : Int) 0 b68 with
          | none => none
          | some (.exit d1) =>
            if (0 : Int) ≤ IntKind.i64.wrap (s20 + (s1.length : Int)) then
              if IntKind.i64.wrap (s20 + (s1.length : Int)) < d1.2.1.length then
                l_nat_N_Mul_3 m s1 s18 s19 (IntKind.i64.wrap (s20 + 1)) (d1.2.1.set ((IntKind.i64.wrap (s20 + (s1.length : Int))).toNat) (IntKind.u32.wrap (d1.1)))
              else none
            else none
          | some (.ret d1) =>
            none
        else none
      else none
    else
      some (.exit (b68, ()))
def l_nat_N_Mul_3L : LSpec := { h := l_nat_N_Mul_3H, x := l_nat_N_Mul_3X, r := l_nat_N_Mul_3R, xid := 0, rt := false, pins := [68], f := fun k d => l_nat_N_Mul_3 k d.1 d.2.1 d.2.2.1 d.2.2.2.1 d.2.2.2.2.1 }
def l_nat_N_trim__nat_N_Mul_1 : Nat → Nat → List Int → Option (LR l_nat_N_trim__nat_N_Mul_1X l_nat_N_trim__nat_N_Mul_1R)
  | 0, _, _ => none
  | m + 1, s0, b68 =>
    if decide ((s0 : Int) > 0) = true then
      if (0 : Int) ≤ IntKind.i64.wrap ((s0 : Int) - 1) then
        if IntKind.i64.wrap ((s0 : Int) - 1) < s0 then
          if (b68.getD ((IntKind.i64.wrap ((s0 : Int) - 1)).toNat) 0 == 0) = true then
            if (0 : Int) ≤ IntKind.i64.wrap ((s0 : Int) - 1) then
              if IntKind.i64.wrap ((s0 : Int) - 1) ≤ s0 then
                l_nat_N_trim__nat_N_Mul_1 m ((IntKind.i64.wrap ((s0 : Int) - 1)).toNat) b68
              else none
            else none
          else
            some (.exit (s0, b68, ()))
        else none
      else none
    else
      some (.exit (s0, b68, ()))
def l_nat_N_trim__nat_N_Mul_1L : LSpec := { h := l_nat_N_trim__nat_N_Mul_1H, x := l_nat_N_trim__nat_N_Mul_1X, r := l_nat_N_trim__nat_N_Mul_1R, xid := 0, rt := false, pins := [68], f := fun k d => l_nat_N_trim__nat_N_Mul_1 k d.1 d.2.1 }
def LL_nat_N_Mul : Loops := [([52], [(3, l_nat_N_Mul_3L), (7, l_nat_N_Mul_7L)]), ([62, 52], [(1, l_nat_N_trim__nat_N_Mul_1L)])]
def f_nat_N_Mul (k : Nat) (a0 : List Int) (a1 : List Int) : Option (List Int) :=
  if (0 : Int) ≤ IntKind.i64.wrap ((a0.length : Int) + (a1.length : Int)) then
    if IntKind.i64.wrap ((a0.length : Int) + (a1.length : Int)) ≤ IntKind.i64.wrap ((a0.length : Int) + (a1.length : Int)) then
      if (IntKind.i64.wrap ((a0.length : Int) + (a1.length : Int))) * 4 ≤ 281474976710656 then
        match l_nat_N_Mul_3 k a1 a0 (a0.length : Int) 0 (List.replicate ((IntKind.i64.wrap ((a0.length : Int) + (a1.length : Int))).toNat) 0) with
        | none => none
        | some (.exit d1) =>
          match l_nat_N_trim__nat_N_Mul_1 k d1.1.length d1.1 with
          | none => none
          | some (.exit d2) =>
            some (d2.2.1.take d2.1)
          | some (.ret d2) =>
            none
        | some (.ret d1) =>
          none
      else none
    else none
  else none
theorem l_nat_N_Mul_7_step (m : Nat) (d : dens l_nat_N_Mul_7H.tys) : l_nat_N_Mul_7L.f (m + 1) d = round E_nat_N_Mul LL_nat_N_Mul m [52] 69 (loopN (bodyOf Tryd.f52) 1) l_nat_N_Mul_7L (l_nat_N_Mul_7L.f m) d := by kernel_rfl
theorem l_nat_N_Mul_3_step (m : Nat) (d : dens l_nat_N_Mul_3H.tys) : l_nat_N_Mul_3L.f (m + 1) d = round E_nat_N_Mul LL_nat_N_Mul m [52] 69 (loopN (bodyOf Tryd.f52) 0) l_nat_N_Mul_3L (l_nat_N_Mul_3L.f m) d := by kernel_rfl
theorem l_nat_N_trim__nat_N_Mul_1_step (m : Nat) (d : dens l_nat_N_trim__nat_N_Mul_1H.tys) : l_nat_N_trim__nat_N_Mul_1L.f (m + 1) d = round E_nat_N_Mul LL_nat_N_Mul m [62, 52] 21 (loopN (bodyOf Tryd.f62) 0) l_nat_N_trim__nat_N_Mul_1L (l_nat_N_trim__nat_N_Mul_1L.f m) d := by kernel_rfl
theorem f_nat_N_Mul_run (k : Nat) (x : denL [.slice (.int .u32), .slice (.int .u32)]) : runFn E_nat_N_Mul LL_nat_N_Mul k 52 Tryd.f52 [.slice (.int .u32), .slice (.int .u32)] [.fresh (.int .u32)] x = f_nat_N_Mul k x.1 x.2 := by kernel_rfl
noncomputable def S_nat_N_Mul : Vm.Spec := { ps := [.slice (.int .u32), .slice (.int .u32)], rs := [.fresh (.int .u32)], f := fun x => f_nat_N_Mul fuel x.1 x.2 }
theorem f_nat_N_Mul_holds : Vm.Spec.holds Tryd.prog 52 S_nat_N_Mul := by
  have hB : BodiesOk Tryd.prog E_nat_N_Mul := bodies_ok (by exact ⟨by kernel_rfl, by kernel_rfl, trivial⟩)
  have hBS : BodiesStepped E_nat_N_Mul LL_nat_N_Mul := by
    refine bodies_stepped ?_
    exact ⟨(stepped_paths [[52]] (by exact ⟨stepped_of (ls := [(1, l_nat_N_trim__nat_N_Mul_1L)]) rfl rfl ⟨by kernel_rfl, fun _ => rfl, l_nat_N_trim__nat_N_Mul_1_step, stepsI_end (by kernel_rfl)⟩,  trivial⟩) rfl),  trivial⟩
  have hS : SpecsOk Tryd.prog E_nat_N_Mul := specs_ok (by exact trivial)
  have hE : EOk Tryd.prog E_nat_N_Mul := eok_te ok
  exact fn_sound (L := LL_nat_N_Mul) hE hS hB (draws_ok hE hS (by kernel_rfl)) hBS (fn := Tryd.f52) (by kernel_rfl) (c := bodyOf Tryd.f52) (by kernel_rfl) (stepped_of (ls := [(3, l_nat_N_Mul_3L), (7, l_nat_N_Mul_7L)]) rfl rfl ⟨by kernel_rfl, fun _ => rfl, l_nat_N_Mul_3_step, by kernel_rfl, fun _ => rfl, l_nat_N_Mul_7_step, stepsI_end (by kernel_rfl)⟩) fun x r h => ⟨fuel, (f_nat_N_Mul_run fuel x).trans h⟩

/-! (gamehall/nat.N).trim -/
noncomputable def E_nat_N_trim : Env := { te := te, spec := [], body := [] }
def l_nat_N_trim_1H : Ann := { slots := [(0, .one (.val (.slice (.int .u32))))], objs := [] }
def l_nat_N_trim_1X : Ann := { slots := [(0, .one (.val (.slice (.int .u32))))], objs := [] }
def l_nat_N_trim_1R : Ann := { slots := [], objs := [] }
def l_nat_N_trim_1 : Nat → List Int → Option (LR l_nat_N_trim_1X l_nat_N_trim_1R)
  | 0, _ => none
  | m + 1, s0 =>
    if decide ((s0.length : Int) > 0) = true then
      if (0 : Int) ≤ IntKind.i64.wrap ((s0.length : Int) - 1) then
        if IntKind.i64.wrap ((s0.length : Int) - 1) < s0.length then
          if (s0.getD ((IntKind.i64.wrap ((s0.length : Int) - 1)).toNat) 0 == 0) = true then
            if (0 : Int) ≤ IntKind.i64.wrap ((s0.length : Int) - 1) then
              if IntKind.i64.wrap ((s0.length : Int) - 1) ≤ s0.length then
                l_nat_N_trim_1 m ((s0.take (IntKind.i64.wrap ((s0.length : Int) - 1)).toNat).drop 0)
              else none
            else none
          else
            some (.exit (s0, ()))
        else none
      else none
    else
      some (.exit (s0, ()))
def l_nat_N_trim_1L : LSpec := { h := l_nat_N_trim_1H, x := l_nat_N_trim_1X, r := l_nat_N_trim_1R, xid := 0, rt := false, pins := [], f := fun k d => l_nat_N_trim_1 k d.1 }
def LL_nat_N_trim : Loops := [([62], [(1, l_nat_N_trim_1L)])]
def f_nat_N_trim (k : Nat) (a0 : List Int) : Option (List Int) :=
  match l_nat_N_trim_1 k a0 with
  | none => none
  | some (.exit d1) =>
    some d1.1
  | some (.ret d1) =>
    none
theorem l_nat_N_trim_1_step (m : Nat) (d : dens l_nat_N_trim_1H.tys) : l_nat_N_trim_1L.f (m + 1) d = round E_nat_N_trim LL_nat_N_trim m [62] 21 (loopN (bodyOf Tryd.f62) 0) l_nat_N_trim_1L (l_nat_N_trim_1L.f m) d := by kernel_rfl
theorem f_nat_N_trim_run (k : Nat) (x : denL [.slice (.int .u32)]) : runFn E_nat_N_trim LL_nat_N_trim k 62 Tryd.f62 [.slice (.int .u32)] [.imm (.slice (.int .u32))] x = f_nat_N_trim k x := by kernel_rfl
noncomputable def S_nat_N_trim : Vm.Spec := { ps := [.slice (.int .u32)], rs := [.imm (.slice (.int .u32))], f := fun x => f_nat_N_trim fuel x }
theorem f_nat_N_trim_holds : Vm.Spec.holds Tryd.prog 62 S_nat_N_trim := by
  have hB : BodiesOk Tryd.prog E_nat_N_trim := bodies_none rfl
  have hBS : BodiesStepped E_nat_N_trim LL_nat_N_trim := bodies_stepped_none rfl
  have hS : SpecsOk Tryd.prog E_nat_N_trim := specs_ok (by exact trivial)
  have hE : EOk Tryd.prog E_nat_N_trim := eok_te ok
  exact fn_sound (L := LL_nat_N_trim) hE hS hB (draws_ok hE hS (by kernel_rfl)) hBS (fn := Tryd.f62) (by kernel_rfl) (c := bodyOf Tryd.f62) (by kernel_rfl) (stepped_of (ls := [(1, l_nat_N_trim_1L)]) rfl rfl ⟨by kernel_rfl, fun _ => rfl, l_nat_N_trim_1_step, stepsI_end (by kernel_rfl)⟩) fun x r h => ⟨fuel, (f_nat_N_trim_run fuel x).trans h⟩

/-! (gamehall/nat.N).short -/
noncomputable def E_nat_N_short : Env := { te := te, spec := [(62, S_nat_N_trim)], body := [] }
def l_nat_N_short_4H : Ann := { slots := [(0, .one (.val (.slice (.int .u32)))), (1, .one (.val (.int .u32))), (6, .one (.own 44 (.int .u32))), (7, .one (.val (.int .u64))), (8, .one (.val (.int .i64)))], objs := [(44, .buf (.int .u32))] }
def l_nat_N_short_4X : Ann := { slots := [(6, .one (.own 44 (.int .u32))), (7, .one (.val (.int .u64)))], objs := [(44, .buf (.int .u32))] }
def l_nat_N_short_4R : Ann := { slots := [], objs := [] }
def l_nat_N_short_4 : Nat → List Int → Int → Int → Int → List Int → Option (LR l_nat_N_short_4X l_nat_N_short_4R)
  | 0, _, _, _, _, _ => none
  | m + 1, s0, s1, s7, s8, b44 =>
    if decide (s8 ≥ 0) = true then
      if (0 : Int) ≤ s8 then
        if s8 < s0.length then
          if IntKind.u64.wrap (s1) = 0 then
            none
          else
            if (0 : Int) ≤ s8 then
              if s8 < b44.length then
                if IntKind.u64.wrap (s1) = 0 then
                  none
                else
                  l_nat_N_short_4 m s0 s1 ((IntKind.u64.wrap ((IntKind.u64.wrap (s7 * 1000000000)) + (IntKind.u64.wrap (s0.getD s8.toNat 0)))).tmod (IntKind.u64.wrap (s1))) (IntKind.i64.wrap (s8 - 1)) (b44.set s8.toNat (IntKind.u32.wrap (IntKind.u64.wrap ((IntKind.u64.wrap ((IntKind.u64.wrap (s7 * 1000000000)) + (IntKind.u64.wrap (s0.getD s8.toNat 0)))).tdiv (IntKind.u64.wrap (s1))))))
              else none
            else none
        else none
      else none
    else
      some (.exit (s7, b44, ()))
def l_nat_N_short_4L : LSpec := { h := l_nat_N_short_4H, x := l_nat_N_short_4X, r := l_nat_N_short_4R, xid := 0, rt := false, pins := [44], f := fun k d => l_nat_N_short_4 k d.1 d.2.1 d.2.2.1 d.2.2.2.1 d.2.2.2.2.1 }
def LL_nat_N_short : Loops := [([64], [(4, l_nat_N_short_4L)])]
def f_nat_N_short (k : Nat) (a0 : List Int) (a1 : Int) : Option ((List Int) × (List Int)) :=
  if (0 : Int) ≤ (a0.length : Int) then
    if (a0.length : Int) ≤ (a0.length : Int) then
      if (a0.length : Int) * 4 ≤ 281474976710656 then
        match l_nat_N_short_4 k a0 a1 0 (IntKind.i64.wrap ((a0.length : Int) - 1)) (List.replicate ((a0.length : Int).toNat) 0) with
        | none => none
        | some (.exit d1) =>
          (f_nat_N_trim fuel d1.2.1).bind fun r2 =>
          (f_nat_N_trim fuel [IntKind.u32.wrap (d1.1)]).bind fun r3 =>
          some (r2, r3)
        | some (.ret d1) =>
          none
      else none
    else none
  else none
theorem l_nat_N_short_4_step (m : Nat) (d : dens l_nat_N_short_4H.tys) : l_nat_N_short_4L.f (m + 1) d = round E_nat_N_short LL_nat_N_short m [64] 45 (loopN (bodyOf Tryd.f64) 0) l_nat_N_short_4L (l_nat_N_short_4L.f m) d := by kernel_rfl
theorem f_nat_N_short_run (k : Nat) (x : denL [.slice (.int .u32), .int .u32]) : runFn E_nat_N_short LL_nat_N_short k 64 Tryd.f64 [.slice (.int .u32), .int .u32] [.imm (.slice (.int .u32)), .imm (.slice (.int .u32))] x = f_nat_N_short k x.1 x.2 := by kernel_rfl
noncomputable def S_nat_N_short : Vm.Spec := { ps := [.slice (.int .u32), .int .u32], rs := [.imm (.slice (.int .u32)), .imm (.slice (.int .u32))], f := fun x => f_nat_N_short fuel x.1 x.2 }
theorem f_nat_N_short_holds : Vm.Spec.holds Tryd.prog 64 S_nat_N_short := by
  have hB : BodiesOk Tryd.prog E_nat_N_short := bodies_none rfl
  have hBS : BodiesStepped E_nat_N_short LL_nat_N_short := bodies_stepped_none rfl
  have hS : SpecsOk Tryd.prog E_nat_N_short := specs_ok (by exact ⟨⟨by kernel_rfl, f_nat_N_trim_holds⟩, trivial⟩)
  have hE : EOk Tryd.prog E_nat_N_short := eok_te ok
  exact fn_sound (L := LL_nat_N_short) hE hS hB (draws_ok hE hS (by kernel_rfl)) hBS (fn := Tryd.f64) (by kernel_rfl) (c := bodyOf Tryd.f64) (by kernel_rfl) (stepped_of (ls := [(4, l_nat_N_short_4L)]) rfl rfl ⟨by kernel_rfl, fun _ => rfl, l_nat_N_short_4_step, stepsI_end (by kernel_rfl)⟩) fun x r h => ⟨fuel, (f_nat_N_short_run fuel x).trans h⟩

/-! (gamehall/nat.N).Div -/
noncomputable def E_nat_N_Div : Env := { te := te, spec := [(50, S_nat_N_Cmp), (52, S_nat_N_Mul), (62, S_nat_N_trim), (64, S_nat_N_short)], body := [(65, Tryd.f65), (66, Tryd.f66)] }
def l_nat_N_Div_7H : Ann := { slots := [(0, .one (.val (.slice (.int .u32)))), (7, .one (.own 188 (.int .u32)))], objs := [(188, .buf (.int .u32))] }
def l_nat_N_Div_7X : Ann := { slots := [(7, .one (.own 188 (.int .u32)))], objs := [(188, .buf (.int .u32))] }
def l_nat_N_Div_7R : Ann := { slots := [], objs := [] }
def l_nat_N_Div_16H : Ann := { slots := [(7, .one (.own 188 (.int .u32))), (8, .one (.own 204 (.int .u32))), (9, .one (.val (.int .i64))), (11, .one (.val (.int .i64))), (13, .one (.val (.int .u64))), (14, .one (.val (.int .u64)))], objs := [(188, .buf (.int .u32)), (204, .buf (.int .u32))] }
def l_nat_N_Div_16X : Ann := { slots := [(7, .one (.own 188 (.int .u32))), (8, .one (.own 204 (.int .u32))), (13, .one (.val (.int .u64)))], objs := [(188, .buf (.int .u32)), (204, .buf (.int .u32))] }
def l_nat_N_Div_16R : Ann := { slots := [], objs := [] }
def l_nat_N_minus__nat_N_Div_4H : Ann := { slots := [(0, .one (.own 188 (.int .u32))), (1, .one (.own 204 (.int .u32))), (2, .one (.val (.int .i64))), (3, .one (.val (.int .u64))), (9, .one (.val (.int .i64))), (10, .one (.val (.int .u64))), (11, .one (.val (.int .i64)))], objs := [(188, .buf (.int .u32)), (204, .buf (.int .u32))] }
def l_nat_N_minus__nat_N_Div_4X : Ann := { slots := [(9, .one (.val (.int .i64)))], objs := [(188, .buf (.int .u32)), (204, .buf (.int .u32))] }
def l_nat_N_minus__nat_N_Div_4R : Ann := { slots := [], objs := [] }
def l_nat_N_plus__nat_N_Div_2H : Ann := { slots := [(0, .one (.own 188 (.int .u32))), (1, .one (.own 204 (.int .u32))), (2, .one (.val (.int .i64))), (6, .one (.val (.int .u32))), (7, .one (.val (.int .i64)))], objs := [(188, .buf (.int .u32)), (204, .buf (.int .u32))] }
def l_nat_N_plus__nat_N_Div_2X : Ann := { slots := [], objs := [(188, .buf (.int .u32)), (204, .buf (.int .u32))] }
def l_nat_N_plus__nat_N_Div_2R : Ann := { slots := [], objs := [] }
def l_nat_N_Div_12H : Ann := { slots := [(7, .one (.own 188 (.int .u32))), (8, .one (.own 204 (.int .u32))), (9, .one (.val (.int .i64))), (10, .one (.own 264 (.int .u32))), (11, .one (.val (.int .i64)))], objs := [(188, .buf (.int .u32)), (204, .buf (.int .u32)), (264, .buf (.int .u32))] }
def l_nat_N_Div_12X : Ann := { slots := [(7, .one (.own 188 (.int .u32))), (10, .one (.own 264 (.int .u32)))], objs := [(188, .buf (.int .u32)), (264, .buf (.int .u32)), (204, .buf (.int .u32))] }
def l_nat_N_Div_12R : Ann := { slots := [], objs := [] }
def l_nat_N_Div_7 : Nat → List Int → List Int → Option (LR l_nat_N_Div_7X l_nat_N_Div_7R)
  | 0, _, _ => none
  | m + 1, s0, b188 =>
    if decide ((b188.length : Int) ≤ (s0.length : Int)) = true then
      if (b188.length + 1) * 4 ≤ 140737488355328 then
        l_nat_N_Div_7 m s0 (b188 ++ [0])
      else none
    else
      some (.exit (b188, ()))
def l_nat_N_Div_7L : LSpec := { h := l_nat_N_Div_7H, x := l_nat_N_Div_7X, r := l_nat_N_Div_7R, xid := 0, rt := false, pins := [], f := fun k d => l_nat_N_Div_7 k d.1 d.2.1 }
def l_nat_N_Div_16 : Nat → Int → Int → Int → Int → List Int → List Int → Option (LR l_nat_N_Div_16X l_nat_N_Div_16R)
  | 0, _, _, _, _, _, _ => none
  | m + 1, s9, s11, s13, s14, b188, b204 =>
    if decide (s13 ≥ 1000000000) = false then
      if (0 : Int) ≤ IntKind.i64.wrap (s9 - 2) then
        if IntKind.i64.wrap (s9 - 2) < b204.length then
          if (0 : Int) ≤ IntKind.i64.wrap ((IntKind.i64.wrap (s11 + s9)) - 2) then
            if IntKind.i64.wrap ((IntKind.i64.wrap (s11 + s9)) - 2) < b188.length then
              if decide (IntKind.u64.wrap (s13 * (IntKind.u64.wrap (b204.getD ((IntKind.i64.wrap (s9 - 2)).toNat) 0))) > IntKind.u64.wrap ((IntKind.u64.wrap (s14 * 1000000000)) + (IntKind.u64.wrap (b188.getD ((IntKind.i64.wrap ((IntKind.i64.wrap (s11 + s9)) - 2)).toNat) 0)))) = true then
                if (0 : Int) ≤ IntKind.i64.wrap (s9 - 1) then
                  if IntKind.i64.wrap (s9 - 1) < b204.length then
                    if decide (IntKind.u64.wrap (s14 + (IntKind.u64.wrap (b204.getD ((IntKind.i64.wrap (s9 - 1)).toNat) 0))) ≥ 1000000000) = true then
                      some (.exit (IntKind.u64.wrap (s13 - 1), b188, b204, ()))
                    else
                      l_nat_N_Div_16 m s9 s11 (IntKind.u64.wrap (s13 - 1)) (IntKind.u64.wrap (s14 + (IntKind.u64.wrap (b204.getD ((IntKind.i64.wrap (s9 - 1)).toNat) 0)))) b188 b204
                  else none
                else none
              else
                some (.exit (s13, b188, b204, ()))
            else none
          else none
        else none
      else none
    else
      if (0 : Int) ≤ IntKind.i64.wrap (s9 - 1) then
        if IntKind.i64.wrap (s9 - 1) < b204.length then
          if decide (IntKind.u64.wrap (s14 + (IntKind.u64.wrap (b204.getD ((IntKind.i64.wrap (s9 - 1)).toNat) 0))) ≥ 1000000000) = true then
            some (.exit (IntKind.u64.wrap (s13 - 1), b188, b204, ()))
          else
            l_nat_N_Div_16 m s9 s11 (IntKind.u64.wrap (s13 - 1)) (IntKind.u64.wrap (s14 + (IntKind.u64.wrap (b204.getD ((IntKind.i64.wrap (s9 - 1)).toNat) 0)))) b188 b204
        else none
      else none
def l_nat_N_Div_16L : LSpec := { h := l_nat_N_Div_16H, x := l_nat_N_Div_16X, r := l_nat_N_Div_16R, xid := 4, rt := false, pins := [188, 204], f := fun k d => l_nat_N_Div_16 k d.1 d.2.1 d.2.2.1 d.2.2.2.1 d.2.2.2.2.1 d.2.2.2.2.2.1 }
def l_nat_N_minus__nat_N_Div_4 : Nat → Int → Int → Int → Int → Int → List Int → List Int → Option (LR l_nat_N_minus__nat_N_Div_4X l_nat_N_minus__nat_N_Div_4R)
  | 0, _, _, _, _, _, _, _ => none
  | m + 1, s2, s3, s9, s10, s11, b188, b204 =>
    if decide (s11 ≤ (b204.length : Int)) = true then
      if decide (s11 < (b204.length : Int)) = true then
        if (0 : Int) ≤ s11 then
          if s11 < b204.length then
            if (0 : Int) ≤ IntKind.i64.wrap (s2 + s11) then
              if IntKind.i64.wrap (s2 + s11) < b188.length then
                if decide (IntKind.i64.wrap ((IntKind.i64.wrap ((IntKind.i64.wrap (b188.getD ((IntKind.i64.wrap (s2 + s11)).toNat) 0)) - (IntKind.i64.wrap ((IntKind.u64.wrap (s10 + (IntKind.u64.wrap (s3 * (IntKind.u64.wrap (b204.getD s11.toNat 0)))))).tmod 1000000000)))) - s9) < 0) = true then
                  if (0 : Int) ≤ IntKind.i64.wrap (s2 + s11) then
                    if IntKind.i64.wrap (s2 + s11) < b188.length then
                      l_nat_N_minus__nat_N_Div_4 m s2 s3 1 (IntKind.u64.wrap ((IntKind.u64.wrap (s10 + (IntKind.u64.wrap (s3 * (IntKind.u64.wrap (b204.getD s11.toNat 0)))))).tdiv 1000000000)) (IntKind.i64.wrap (s11 + 1)) (b188.set ((IntKind.i64.wrap (s2 + s11)).toNat) (IntKind.u32.wrap (IntKind.i64.wrap ((IntKind.i64.wrap ((IntKind.i64.wrap ((IntKind.i64.wrap (b188.getD ((IntKind.i64.wrap (s2 + s11)).toNat) 0)) - (IntKind.i64.wrap ((IntKind.u64.wrap (s10 + (IntKind.u64.wrap (s3 * (IntKind.u64.wrap (b204.getD s11.toNat 0)))))).tmod 1000000000)))) - s9)) + 1000000000)))) b204
                    else none
                  else none
                else
                  if (0 : Int) ≤ IntKind.i64.wrap (s2 + s11) then
                    if IntKind.i64.wrap (s2 + s11) < b188.length then
                      l_nat_N_minus__nat_N_Div_4 m s2 s3 0 (IntKind.u64.wrap ((IntKind.u64.wrap (s10 + (IntKind.u64.wrap (s3 * (IntKind.u64.wrap (b204.getD s11.toNat 0)))))).tdiv 1000000000)) (IntKind.i64.wrap (s11 + 1)) (b188.set ((IntKind.i64.wrap (s2 + s11)).toNat) (IntKind.u32.wrap (IntKind.i64.wrap ((IntKind.i64.wrap ((IntKind.i64.wrap (b188.getD ((IntKind.i64.wrap (s2 + s11)).toNat) 0)) - (IntKind.i64.wrap ((IntKind.u64.wrap (s10 + (IntKind.u64.wrap (s3 * (IntKind.u64.wrap (b204.getD s11.toNat 0)))))).tmod 1000000000)))) - s9)))) b204
                    else none
                  else none
              else none
            else none
          else none
        else none
      else
        if (0 : Int) ≤ IntKind.i64.wrap (s2 + s11) then
          if IntKind.i64.wrap (s2 + s11) < b188.length then
            if decide (IntKind.i64.wrap ((IntKind.i64.wrap ((IntKind.i64.wrap (b188.getD ((IntKind.i64.wrap (s2 + s11)).toNat) 0)) - (IntKind.i64.wrap (s10.tmod 1000000000)))) - s9) < 0) = true then
              if (0 : Int) ≤ IntKind.i64.wrap (s2 + s11) then
                if IntKind.i64.wrap (s2 + s11) < b188.length then
                  l_nat_N_minus__nat_N_Div_4 m s2 s3 1 (IntKind.u64.wrap (s10.tdiv 1000000000)) (IntKind.i64.wrap (s11 + 1)) (b188.set ((IntKind.i64.wrap (s2 + s11)).toNat) (IntKind.u32.wrap (IntKind.i64.wrap ((IntKind.i64.wrap ((IntKind.i64.wrap ((IntKind.i64.wrap (b188.getD ((IntKind.i64.wrap (s2 + s11)).toNat) 0)) - (IntKind.i64.wrap (s10.tmod 1000000000)))) - s9)) + 1000000000)))) b204
                else none
              else none
            else
              if (0 : Int) ≤ IntKind.i64.wrap (s2 + s11) then
                if IntKind.i64.wrap (s2 + s11) < b188.length then
                  l_nat_N_minus__nat_N_Div_4 m s2 s3 0 (IntKind.u64.wrap (s10.tdiv 1000000000)) (IntKind.i64.wrap (s11 + 1)) (b188.set ((IntKind.i64.wrap (s2 + s11)).toNat) (IntKind.u32.wrap (IntKind.i64.wrap ((IntKind.i64.wrap ((IntKind.i64.wrap (b188.getD ((IntKind.i64.wrap (s2 + s11)).toNat) 0)) - (IntKind.i64.wrap (s10.tmod 1000000000)))) - s9)))) b204
                else none
              else none
          else none
        else none
    else
      some (.exit (s9, b188, b204, ()))
def l_nat_N_minus__nat_N_Div_4L : LSpec := { h := l_nat_N_minus__nat_N_Div_4H, x := l_nat_N_minus__nat_N_Div_4X, r := l_nat_N_minus__nat_N_Div_4R, xid := 0, rt := false, pins := [188, 204], f := fun k d => l_nat_N_minus__nat_N_Div_4 k d.1 d.2.1 d.2.2.1 d.2.2.2.1 d.2.2.2.2.1 d.2.2.2.2.2.1 d.2.2.2.2.2.2.1 }
def l_nat_N_plus__nat_N_Div_2 : Nat → Int → Int → Int → List Int → List Int → Option (LR l_nat_N_plus__nat_N_Div_2X l_nat_N_plus__nat_N_Div_2R)
  | 0, _, _, _, _, _ => none
  | m + 1, s2, s6, s7, b188, b204 =>
    if decide (s7 ≤ (b204.length : Int)) = true then
      if (0 : Int) ≤ IntKind.i64.wrap (s2 + s7) then
        if IntKind.i64.wrap (s2 + s7) < b188.length then
          if decide (s7 < (b204.length : Int)) = true then
            if (0 : Int) ≤ s7 then
              if s7 < b204.length then
                if (0 : Int) ≤ IntKind.i64.wrap (s2 + s7) then
                  if IntKind.i64.wrap (s2 + s7) < b188.length then
                    l_nat_N_plus__nat_N_Div_2 m s2 (IntKind.u32.wrap ((IntKind.u32.wrap ((IntKind.u32.wrap ((b188.getD ((IntKind.i64.wrap (s2 + s7)).toNat) 0) + s6)) + (b204.getD s7.toNat 0))).tdiv 1000000000)) (IntKind.i64.wrap (s7 + 1)) (b188.set ((IntKind.i64.wrap (s2 + s7)).toNat) ((IntKind.u32.wrap ((IntKind.u32.wrap ((b188.getD ((IntKind.i64.wrap (s2 + s7)).toNat) 0) + s6)) + (b204.getD s7.toNat 0))).tmod 1000000000)) b204
                  else none
                else none
              else none
            else none
          else
            if (0 : Int) ≤ IntKind.i64.wrap (s2 + s7) then
              if IntKind.i64.wrap (s2 + s7) < b188.length then
                l_nat_N_plus__nat_N_Div_2 m s2 (IntKind.u32.wrap ((IntKind.u32.wrap ((b188.getD ((IntKind.i64.wrap (s2 + s7)).toNat) 0) + s6)).tdiv 1000000000)) (IntKind.i64.wrap (s7 + 1)) (b188.set ((IntKind.i64.wrap (s2 + s7)).toNat) ((IntKind.u32.wrap ((b188.getD ((IntKind.i64.wrap (s2 + s7)).toNat) 0) + s6)).tmod 1000000000)) b204
              else none
            else none
        else none
      else none
    else
      some (.exit (b188, b204, ()))
def l_nat_N_plus__nat_N_Div_2L : LSpec := { h := l_nat_N_plus__nat_N_Div_2H, x := l_nat_N_plus__nat_N_Div_2X, r := l_nat_N_plus__nat_N_Div_2R, xid := 0, rt := false, pins := [188, 204], f := fun k d => l_nat_N_plus__nat_N_Div_2 k d.1 d.2.1 d.2.2.1 d.2.2.2.1 d.2.2.2.2.1 }
def l_nat_N_Div_12 : Nat → Int → Int → List Int → List Int → List Int → Option (LR l_nat_N_Div_12X l_nat_N_Div_12R)
  | 0, _, _, _, _, _ => none
  | m + 1, s9, s11, b188, b204, b264 =>
    if decide (s11 ≥ 0) = true then
      if (0 : Int) ≤ IntKind.i64.wrap (s11 + s9) then
        if IntKind.i64.wrap (s11 + s9) < b188.length then
          if (0 : Int) ≤ IntKind.i64.wrap ((IntKind.i64.wrap (s11 + s9)) - 1) then
            if IntKind.i64.wrap ((IntKind.i64.wrap (s11 + s9)) - 1) < b188.length then
              if (0 : Int) ≤ IntKind.i64.wrap (s9 - 1) then
                if IntKind.i64.wrap (s9 - 1) < b204.length then
                  if IntKind.u64.wrap (b204.getD ((IntKind.i64.wrap (s9 - 1)).toNat) 0) = 0 then
                    none
                  else
                    if (0 : Int) ≤ IntKind.i64.wrap (s9 - 1) then
                      if IntKind.i64.wrap (s9 - 1) < b204.length then
                        if IntKind.u64.wrap (b204.getD ((IntKind.i64.wrap (s9 - 1)).toNat) 0) = 0 then
                          none
                        else
                          match l_nat_N_Div_16 m s9 s11 (IntKind.u64.wrap ((IntKind.u64.wrap ((IntKind.u64.wrap ((IntKind.u64.wrap (b188.getD ((IntKind.i64.wrap (s11 + s9)).toNat) 0)) * 1000000000)) + (IntKind.u64.wrap (b188.getD ((IntKind.i64.wrap ((IntKind.i64.wrap (s11 + s9)) - 1)).toNat) 0)))).tdiv (IntKind.u64.wrap (b204.getD ((IntKind.i64.wrap (s9 - 1)).toNat) 0)))) ((IntKind.u64.wrap ((IntKind.u64.wrap ((IntKind.u64.wrap (b188.getD ((IntKind.i64.wrap (s11 + s9)).toNat) 0)) * 1000000000)) + (IntKind.u64.wrap (b188.getD ((IntKind.i64.wrap ((IntKind.i64.wrap (s11 + s9)) - 1)).toNat) 0)))).tmod (IntKind.u64.wrap (b204.getD ((IntKind.i64.wrap (s9 - 1)).toNat) 0))) b188 b204 with
                          | none => none
                          | some (.exit d1) =>
                            match l_nat_N_minus__nat_N_Div_4 m s11 d1.1 0 0 0 d1.2.1 d1.2.2.1 with
                            | none => none
                            | some (.exit d2) =>
                              if decide (d2.1 > 0) = true then
                                match l_nat_N_plus__nat_N_Div_2 m s11 0 0 d2.2.1 d2.2.2.1 with
                                | none => none
                                | some (.exit d3) =>
                                  if (0 : Int) ≤ s11 then
                                    if s11 < b264.length then
                                      l_nat_N_Div_12 m s9 (IntKind.i64.wrap (s11 - 1)) d3.1 d3.2.1 (b264.set s11.toNat (IntKind.u32.wrap (IntKind.u64.wrap (d1.1 - 1))))
                                    else none
                                  else none
                                | some (.ret d3) =>
                                  none
                              else
                                if (0 : Int) ≤ s11 then
                                  if s11 < b264.length then
                                    l_nat_N_Div_12 m s9 (IntKind.i64.wrap (s11 - 1)) d2.2.1 d2.2.2.1 (b264.set s11.toNat (IntKind.u32.wrap (d1.1)))
                                  else none
                                else none
                            | some (.ret d2) =>
                              none
                          | some (.ret d1) =>
                            none
                      else none
                    else none
                else none
              else none
            else none
          else none
        else none
      else none
    else
      some (.exit (b188, b264, b204, ()))
def l_nat_N_Div_12L : LSpec := { h := l_nat_N_Div_12H, x := l_nat_N_Div_12X, r := l_nat_N_Div_12R, xid := 2, rt := false, pins := [188, 204, 264], f := fun k d => l_nat_N_Div_12 k d.1 d.2.1 d.2.2.1 d.2.2.2.1 d.2.2.2.2.1 }
def LL_nat_N_Div : Loops := [([58], [(7, l_nat_N_Div_7L), (12, l_nat_N_Div_12L), (16, l_nat_N_Div_16L)]), ([65, 58], [(4, l_nat_N_minus__nat_N_Div_4L)]), ([66, 58], [(2, l_nat_N_plus__nat_N_Div_2L)])]
def f_nat_N_Div (k : Nat) (a0 : List Int) (a1 : List Int) : Option ((List Int) × (List Int)) :=
  (f_nat_N_Cmp fuel a0 a1).bind fun r1 =>
  if decide (r1 < 0) = true then
    some ([], a0)
  else
    if ((a1.length : Int) == 1) = true then
      if (0 : Int) < a1.length then
        (f_nat_N_short fuel a0 (a1.getD 0 0)).bind fun r2 =>
        some (r2.1, r2.2)
      else none
    else
      if (0 : Int) ≤ IntKind.i64.wrap ((a1.length : Int) - 1) then
        if IntKind.i64.wrap ((a1.length : Int) - 1) < a1.length then
          if IntKind.u64.wrap ((IntKind.u64.wrap (a1.getD ((IntKind.i64.wrap ((a1.length : Int) - 1)).toNat) 0)) + 1) = 0 then
            none
          else
            (f_nat_N_Mul fuel a0 [IntKind.u32.wrap (IntKind.u64.wrap ((1000000000 : Int).tdiv (IntKind.u64.wrap ((IntKind.u64.wrap (a1.getD ((IntKind.i64.wrap ((a1.length : Int) - 1)).toNat) 0)) + 1))))]).bind fun r3 =>
            if (r3.length + 1) * 4 ≤ 140737488355328 then
              (f_nat_N_Mul fuel a1 [IntKind.u32.wrap (IntKind.u64.wrap ((1000000000 : Int).tdiv (IntKind.u64.wrap ((IntKind.u64.wrap (a1.getD ((IntKind.i64.wrap ((a1.length : Int) - 1)).toNat) 0)) + 1))))]).bind fun r4 =>
              match l_nat_N_Div_7 k a0 (r3 ++ [0]) with
              | none => none
              | some (.exit d5) =>
                if (0 : Int) ≤ IntKind.i64.wrap ((d5.1.length : Int) - (r4.length : Int)) then
                  if IntKind.i64.wrap ((d5.1.length : Int) - (r4.length : Int)) ≤ IntKind.i64.wrap ((d5.1.length : Int) - (r4.length : Int)) then
                    if (IntKind.i64.wrap ((d5.1.length : Int) - (r4.length : Int))) * 4 ≤ 281474976710656 then
                      match l_nat_N_Div_12 k (r4.length : Int) (IntKind.i64.wrap ((IntKind.i64.wrap ((d5.1.length : Int) - (r4.length : Int))) - 1)) d5.1 r4 (List.replicate ((IntKind.i64.wrap ((d5.1.length : Int) - (r4.length : Int))).toNat) 0) with
                      | none => none
                      | some (.exit d6) =>
                        (f_nat_N_trim fuel d6.1).bind fun r7 =>
                        (f_nat_N_short fuel r7 (IntKind.u32.wrap (IntKind.u64.wrap ((1000000000 : Int).tdiv (IntKind.u64.wrap ((IntKind.u64.wrap (a1.getD ((IntKind.i64.wrap ((a1.length : Int) - 1)).toNat) 0)) + 1)))))).bind fun r8 =>
                        (f_nat_N_trim fuel d6.2.1).bind fun r9 =>
                        some (r9, r8.1)
                      | some (.ret d6) =>
                        none
                    else none
                  else none
                else none
              | some (.ret d5) =>
                none
            else none
        else none
      else none
theorem l_nat_N_Div_7_step (m : Nat) (d : dens l_nat_N_Div_7H.tys) : l_nat_N_Div_7L.f (m + 1) d = round E_nat_N_Div LL_nat_N_Div m [58] 171 (loopN (bodyOf Tryd.f58) 0) l_nat_N_Div_7L (l_nat_N_Div_7L.f m) d := by kernel_rfl
theorem l_nat_N_Div_16_step (m : Nat) (d : dens l_nat_N_Div_16H.tys) : l_nat_N_Div_16L.f (m + 1) d = round E_nat_N_Div LL_nat_N_Div m [58] 171 (loopN (bodyOf Tryd.f58) 2) l_nat_N_Div_16L (l_nat_N_Div_16L.f m) d := by kernel_rfl
theorem l_nat_N_minus__nat_N_Div_4_step (m : Nat) (d : dens l_nat_N_minus__nat_N_Div_4H.tys) : l_nat_N_minus__nat_N_Div_4L.f (m + 1) d = round E_nat_N_Div LL_nat_N_Div m [65, 58] 62 (loopN (bodyOf Tryd.f65) 0) l_nat_N_minus__nat_N_Div_4L (l_nat_N_minus__nat_N_Div_4L.f m) d := by kernel_rfl
theorem l_nat_N_plus__nat_N_Div_2_step (m : Nat) (d : dens l_nat_N_plus__nat_N_Div_2H.tys) : l_nat_N_plus__nat_N_Div_2L.f (m + 1) d = round E_nat_N_Div LL_nat_N_Div m [66, 58] 42 (loopN (bodyOf Tryd.f66) 0) l_nat_N_plus__nat_N_Div_2L (l_nat_N_plus__nat_N_Div_2L.f m) d := by kernel_rfl
theorem l_nat_N_Div_12_step (m : Nat) (d : dens l_nat_N_Div_12H.tys) : l_nat_N_Div_12L.f (m + 1) d = round E_nat_N_Div LL_nat_N_Div m [58] 171 (loopN (bodyOf Tryd.f58) 1) l_nat_N_Div_12L (l_nat_N_Div_12L.f m) d := by kernel_rfl
theorem f_nat_N_Div_run (k : Nat) (x : denL [.slice (.int .u32), .slice (.int .u32)]) : runFn E_nat_N_Div LL_nat_N_Div k 58 Tryd.f58 [.slice (.int .u32), .slice (.int .u32)] [.imm (.slice (.int .u32)), .imm (.slice (.int .u32))] x = f_nat_N_Div k x.1 x.2 := by kernel_rfl
noncomputable def S_nat_N_Div : Vm.Spec := { ps := [.slice (.int .u32), .slice (.int .u32)], rs := [.imm (.slice (.int .u32)), .imm (.slice (.int .u32))], f := fun x => f_nat_N_Div fuel x.1 x.2 }
theorem f_nat_N_Div_holds : Vm.Spec.holds Tryd.prog 58 S_nat_N_Div := by
  have hB : BodiesOk Tryd.prog E_nat_N_Div := bodies_ok (by exact ⟨by kernel_rfl, by kernel_rfl, by kernel_rfl, by kernel_rfl, trivial⟩)
  have hBS : BodiesStepped E_nat_N_Div LL_nat_N_Div := by
    refine bodies_stepped ?_
    exact ⟨(stepped_paths [[58]] (by exact ⟨stepped_of (ls := [(4, l_nat_N_minus__nat_N_Div_4L)]) rfl rfl ⟨by kernel_rfl, fun _ => rfl, l_nat_N_minus__nat_N_Div_4_step, stepsI_end (by kernel_rfl)⟩,  trivial⟩) rfl), (stepped_paths [[58]] (by exact ⟨stepped_of (ls := [(2, l_nat_N_plus__nat_N_Div_2L)]) rfl rfl ⟨by kernel_rfl, fun _ => rfl, l_nat_N_plus__nat_N_Div_2_step, stepsI_end (by kernel_rfl)⟩,  trivial⟩) rfl),  trivial⟩
  have hS : SpecsOk Tryd.prog E_nat_N_Div := specs_ok (by exact ⟨⟨by kernel_rfl, f_nat_N_Cmp_holds⟩, ⟨by kernel_rfl, f_nat_N_Mul_holds⟩, ⟨by kernel_rfl, f_nat_N_trim_holds⟩, ⟨by kernel_rfl, f_nat_N_short_holds⟩, trivial⟩)
  have hE : EOk Tryd.prog E_nat_N_Div := eok_te ok
  exact fn_sound (L := LL_nat_N_Div) hE hS hB (draws_ok hE hS (by kernel_rfl)) hBS (fn := Tryd.f58) (by kernel_rfl) (c := bodyOf Tryd.f58) (by kernel_rfl) (stepped_of (ls := [(7, l_nat_N_Div_7L), (12, l_nat_N_Div_12L), (16, l_nat_N_Div_16L)]) rfl rfl ⟨by kernel_rfl, fun _ => rfl, l_nat_N_Div_7_step, by kernel_rfl, fun _ => rfl, l_nat_N_Div_12_step, by kernel_rfl, fun _ => rfl, l_nat_N_Div_16_step, stepsI_end (by kernel_rfl)⟩) fun x r h => ⟨fuel, (f_nat_N_Div_run fuel x).trans h⟩

/-! (gamehall/nat.N).Gcd -/
noncomputable def E_nat_N_Gcd : Env := { te := te, spec := [(58, S_nat_N_Div)], body := [] }
def l_nat_N_Gcd_1H : Ann := { slots := [(0, .one (.val (.slice (.int .u32)))), (1, .one (.val (.slice (.int .u32))))], objs := [] }
def l_nat_N_Gcd_1X : Ann := { slots := [(0, .one (.val (.slice (.int .u32))))], objs := [] }
def l_nat_N_Gcd_1R : Ann := { slots := [], objs := [] }
def l_nat_N_Gcd_1 : Nat → List Int → List Int → Option (LR l_nat_N_Gcd_1X l_nat_N_Gcd_1R)
  | 0, _, _ => none
  | m + 1, s0, s1 =>
    if decide ((s1.length : Int) > 0) = true then
      (f_nat_N_Div fuel s0 s1).bind fun r1 =>
      l_nat_N_Gcd_1 m s1 r1.2
    else
      some (.exit (s0, ()))
def l_nat_N_Gcd_1L : LSpec := { h := l_nat_N_Gcd_1H, x := l_nat_N_Gcd_1X, r := l_nat_N_Gcd_1R, xid := 0, rt := false, pins := [], f := fun k d => l_nat_N_Gcd_1 k d.1 d.2.1 }
def LL_nat_N_Gcd : Loops := [([49], [(1, l_nat_N_Gcd_1L)])]
def f_nat_N_Gcd (k : Nat) (a0 : List Int) (a1 : List Int) : Option (List Int) :=
  match l_nat_N_Gcd_1 k a0 a1 with
  | none => none
  | some (.exit d1) =>
    some d1.1
  | some (.ret d1) =>
    none
theorem l_nat_N_Gcd_1_step (m : Nat) (d : dens l_nat_N_Gcd_1H.tys) : l_nat_N_Gcd_1L.f (m + 1) d = round E_nat_N_Gcd LL_nat_N_Gcd m [49] 19 (loopN (bodyOf Tryd.f49) 0) l_nat_N_Gcd_1L (l_nat_N_Gcd_1L.f m) d := by kernel_rfl
theorem f_nat_N_Gcd_run (k : Nat) (x : denL [.slice (.int .u32), .slice (.int .u32)]) : runFn E_nat_N_Gcd LL_nat_N_Gcd k 49 Tryd.f49 [.slice (.int .u32), .slice (.int .u32)] [.imm (.slice (.int .u32))] x = f_nat_N_Gcd k x.1 x.2 := by kernel_rfl
noncomputable def S_nat_N_Gcd : Vm.Spec := { ps := [.slice (.int .u32), .slice (.int .u32)], rs := [.imm (.slice (.int .u32))], f := fun x => f_nat_N_Gcd fuel x.1 x.2 }
theorem f_nat_N_Gcd_holds : Vm.Spec.holds Tryd.prog 49 S_nat_N_Gcd := by
  have hB : BodiesOk Tryd.prog E_nat_N_Gcd := bodies_none rfl
  have hBS : BodiesStepped E_nat_N_Gcd LL_nat_N_Gcd := bodies_stepped_none rfl
  have hS : SpecsOk Tryd.prog E_nat_N_Gcd := specs_ok (by exact ⟨⟨by kernel_rfl, f_nat_N_Div_holds⟩, trivial⟩)
  have hE : EOk Tryd.prog E_nat_N_Gcd := eok_te ok
  exact fn_sound (L := LL_nat_N_Gcd) hE hS hB (draws_ok hE hS (by kernel_rfl)) hBS (fn := Tryd.f49) (by kernel_rfl) (c := bodyOf Tryd.f49) (by kernel_rfl) (stepped_of (ls := [(1, l_nat_N_Gcd_1L)]) rfl rfl ⟨by kernel_rfl, fun _ => rfl, l_nat_N_Gcd_1_step, stepsI_end (by kernel_rfl)⟩) fun x r h => ⟨fuel, (f_nat_N_Gcd_run fuel x).trans h⟩

/-! internal/stringslite.HasPrefix -/
noncomputable def E_stringslite_HasPrefix : Env := { te := te, spec := [], body := [] }
def LL_stringslite_HasPrefix : Loops := []
def f_stringslite_HasPrefix (k : Nat) (a0 : ByteArray) (a1 : ByteArray) : Option (Bool) :=
  if decide ((a0.size : Int) ≥ (a1.size : Int)) = true then
    if (0 : Int) ≤ (a1.size : Int) then
      if (a1.size : Int) ≤ a0.size then
        some (((a0.extract 0 (a1.size : Int).toNat).toList == a1.toList))
      else none
    else none
  else
    some false
theorem f_stringslite_HasPrefix_run (k : Nat) (x : denL [.str, .str]) : runFn E_stringslite_HasPrefix LL_stringslite_HasPrefix k 67 Tryd.f67 [.str, .str] [.imm .bool] x = f_stringslite_HasPrefix k x.1 x.2 := by kernel_rfl
noncomputable def S_stringslite_HasPrefix : Vm.Spec := { ps := [.str, .str], rs := [.imm .bool], f := fun x => f_stringslite_HasPrefix fuel x.1 x.2 }
theorem f_stringslite_HasPrefix_holds : Vm.Spec.holds Tryd.prog 67 S_stringslite_HasPrefix := by
  have hB : BodiesOk Tryd.prog E_stringslite_HasPrefix := bodies_none rfl
  have hBS : BodiesStepped E_stringslite_HasPrefix LL_stringslite_HasPrefix := bodies_stepped_none rfl
  have hS : SpecsOk Tryd.prog E_stringslite_HasPrefix := specs_ok (by exact trivial)
  have hE : EOk Tryd.prog E_stringslite_HasPrefix := eok_te ok
  exact fn_sound (L := LL_stringslite_HasPrefix) hE hS hB (draws_ok hE hS (by kernel_rfl)) hBS (fn := Tryd.f67) (by kernel_rfl) (c := bodyOf Tryd.f67) (by kernel_rfl) (stepped_none rfl) fun x r h => ⟨fuel, (f_stringslite_HasPrefix_run fuel x).trans h⟩

/-! internal/stringslite.CutPrefix -/
noncomputable def E_stringslite_CutPrefix : Env := { te := te, spec := [(67, S_stringslite_HasPrefix)], body := [] }
def LL_stringslite_CutPrefix : Loops := []
def f_stringslite_CutPrefix (k : Nat) (a0 : ByteArray) (a1 : ByteArray) : Option (ByteArray × Bool) :=
  (f_stringslite_HasPrefix fuel a0 a1).bind fun r1 =>
  if (!r1) = true then
    some (a0, false)
  else
    if (0 : Int) ≤ (a1.size : Int) then
      if (a1.size : Int) ≤ a0.size then
        some (a0.extract (a1.size : Int).toNat a0.size, true)
      else none
    else none
theorem f_stringslite_CutPrefix_run (k : Nat) (x : denL [.str, .str]) : runFn E_stringslite_CutPrefix LL_stringslite_CutPrefix k 60 Tryd.f60 [.str, .str] [.imm .str, .imm .bool] x = f_stringslite_CutPrefix k x.1 x.2 := by kernel_rfl
noncomputable def S_stringslite_CutPrefix : Vm.Spec := { ps := [.str, .str], rs := [.imm .str, .imm .bool], f := fun x => f_stringslite_CutPrefix fuel x.1 x.2 }
theorem f_stringslite_CutPrefix_holds : Vm.Spec.holds Tryd.prog 60 S_stringslite_CutPrefix := by
  have hB : BodiesOk Tryd.prog E_stringslite_CutPrefix := bodies_none rfl
  have hBS : BodiesStepped E_stringslite_CutPrefix LL_stringslite_CutPrefix := bodies_stepped_none rfl
  have hS : SpecsOk Tryd.prog E_stringslite_CutPrefix := specs_ok (by exact ⟨⟨by kernel_rfl, f_stringslite_HasPrefix_holds⟩, trivial⟩)
  have hE : EOk Tryd.prog E_stringslite_CutPrefix := eok_te ok
  exact fn_sound (L := LL_stringslite_CutPrefix) hE hS hB (draws_ok hE hS (by kernel_rfl)) hBS (fn := Tryd.f60) (by kernel_rfl) (c := bodyOf Tryd.f60) (by kernel_rfl) (stepped_none rfl) fun x r h => ⟨fuel, (f_stringslite_CutPrefix_run fuel x).trans h⟩

/-! strings.CutPrefix -/
noncomputable def E_strings_CutPrefix : Env := { te := te, spec := [(60, S_stringslite_CutPrefix)], body := [] }
def LL_strings_CutPrefix : Loops := []
def f_strings_CutPrefix (k : Nat) (a0 : ByteArray) (a1 : ByteArray) : Option (ByteArray × Bool) :=
  (f_stringslite_CutPrefix fuel a0 a1).bind fun r1 =>
  some (r1.1, r1.2)
theorem f_strings_CutPrefix_run (k : Nat) (x : denL [.str, .str]) : runFn E_strings_CutPrefix LL_strings_CutPrefix k 45 Tryd.f45 [.str, .str] [.imm .str, .imm .bool] x = f_strings_CutPrefix k x.1 x.2 := by kernel_rfl
noncomputable def S_strings_CutPrefix : Vm.Spec := { ps := [.str, .str], rs := [.imm .str, .imm .bool], f := fun x => f_strings_CutPrefix fuel x.1 x.2 }
theorem f_strings_CutPrefix_holds : Vm.Spec.holds Tryd.prog 45 S_strings_CutPrefix := by
  have hB : BodiesOk Tryd.prog E_strings_CutPrefix := bodies_none rfl
  have hBS : BodiesStepped E_strings_CutPrefix LL_strings_CutPrefix := bodies_stepped_none rfl
  have hS : SpecsOk Tryd.prog E_strings_CutPrefix := specs_ok (by exact ⟨⟨by kernel_rfl, f_stringslite_CutPrefix_holds⟩, trivial⟩)
  have hE : EOk Tryd.prog E_strings_CutPrefix := eok_te ok
  exact fn_sound (L := LL_strings_CutPrefix) hE hS hB (draws_ok hE hS (by kernel_rfl)) hBS (fn := Tryd.f45) (by kernel_rfl) (c := bodyOf Tryd.f45) (by kernel_rfl) (stepped_none rfl) fun x r h => ⟨fuel, (f_strings_CutPrefix_run fuel x).trans h⟩

/-! internal/stringslite.Cut -/
noncomputable def E_stringslite_Cut : Env := { te := te, spec := [(68, Vm.sIndex)], body := [] }
def LL_stringslite_Cut : Loops := []
def f_stringslite_Cut (k : Nat) (a0 : ByteArray) (a1 : ByteArray) : Option (ByteArray × ByteArray × Bool) :=
  (Vm.stdIndex a0 a1).bind fun r1 =>
  if decide (r1 ≥ 0) = true then
    if (0 : Int) ≤ r1 then
      if r1 ≤ a0.size then
        if (0 : Int) ≤ IntKind.i64.wrap (r1 + (a1.size : Int)) then
          if IntKind.i64.wrap (r1 + (a1.size : Int)) ≤ a0.size then
            some (a0.extract 0 r1.toNat, a0.extract (IntKind.i64.wrap (r1 + (a1.size : Int))).toNat a0.size, true)
          else none
        else none
      else none
    else none
  else
    some (a0, (⟨#[]⟩ : ByteArray), false)
theorem f_stringslite_Cut_run (k : Nat) (x : denL [.str, .str]) : runFn E_stringslite_Cut LL_stringslite_Cut k 61 Tryd.f61 [.str, .str] [.imm .str, .imm .str, .imm .bool] x = f_stringslite_Cut k x.1 x.2 := by kernel_rfl
noncomputable def S_stringslite_Cut : Vm.Spec := { ps := [.str, .str], rs := [.imm .str, .imm .str, .imm .bool], f := fun x => f_stringslite_Cut fuel x.1 x.2 }
theorem f_stringslite_Cut_holds : Vm.Spec.holds Tryd.prog 61 S_stringslite_Cut := by
  have hB : BodiesOk Tryd.prog E_stringslite_Cut := bodies_none rfl
  have hBS : BodiesStepped E_stringslite_Cut LL_stringslite_Cut := bodies_stepped_none rfl
  have hS : SpecsOk Tryd.prog E_stringslite_Cut := specs_ok (by exact ⟨⟨by kernel_rfl, g68_holds⟩, trivial⟩)
  have hE : EOk Tryd.prog E_stringslite_Cut := eok_te ok
  exact fn_sound (L := LL_stringslite_Cut) hE hS hB (draws_ok hE hS (by kernel_rfl)) hBS (fn := Tryd.f61) (by kernel_rfl) (c := bodyOf Tryd.f61) (by kernel_rfl) (stepped_none rfl) fun x r h => ⟨fuel, (f_stringslite_Cut_run fuel x).trans h⟩

/-! strings.Cut -/
noncomputable def E_strings_Cut : Env := { te := te, spec := [(61, S_stringslite_Cut)], body := [] }
def LL_strings_Cut : Loops := []
def f_strings_Cut (k : Nat) (a0 : ByteArray) (a1 : ByteArray) : Option (ByteArray × ByteArray × Bool) :=
  (f_stringslite_Cut fuel a0 a1).bind fun r1 =>
  some (r1.1, r1.2.1, r1.2.2)
theorem f_strings_Cut_run (k : Nat) (x : denL [.str, .str]) : runFn E_strings_Cut LL_strings_Cut k 46 Tryd.f46 [.str, .str] [.imm .str, .imm .str, .imm .bool] x = f_strings_Cut k x.1 x.2 := by kernel_rfl
noncomputable def S_strings_Cut : Vm.Spec := { ps := [.str, .str], rs := [.imm .str, .imm .str, .imm .bool], f := fun x => f_strings_Cut fuel x.1 x.2 }
theorem f_strings_Cut_holds : Vm.Spec.holds Tryd.prog 46 S_strings_Cut := by
  have hB : BodiesOk Tryd.prog E_strings_Cut := bodies_none rfl
  have hBS : BodiesStepped E_strings_Cut LL_strings_Cut := bodies_stepped_none rfl
  have hS : SpecsOk Tryd.prog E_strings_Cut := specs_ok (by exact ⟨⟨by kernel_rfl, f_stringslite_Cut_holds⟩, trivial⟩)
  have hE : EOk Tryd.prog E_strings_Cut := eok_te ok
  exact fn_sound (L := LL_strings_Cut) hE hS hB (draws_ok hE hS (by kernel_rfl)) hBS (fn := Tryd.f46) (by kernel_rfl) (c := bodyOf Tryd.f46) (by kernel_rfl) (stepped_none rfl) fun x r h => ⟨fuel, (f_strings_Cut_run fuel x).trans h⟩

/-! (gamehall/rat.Q).whole -/
noncomputable def E_rat_Q_whole : Env := { te := te, spec := [(51, S_nat_Of)], body := [] }
def LL_rat_Q_whole : Loops := []
def f_rat_Q_whole (k : Nat) (a0 : Bool × ((List Int) × (List Int))) : Option (List Int) :=
  if ((a0.2.2.length : Int) == 0) = true then
    (f_nat_Of fuel 1).bind fun r1 =>
    some r1
  else
    some a0.2.2
theorem f_rat_Q_whole_run (k : Nat) (x : denL [.pair .bool (.pair (.slice (.int .u32)) (.slice (.int .u32)))]) : runFn E_rat_Q_whole LL_rat_Q_whole k 53 Tryd.f53 [.pair .bool (.pair (.slice (.int .u32)) (.slice (.int .u32)))] [.imm (.slice (.int .u32))] x = f_rat_Q_whole k x := by kernel_rfl
noncomputable def S_rat_Q_whole : Vm.Spec := { ps := [.pair .bool (.pair (.slice (.int .u32)) (.slice (.int .u32)))], rs := [.imm (.slice (.int .u32))], f := fun x => f_rat_Q_whole fuel x }
theorem f_rat_Q_whole_holds : Vm.Spec.holds Tryd.prog 53 S_rat_Q_whole := by
  have hB : BodiesOk Tryd.prog E_rat_Q_whole := bodies_none rfl
  have hBS : BodiesStepped E_rat_Q_whole LL_rat_Q_whole := bodies_stepped_none rfl
  have hS : SpecsOk Tryd.prog E_rat_Q_whole := specs_ok (by exact ⟨⟨by kernel_rfl, f_nat_Of_holds⟩, trivial⟩)
  have hE : EOk Tryd.prog E_rat_Q_whole := eok_te ok
  exact fn_sound (L := LL_rat_Q_whole) hE hS hB (draws_ok hE hS (by kernel_rfl)) hBS (fn := Tryd.f53) (by kernel_rfl) (c := bodyOf Tryd.f53) (by kernel_rfl) (stepped_none rfl) fun x r h => ⟨fuel, (f_rat_Q_whole_run fuel x).trans h⟩

/-! gamehall/rat.low -/
noncomputable def E_rat_low : Env := { te := te, spec := [(49, S_nat_N_Gcd), (50, S_nat_N_Cmp), (51, S_nat_Of), (58, S_nat_N_Div)], body := [] }
def LL_rat_low : Loops := []
def f_rat_low (k : Nat) (a0 : Bool) (a1 : List Int) (a2 : List Int) : Option (Bool × ((List Int) × (List Int))) :=
  if ((a1.length : Int) == 0) = true then
    some (false, ([], []))
  else
    (f_nat_N_Gcd fuel a1 a2).bind fun r1 =>
    (f_nat_Of fuel 1).bind fun r2 =>
    (f_nat_N_Cmp fuel r1 r2).bind fun r3 =>
    if decide (r3 > 0) = true then
      (f_nat_N_Div fuel a1 r1).bind fun r4 =>
      (f_nat_N_Div fuel a2 r1).bind fun r5 =>
      some (a0, (r4.1, r5.1))
    else
      some (a0, (a1, a2))
theorem f_rat_low_run (k : Nat) (x : denL [.bool, .slice (.int .u32), .slice (.int .u32)]) : runFn E_rat_low LL_rat_low k 42 Tryd.f42 [.bool, .slice (.int .u32), .slice (.int .u32)] [.imm (.pair .bool (.pair (.slice (.int .u32)) (.slice (.int .u32))))] x = f_rat_low k x.1 x.2.1 x.2.2 := by kernel_rfl
noncomputable def S_rat_low : Vm.Spec := { ps := [.bool, .slice (.int .u32), .slice (.int .u32)], rs := [.imm (.pair .bool (.pair (.slice (.int .u32)) (.slice (.int .u32))))], f := fun x => f_rat_low fuel x.1 x.2.1 x.2.2 }
theorem f_rat_low_holds : Vm.Spec.holds Tryd.prog 42 S_rat_low := by
  have hB : BodiesOk Tryd.prog E_rat_low := bodies_none rfl
  have hBS : BodiesStepped E_rat_low LL_rat_low := bodies_stepped_none rfl
  have hS : SpecsOk Tryd.prog E_rat_low := specs_ok (by exact ⟨⟨by kernel_rfl, f_nat_N_Gcd_holds⟩, ⟨by kernel_rfl, f_nat_N_Cmp_holds⟩, ⟨by kernel_rfl, f_nat_Of_holds⟩, ⟨by kernel_rfl, f_nat_N_Div_holds⟩, trivial⟩)
  have hE : EOk Tryd.prog E_rat_low := eok_te ok
  exact fn_sound (L := LL_rat_low) hE hS hB (draws_ok hE hS (by kernel_rfl)) hBS (fn := Tryd.f42) (by kernel_rfl) (c := bodyOf Tryd.f42) (by kernel_rfl) (stepped_none rfl) fun x r h => ⟨fuel, (f_rat_low_run fuel x).trans h⟩

/-! gamehall/rat.In -/
noncomputable def E_rat_In : Env := { te := te, spec := [(45, S_strings_CutPrefix), (46, S_strings_Cut), (48, S_nat_Read), (51, S_nat_Of)], body := [] }
def LL_rat_In : Loops := []
def f_rat_In (k : Nat) (a0 : ByteArray) : Option (Bool × ((List Int) × (List Int))) :=
  (f_strings_CutPrefix fuel a0 (⟨#[45]⟩ : ByteArray)).bind fun r1 =>
  (f_strings_Cut fuel r1.1 (⟨#[47]⟩ : ByteArray)).bind fun r2 =>
  (f_nat_Read fuel r2.1).bind fun r3 =>
  (f_nat_Of fuel 1).bind fun r4 =>
  if r2.2.2 = true then
    (f_nat_Read fuel r2.2.1).bind fun r5 =>
    some (r1.2, (r3, r5))
  else
    some (r1.2, (r3, r4))
theorem f_rat_In_run (k : Nat) (x : denL [.str]) : runFn E_rat_In LL_rat_In k 34 Tryd.f34 [.str] [.imm (.pair .bool (.pair (.slice (.int .u32)) (.slice (.int .u32))))] x = f_rat_In k x := by kernel_rfl
noncomputable def S_rat_In : Vm.Spec := { ps := [.str], rs := [.imm (.pair .bool (.pair (.slice (.int .u32)) (.slice (.int .u32))))], f := fun x => f_rat_In fuel x }
theorem f_rat_In_holds : Vm.Spec.holds Tryd.prog 34 S_rat_In := by
  have hB : BodiesOk Tryd.prog E_rat_In := bodies_none rfl
  have hBS : BodiesStepped E_rat_In LL_rat_In := bodies_stepped_none rfl
  have hS : SpecsOk Tryd.prog E_rat_In := specs_ok (by exact ⟨⟨by kernel_rfl, f_strings_CutPrefix_holds⟩, ⟨by kernel_rfl, f_strings_Cut_holds⟩, ⟨by kernel_rfl, f_nat_Read_holds⟩, ⟨by kernel_rfl, f_nat_Of_holds⟩, trivial⟩)
  have hE : EOk Tryd.prog E_rat_In := eok_te ok
  exact fn_sound (L := LL_rat_In) hE hS hB (draws_ok hE hS (by kernel_rfl)) hBS (fn := Tryd.f34) (by kernel_rfl) (c := bodyOf Tryd.f34) (by kernel_rfl) (stepped_none rfl) fun x r h => ⟨fuel, (f_rat_In_run fuel x).trans h⟩

/-! (gamehall/rat.Q).Out -/
noncomputable def E_rat_Q_Out : Env := { te := te, spec := [(53, S_rat_Q_whole), (57, S_nat_N_Text)], body := [] }
def LL_rat_Q_Out : Loops := []
def f_rat_Q_Out (k : Nat) (a0 : Bool × ((List Int) × (List Int))) : Option (ByteArray) :=
  if ((a0.2.1.length : Int) == 0) = true then
    some (⟨#[48]⟩ : ByteArray)
  else
    (f_nat_N_Text fuel a0.2.1).bind fun r1 =>
    if a0.1 = true then
      if (⟨#[45]⟩ : ByteArray).size + r1.size ≤ 4611686018427387904 then
        (f_rat_Q_whole fuel a0).bind fun r2 =>
        (f_nat_N_Text fuel r2).bind fun r3 =>
        if (!(r3.toList == (⟨#[49]⟩ : ByteArray).toList)) = true then
          if (⟨#[47]⟩ : ByteArray).size + r3.size ≤ 4611686018427387904 then
            if ((⟨#[45]⟩ : ByteArray) ++ r1).size + ((⟨#[47]⟩ : ByteArray) ++ r3).size ≤ 4611686018427387904 then
              some (((⟨#[45]⟩ : ByteArray) ++ r1) ++ ((⟨#[47]⟩ : ByteArray) ++ r3))
            else none
          else none
        else
          some ((⟨#[45]⟩ : ByteArray) ++ r1)
      else none
    else
      (f_rat_Q_whole fuel a0).bind fun r4 =>
      (f_nat_N_Text fuel r4).bind fun r5 =>
      if (!(r5.toList == (⟨#[49]⟩ : ByteArray).toList)) = true then
        if (⟨#[47]⟩ : ByteArray).size + r5.size ≤ 4611686018427387904 then
          if r1.size + ((⟨#[47]⟩ : ByteArray) ++ r5).size ≤ 4611686018427387904 then
            some (r1 ++ ((⟨#[47]⟩ : ByteArray) ++ r5))
          else none
        else none
      else
        some r1
theorem f_rat_Q_Out_run (k : Nat) (x : denL [.pair .bool (.pair (.slice (.int .u32)) (.slice (.int .u32)))]) : runFn E_rat_Q_Out LL_rat_Q_Out k 38 Tryd.f38 [.pair .bool (.pair (.slice (.int .u32)) (.slice (.int .u32)))] [.imm .str] x = f_rat_Q_Out k x := by kernel_rfl
noncomputable def S_rat_Q_Out : Vm.Spec := { ps := [.pair .bool (.pair (.slice (.int .u32)) (.slice (.int .u32)))], rs := [.imm .str], f := fun x => f_rat_Q_Out fuel x }
theorem f_rat_Q_Out_holds : Vm.Spec.holds Tryd.prog 38 S_rat_Q_Out := by
  have hB : BodiesOk Tryd.prog E_rat_Q_Out := bodies_none rfl
  have hBS : BodiesStepped E_rat_Q_Out LL_rat_Q_Out := bodies_stepped_none rfl
  have hS : SpecsOk Tryd.prog E_rat_Q_Out := specs_ok (by exact ⟨⟨by kernel_rfl, f_rat_Q_whole_holds⟩, ⟨by kernel_rfl, f_nat_N_Text_holds⟩, trivial⟩)
  have hE : EOk Tryd.prog E_rat_Q_Out := eok_te ok
  exact fn_sound (L := LL_rat_Q_Out) hE hS hB (draws_ok hE hS (by kernel_rfl)) hBS (fn := Tryd.f38) (by kernel_rfl) (c := bodyOf Tryd.f38) (by kernel_rfl) (stepped_none rfl) fun x r h => ⟨fuel, (f_rat_Q_Out_run fuel x).trans h⟩

/-! gamehall/rat.Fits -/
noncomputable def E_rat_Fits : Env := { te := te, spec := [(59, S_nat_N_Digits)], body := [] }
def LL_rat_Fits : Loops := []
def f_rat_Fits (k : Nat) (a0 : Bool × ((List Int) × (List Int))) : Option (Int) :=
  (f_nat_N_Digits fuel a0.2.1).bind fun r1 =>
  if decide (r1 > 2000) = false then
    (f_nat_N_Digits fuel a0.2.2).bind fun r2 =>
    if decide (r2 > 2000) = true then
      some 2
    else
      some 0
  else
    some 2
theorem f_rat_Fits_run (k : Nat) (x : denL [.pair .bool (.pair (.slice (.int .u32)) (.slice (.int .u32)))]) : runFn E_rat_Fits LL_rat_Fits k 44 Tryd.f44 [.pair .bool (.pair (.slice (.int .u32)) (.slice (.int .u32)))] [.imm (.int .i64)] x = f_rat_Fits k x := by kernel_rfl
noncomputable def S_rat_Fits : Vm.Spec := { ps := [.pair .bool (.pair (.slice (.int .u32)) (.slice (.int .u32)))], rs := [.imm (.int .i64)], f := fun x => f_rat_Fits fuel x }
theorem f_rat_Fits_holds : Vm.Spec.holds Tryd.prog 44 S_rat_Fits := by
  have hB : BodiesOk Tryd.prog E_rat_Fits := bodies_none rfl
  have hBS : BodiesStepped E_rat_Fits LL_rat_Fits := bodies_stepped_none rfl
  have hS : SpecsOk Tryd.prog E_rat_Fits := specs_ok (by exact ⟨⟨by kernel_rfl, f_nat_N_Digits_holds⟩, trivial⟩)
  have hE : EOk Tryd.prog E_rat_Fits := eok_te ok
  exact fn_sound (L := LL_rat_Fits) hE hS hB (draws_ok hE hS (by kernel_rfl)) hBS (fn := Tryd.f44) (by kernel_rfl) (c := bodyOf Tryd.f44) (by kernel_rfl) (stepped_none rfl) fun x r h => ⟨fuel, (f_rat_Fits_run fuel x).trans h⟩

/-! (gamehall/rat.Q).Sign -/
noncomputable def E_rat_Q_Sign : Env := { te := te, spec := [], body := [] }
def LL_rat_Q_Sign : Loops := []
def f_rat_Q_Sign (k : Nat) (a0 : Bool × ((List Int) × (List Int))) : Option (Int) :=
  if ((a0.2.1.length : Int) == 0) = true then
    some 0
  else
    if a0.1 = true then
      some (-1)
    else
      some 1
theorem f_rat_Q_Sign_run (k : Nat) (x : denL [.pair .bool (.pair (.slice (.int .u32)) (.slice (.int .u32)))]) : runFn E_rat_Q_Sign LL_rat_Q_Sign k 36 Tryd.f36 [.pair .bool (.pair (.slice (.int .u32)) (.slice (.int .u32)))] [.imm (.int .i64)] x = f_rat_Q_Sign k x := by kernel_rfl
noncomputable def S_rat_Q_Sign : Vm.Spec := { ps := [.pair .bool (.pair (.slice (.int .u32)) (.slice (.int .u32)))], rs := [.imm (.int .i64)], f := fun x => f_rat_Q_Sign fuel x }
theorem f_rat_Q_Sign_holds : Vm.Spec.holds Tryd.prog 36 S_rat_Q_Sign := by
  have hB : BodiesOk Tryd.prog E_rat_Q_Sign := bodies_none rfl
  have hBS : BodiesStepped E_rat_Q_Sign LL_rat_Q_Sign := bodies_stepped_none rfl
  have hS : SpecsOk Tryd.prog E_rat_Q_Sign := specs_ok (by exact trivial)
  have hE : EOk Tryd.prog E_rat_Q_Sign := eok_te ok
  exact fn_sound (L := LL_rat_Q_Sign) hE hS hB (draws_ok hE hS (by kernel_rfl)) hBS (fn := Tryd.f36) (by kernel_rfl) (c := bodyOf Tryd.f36) (by kernel_rfl) (stepped_none rfl) fun x r h => ⟨fuel, (f_rat_Q_Sign_run fuel x).trans h⟩

/-! (gamehall/rat.Q).Neg -/
noncomputable def E_rat_Q_Neg : Env := { te := te, spec := [], body := [] }
def LL_rat_Q_Neg : Loops := []
def f_rat_Q_Neg (k : Nat) (a0 : Bool × ((List Int) × (List Int))) : Option (Bool × ((List Int) × (List Int))) :=
  if ((a0.2.1.length : Int) == 0) = true then
    some a0
  else
    some (!a0.1, a0.2)
theorem f_rat_Q_Neg_run (k : Nat) (x : denL [.pair .bool (.pair (.slice (.int .u32)) (.slice (.int .u32)))]) : runFn E_rat_Q_Neg LL_rat_Q_Neg k 37 Tryd.f37 [.pair .bool (.pair (.slice (.int .u32)) (.slice (.int .u32)))] [.imm (.pair .bool (.pair (.slice (.int .u32)) (.slice (.int .u32))))] x = f_rat_Q_Neg k x := by kernel_rfl
noncomputable def S_rat_Q_Neg : Vm.Spec := { ps := [.pair .bool (.pair (.slice (.int .u32)) (.slice (.int .u32)))], rs := [.imm (.pair .bool (.pair (.slice (.int .u32)) (.slice (.int .u32))))], f := fun x => f_rat_Q_Neg fuel x }
theorem f_rat_Q_Neg_holds : Vm.Spec.holds Tryd.prog 37 S_rat_Q_Neg := by
  have hB : BodiesOk Tryd.prog E_rat_Q_Neg := bodies_none rfl
  have hBS : BodiesStepped E_rat_Q_Neg LL_rat_Q_Neg := bodies_stepped_none rfl
  have hS : SpecsOk Tryd.prog E_rat_Q_Neg := specs_ok (by exact trivial)
  have hE : EOk Tryd.prog E_rat_Q_Neg := eok_te ok
  exact fn_sound (L := LL_rat_Q_Neg) hE hS hB (draws_ok hE hS (by kernel_rfl)) hBS (fn := Tryd.f37) (by kernel_rfl) (c := bodyOf Tryd.f37) (by kernel_rfl) (stepped_none rfl) fun x r h => ⟨fuel, (f_rat_Q_Neg_run fuel x).trans h⟩

/-! (gamehall/rat.Q).Add -/
noncomputable def E_rat_Q_Add : Env := { te := te, spec := [(42, S_rat_low), (50, S_nat_N_Cmp), (52, S_nat_N_Mul), (53, S_rat_Q_whole), (54, S_nat_N_Add), (55, S_nat_N_Sub)], body := [] }
def LL_rat_Q_Add : Loops := []
def f_rat_Q_Add (k : Nat) (a0 : Bool × ((List Int) × (List Int))) (a1 : Bool × ((List Int) × (List Int))) : Option (Bool × ((List Int) × (List Int))) :=
  if ((a0.2.1.length : Int) == 0) = true then
    some a1
  else
    if ((a1.2.1.length : Int) == 0) = true then
      some a0
    else
      (f_rat_Q_whole fuel a1).bind fun r1 =>
      (f_nat_N_Mul fuel a0.2.1 r1).bind fun r2 =>
      (f_rat_Q_whole fuel a0).bind fun r3 =>
      (f_nat_N_Mul fuel a1.2.1 r3).bind fun r4 =>
      (f_rat_Q_whole fuel a0).bind fun r5 =>
      (f_rat_Q_whole fuel a1).bind fun r6 =>
      (f_nat_N_Mul fuel r5 r6).bind fun r7 =>
      if (a0.1 == a1.1) = true then
        (f_nat_N_Add fuel r2 r4).bind fun r8 =>
        (f_rat_low fuel a0.1 r8 r7).bind fun r9 =>
        some r9
      else
        (f_nat_N_Cmp fuel r2 r4).bind fun r10 =>
        if decide (r10 ≥ 0) = true then
          (f_nat_N_Sub fuel r2 r4).bind fun r11 =>
          (f_rat_low fuel a0.1 r11 r7).bind fun r12 =>
          some r12
        else
          (f_nat_N_Sub fuel r4 r2).bind fun r13 =>
          (f_rat_low fuel a1.1 r13 r7).bind fun r14 =>
          some r14
theorem f_rat_Q_Add_run (k : Nat) (x : denL [.pair .bool (.pair (.slice (.int .u32)) (.slice (.int .u32))), .pair .bool (.pair (.slice (.int .u32)) (.slice (.int .u32)))]) : runFn E_rat_Q_Add LL_rat_Q_Add k 28 Tryd.f28 [.pair .bool (.pair (.slice (.int .u32)) (.slice (.int .u32))), .pair .bool (.pair (.slice (.int .u32)) (.slice (.int .u32)))] [.imm (.pair .bool (.pair (.slice (.int .u32)) (.slice (.int .u32))))] x = f_rat_Q_Add k x.1 x.2 := by kernel_rfl
noncomputable def S_rat_Q_Add : Vm.Spec := { ps := [.pair .bool (.pair (.slice (.int .u32)) (.slice (.int .u32))), .pair .bool (.pair (.slice (.int .u32)) (.slice (.int .u32)))], rs := [.imm (.pair .bool (.pair (.slice (.int .u32)) (.slice (.int .u32))))], f := fun x => f_rat_Q_Add fuel x.1 x.2 }
theorem f_rat_Q_Add_holds : Vm.Spec.holds Tryd.prog 28 S_rat_Q_Add := by
  have hB : BodiesOk Tryd.prog E_rat_Q_Add := bodies_none rfl
  have hBS : BodiesStepped E_rat_Q_Add LL_rat_Q_Add := bodies_stepped_none rfl
  have hS : SpecsOk Tryd.prog E_rat_Q_Add := specs_ok (by exact ⟨⟨by kernel_rfl, f_rat_low_holds⟩, ⟨by kernel_rfl, f_nat_N_Cmp_holds⟩, ⟨by kernel_rfl, f_nat_N_Mul_holds⟩, ⟨by kernel_rfl, f_rat_Q_whole_holds⟩, ⟨by kernel_rfl, f_nat_N_Add_holds⟩, ⟨by kernel_rfl, f_nat_N_Sub_holds⟩, trivial⟩)
  have hE : EOk Tryd.prog E_rat_Q_Add := eok_te ok
  exact fn_sound (L := LL_rat_Q_Add) hE hS hB (draws_ok hE hS (by kernel_rfl)) hBS (fn := Tryd.f28) (by kernel_rfl) (c := bodyOf Tryd.f28) (by kernel_rfl) (stepped_none rfl) fun x r h => ⟨fuel, (f_rat_Q_Add_run fuel x).trans h⟩

/-! (gamehall/rat.Q).Sub -/
noncomputable def E_rat_Q_Sub : Env := { te := te, spec := [(28, S_rat_Q_Add), (37, S_rat_Q_Neg)], body := [] }
def LL_rat_Q_Sub : Loops := []
def f_rat_Q_Sub (k : Nat) (a0 : Bool × ((List Int) × (List Int))) (a1 : Bool × ((List Int) × (List Int))) : Option (Bool × ((List Int) × (List Int))) :=
  (f_rat_Q_Neg fuel a1).bind fun r1 =>
  (f_rat_Q_Add fuel a0 r1).bind fun r2 =>
  some r2
theorem f_rat_Q_Sub_run (k : Nat) (x : denL [.pair .bool (.pair (.slice (.int .u32)) (.slice (.int .u32))), .pair .bool (.pair (.slice (.int .u32)) (.slice (.int .u32)))]) : runFn E_rat_Q_Sub LL_rat_Q_Sub k 30 Tryd.f30 [.pair .bool (.pair (.slice (.int .u32)) (.slice (.int .u32))), .pair .bool (.pair (.slice (.int .u32)) (.slice (.int .u32)))] [.imm (.pair .bool (.pair (.slice (.int .u32)) (.slice (.int .u32))))] x = f_rat_Q_Sub k x.1 x.2 := by kernel_rfl
noncomputable def S_rat_Q_Sub : Vm.Spec := { ps := [.pair .bool (.pair (.slice (.int .u32)) (.slice (.int .u32))), .pair .bool (.pair (.slice (.int .u32)) (.slice (.int .u32)))], rs := [.imm (.pair .bool (.pair (.slice (.int .u32)) (.slice (.int .u32))))], f := fun x => f_rat_Q_Sub fuel x.1 x.2 }
theorem f_rat_Q_Sub_holds : Vm.Spec.holds Tryd.prog 30 S_rat_Q_Sub := by
  have hB : BodiesOk Tryd.prog E_rat_Q_Sub := bodies_none rfl
  have hBS : BodiesStepped E_rat_Q_Sub LL_rat_Q_Sub := bodies_stepped_none rfl
  have hS : SpecsOk Tryd.prog E_rat_Q_Sub := specs_ok (by exact ⟨⟨by kernel_rfl, f_rat_Q_Add_holds⟩, ⟨by kernel_rfl, f_rat_Q_Neg_holds⟩, trivial⟩)
  have hE : EOk Tryd.prog E_rat_Q_Sub := eok_te ok
  exact fn_sound (L := LL_rat_Q_Sub) hE hS hB (draws_ok hE hS (by kernel_rfl)) hBS (fn := Tryd.f30) (by kernel_rfl) (c := bodyOf Tryd.f30) (by kernel_rfl) (stepped_none rfl) fun x r h => ⟨fuel, (f_rat_Q_Sub_run fuel x).trans h⟩

/-! (gamehall/rat.Q).Mul -/
noncomputable def E_rat_Q_Mul : Env := { te := te, spec := [(42, S_rat_low), (52, S_nat_N_Mul), (53, S_rat_Q_whole)], body := [] }
def LL_rat_Q_Mul : Loops := []
def f_rat_Q_Mul (k : Nat) (a0 : Bool × ((List Int) × (List Int))) (a1 : Bool × ((List Int) × (List Int))) : Option (Bool × ((List Int) × (List Int))) :=
  if ((a0.2.1.length : Int) == 0) = false then
    if ((a1.2.1.length : Int) == 0) = true then
      some (false, ([], []))
    else
      (f_nat_N_Mul fuel a0.2.1 a1.2.1).bind fun r1 =>
      (f_rat_Q_whole fuel a0).bind fun r2 =>
      (f_rat_Q_whole fuel a1).bind fun r3 =>
      (f_nat_N_Mul fuel r2 r3).bind fun r4 =>
      (f_rat_low fuel (!(a0.1 == a1.1)) r1 r4).bind fun r5 =>
      some r5
  else
    some (false, ([], []))
theorem f_rat_Q_Mul_run (k : Nat) (x : denL [.pair .bool (.pair (.slice (.int .u32)) (.slice (.int .u32))), .pair .bool (.pair (.slice (.int .u32)) (.slice (.int .u32)))]) : runFn E_rat_Q_Mul LL_rat_Q_Mul k 29 Tryd.f29 [.pair .bool (.pair (.slice (.int .u32)) (.slice (.int .u32))), .pair .bool (.pair (.slice (.int .u32)) (.slice (.int .u32)))] [.imm (.pair .bool (.pair (.slice (.int .u32)) (.slice (.int .u32))))] x = f_rat_Q_Mul k x.1 x.2 := by kernel_rfl
noncomputable def S_rat_Q_Mul : Vm.Spec := { ps := [.pair .bool (.pair (.slice (.int .u32)) (.slice (.int .u32))), .pair .bool (.pair (.slice (.int .u32)) (.slice (.int .u32)))], rs := [.imm (.pair .bool (.pair (.slice (.int .u32)) (.slice (.int .u32))))], f := fun x => f_rat_Q_Mul fuel x.1 x.2 }
theorem f_rat_Q_Mul_holds : Vm.Spec.holds Tryd.prog 29 S_rat_Q_Mul := by
  have hB : BodiesOk Tryd.prog E_rat_Q_Mul := bodies_none rfl
  have hBS : BodiesStepped E_rat_Q_Mul LL_rat_Q_Mul := bodies_stepped_none rfl
  have hS : SpecsOk Tryd.prog E_rat_Q_Mul := specs_ok (by exact ⟨⟨by kernel_rfl, f_rat_low_holds⟩, ⟨by kernel_rfl, f_nat_N_Mul_holds⟩, ⟨by kernel_rfl, f_rat_Q_whole_holds⟩, trivial⟩)
  have hE : EOk Tryd.prog E_rat_Q_Mul := eok_te ok
  exact fn_sound (L := LL_rat_Q_Mul) hE hS hB (draws_ok hE hS (by kernel_rfl)) hBS (fn := Tryd.f29) (by kernel_rfl) (c := bodyOf Tryd.f29) (by kernel_rfl) (stepped_none rfl) fun x r h => ⟨fuel, (f_rat_Q_Mul_run fuel x).trans h⟩

/-! (gamehall/rat.Q).Quo -/
noncomputable def E_rat_Q_Quo : Env := { te := te, spec := [(42, S_rat_low), (52, S_nat_N_Mul), (53, S_rat_Q_whole)], body := [] }
def LL_rat_Q_Quo : Loops := []
def f_rat_Q_Quo (k : Nat) (a0 : Bool × ((List Int) × (List Int))) (a1 : Bool × ((List Int) × (List Int))) : Option (Bool × ((List Int) × (List Int))) :=
  if ((a0.2.1.length : Int) == 0) = false then
    if ((a1.2.1.length : Int) == 0) = true then
      some (false, ([], []))
    else
      (f_rat_Q_whole fuel a1).bind fun r1 =>
      (f_nat_N_Mul fuel a0.2.1 r1).bind fun r2 =>
      (f_rat_Q_whole fuel a0).bind fun r3 =>
      (f_nat_N_Mul fuel r3 a1.2.1).bind fun r4 =>
      (f_rat_low fuel (!(a0.1 == a1.1)) r2 r4).bind fun r5 =>
      some r5
  else
    some (false, ([], []))
theorem f_rat_Q_Quo_run (k : Nat) (x : denL [.pair .bool (.pair (.slice (.int .u32)) (.slice (.int .u32))), .pair .bool (.pair (.slice (.int .u32)) (.slice (.int .u32)))]) : runFn E_rat_Q_Quo LL_rat_Q_Quo k 31 Tryd.f31 [.pair .bool (.pair (.slice (.int .u32)) (.slice (.int .u32))), .pair .bool (.pair (.slice (.int .u32)) (.slice (.int .u32)))] [.imm (.pair .bool (.pair (.slice (.int .u32)) (.slice (.int .u32))))] x = f_rat_Q_Quo k x.1 x.2 := by kernel_rfl
noncomputable def S_rat_Q_Quo : Vm.Spec := { ps := [.pair .bool (.pair (.slice (.int .u32)) (.slice (.int .u32))), .pair .bool (.pair (.slice (.int .u32)) (.slice (.int .u32)))], rs := [.imm (.pair .bool (.pair (.slice (.int .u32)) (.slice (.int .u32))))], f := fun x => f_rat_Q_Quo fuel x.1 x.2 }
theorem f_rat_Q_Quo_holds : Vm.Spec.holds Tryd.prog 31 S_rat_Q_Quo := by
  have hB : BodiesOk Tryd.prog E_rat_Q_Quo := bodies_none rfl
  have hBS : BodiesStepped E_rat_Q_Quo LL_rat_Q_Quo := bodies_stepped_none rfl
  have hS : SpecsOk Tryd.prog E_rat_Q_Quo := specs_ok (by exact ⟨⟨by kernel_rfl, f_rat_low_holds⟩, ⟨by kernel_rfl, f_nat_N_Mul_holds⟩, ⟨by kernel_rfl, f_rat_Q_whole_holds⟩, trivial⟩)
  have hE : EOk Tryd.prog E_rat_Q_Quo := eok_te ok
  exact fn_sound (L := LL_rat_Q_Quo) hE hS hB (draws_ok hE hS (by kernel_rfl)) hBS (fn := Tryd.f31) (by kernel_rfl) (c := bodyOf Tryd.f31) (by kernel_rfl) (stepped_none rfl) fun x r h => ⟨fuel, (f_rat_Q_Quo_run fuel x).trans h⟩

/-! (gamehall/rat.Q).Cmp -/
noncomputable def E_rat_Q_Cmp : Env := { te := te, spec := [(30, S_rat_Q_Sub), (36, S_rat_Q_Sign)], body := [] }
def LL_rat_Q_Cmp : Loops := []
def f_rat_Q_Cmp (k : Nat) (a0 : Bool × ((List Int) × (List Int))) (a1 : Bool × ((List Int) × (List Int))) : Option (Int) :=
  (f_rat_Q_Sub fuel a0 a1).bind fun r1 =>
  (f_rat_Q_Sign fuel r1).bind fun r2 =>
  some r2
theorem f_rat_Q_Cmp_run (k : Nat) (x : denL [.pair .bool (.pair (.slice (.int .u32)) (.slice (.int .u32))), .pair .bool (.pair (.slice (.int .u32)) (.slice (.int .u32)))]) : runFn E_rat_Q_Cmp LL_rat_Q_Cmp k 35 Tryd.f35 [.pair .bool (.pair (.slice (.int .u32)) (.slice (.int .u32))), .pair .bool (.pair (.slice (.int .u32)) (.slice (.int .u32)))] [.imm (.int .i64)] x = f_rat_Q_Cmp k x.1 x.2 := by kernel_rfl
noncomputable def S_rat_Q_Cmp : Vm.Spec := { ps := [.pair .bool (.pair (.slice (.int .u32)) (.slice (.int .u32))), .pair .bool (.pair (.slice (.int .u32)) (.slice (.int .u32)))], rs := [.imm (.int .i64)], f := fun x => f_rat_Q_Cmp fuel x.1 x.2 }
theorem f_rat_Q_Cmp_holds : Vm.Spec.holds Tryd.prog 35 S_rat_Q_Cmp := by
  have hB : BodiesOk Tryd.prog E_rat_Q_Cmp := bodies_none rfl
  have hBS : BodiesStepped E_rat_Q_Cmp LL_rat_Q_Cmp := bodies_stepped_none rfl
  have hS : SpecsOk Tryd.prog E_rat_Q_Cmp := specs_ok (by exact ⟨⟨by kernel_rfl, f_rat_Q_Sub_holds⟩, ⟨by kernel_rfl, f_rat_Q_Sign_holds⟩, trivial⟩)
  have hE : EOk Tryd.prog E_rat_Q_Cmp := eok_te ok
  exact fn_sound (L := LL_rat_Q_Cmp) hE hS hB (draws_ok hE hS (by kernel_rfl)) hBS (fn := Tryd.f35) (by kernel_rfl) (c := bodyOf Tryd.f35) (by kernel_rfl) (stepped_none rfl) fun x r h => ⟨fuel, (f_rat_Q_Cmp_run fuel x).trans h⟩

/-! (gamehall/rat.Q).down -/
noncomputable def E_rat_Q_down : Env := { te := te, spec := [(42, S_rat_low), (51, S_nat_Of), (53, S_rat_Q_whole), (54, S_nat_N_Add), (58, S_nat_N_Div)], body := [] }
def LL_rat_Q_down : Loops := []
def f_rat_Q_down (k : Nat) (a0 : Bool × ((List Int) × (List Int))) : Option (Bool × ((List Int) × (List Int))) :=
  (f_rat_Q_whole fuel a0).bind fun r1 =>
  (f_nat_N_Div fuel a0.2.1 r1).bind fun r2 =>
  if a0.1 = true then
    if decide ((r2.2.length : Int) > 0) = true then
      (f_nat_Of fuel 1).bind fun r3 =>
      (f_nat_N_Add fuel r2.1 r3).bind fun r4 =>
      (f_nat_Of fuel 1).bind fun r5 =>
      (f_rat_low fuel a0.1 r4 r5).bind fun r6 =>
      some r6
    else
      (f_nat_Of fuel 1).bind fun r7 =>
      (f_rat_low fuel a0.1 r2.1 r7).bind fun r8 =>
      some r8
  else
    (f_nat_Of fuel 1).bind fun r9 =>
    (f_rat_low fuel a0.1 r2.1 r9).bind fun r10 =>
    some r10
theorem f_rat_Q_down_run (k : Nat) (x : denL [.pair .bool (.pair (.slice (.int .u32)) (.slice (.int .u32)))]) : runFn E_rat_Q_down LL_rat_Q_down k 40 Tryd.f40 [.pair .bool (.pair (.slice (.int .u32)) (.slice (.int .u32)))] [.imm (.pair .bool (.pair (.slice (.int .u32)) (.slice (.int .u32))))] x = f_rat_Q_down k x := by kernel_rfl
noncomputable def S_rat_Q_down : Vm.Spec := { ps := [.pair .bool (.pair (.slice (.int .u32)) (.slice (.int .u32)))], rs := [.imm (.pair .bool (.pair (.slice (.int .u32)) (.slice (.int .u32))))], f := fun x => f_rat_Q_down fuel x }
theorem f_rat_Q_down_holds : Vm.Spec.holds Tryd.prog 40 S_rat_Q_down := by
  have hB : BodiesOk Tryd.prog E_rat_Q_down := bodies_none rfl
  have hBS : BodiesStepped E_rat_Q_down LL_rat_Q_down := bodies_stepped_none rfl
  have hS : SpecsOk Tryd.prog E_rat_Q_down := specs_ok (by exact ⟨⟨by kernel_rfl, f_rat_low_holds⟩, ⟨by kernel_rfl, f_nat_Of_holds⟩, ⟨by kernel_rfl, f_rat_Q_whole_holds⟩, ⟨by kernel_rfl, f_nat_N_Add_holds⟩, ⟨by kernel_rfl, f_nat_N_Div_holds⟩, trivial⟩)
  have hE : EOk Tryd.prog E_rat_Q_down := eok_te ok
  exact fn_sound (L := LL_rat_Q_down) hE hS hB (draws_ok hE hS (by kernel_rfl)) hBS (fn := Tryd.f40) (by kernel_rfl) (c := bodyOf Tryd.f40) (by kernel_rfl) (stepped_none rfl) fun x r h => ⟨fuel, (f_rat_Q_down_run fuel x).trans h⟩

/-! gamehall/rat.Check -/
noncomputable def E_rat_Check : Env := { te := te, spec := [(45, S_strings_CutPrefix), (46, S_strings_Cut), (47, S_nat_Check), (48, S_nat_Read), (49, S_nat_N_Gcd), (50, S_nat_N_Cmp), (51, S_nat_Of)], body := [] }
def LL_rat_Check : Loops := []
def f_rat_Check (k : Nat) (a0 : ByteArray) : Option (Int) :=
  (f_strings_CutPrefix fuel a0 (⟨#[45]⟩ : ByteArray)).bind fun r1 =>
  (f_strings_Cut fuel r1.1 (⟨#[47]⟩ : ByteArray)).bind fun r2 =>
  (f_nat_Check fuel r2.1).bind fun r3 =>
  if r2.2.2 = true then
    (f_nat_Check fuel r2.2.1).bind fun r4 =>
    if (r3 == 5) = false then
      if (r4 == 5) = false then
        if r1.2 = true then
          if ((r2.1.toList == (⟨#[48]⟩ : ByteArray).toList)) = true then
            some 5
          else
            if (r3 != 0) = false then
              if (r4 != 0) = true then
                some 2
              else
                if r2.2.2 = true then
                  if ((r2.2.1.toList == (⟨#[48]⟩ : ByteArray).toList)) = false then
                    if ((r2.2.1.toList == (⟨#[49]⟩ : ByteArray).toList)) = false then
                      (f_nat_Read fuel r2.1).bind fun r5 =>
                      (f_nat_Read fuel r2.2.1).bind fun r6 =>
                      (f_nat_N_Gcd fuel r5 r6).bind fun r7 =>
                      (f_nat_Of fuel 1).bind fun r8 =>
                      (f_nat_N_Cmp fuel r7 r8).bind fun r9 =>
                      if (r9 != 0) = true then
                        some 3
                      else
                        some 0
                    else
                      some 3
                  else
                    some 3
                else
                  some 0
            else
              some 2
        else
          if (r3 != 0) = false then
            if (r4 != 0) = true then
              some 2
            else
              if r2.2.2 = true then
                if ((r2.2.1.toList == (⟨#[48]⟩ : ByteArray).toList)) = false then
                  if ((r2.2.1.toList == (⟨#[49]⟩ : ByteArray).toList)) = false then
                    (f_nat_Read fuel r2.1).bind fun r10 =>
                    (f_nat_Read fuel r2.2.1).bind fun r11 =>
                    (f_nat_N_Gcd fuel r10 r11).bind fun r12 =>
                    (f_nat_Of fuel 1).bind fun r13 =>
                    (f_nat_N_Cmp fuel r12 r13).bind fun r14 =>
                    if (r14 != 0) = true then
                      some 3
                    else
                      some 0
                  else
                    some 3
                else
                  some 3
              else
                some 0
          else
            some 2
      else
        some 5
    else
      some 5
  else
    if (r3 == 5) = false then
      if r1.2 = true then
        if ((r2.1.toList == (⟨#[48]⟩ : ByteArray).toList)) = true then
          some 5
        else
          if (r3 != 0) = false then
            if r2.2.2 = true then
              if ((r2.2.1.toList == (⟨#[48]⟩ : ByteArray).toList)) = false then
                if ((r2.2.1.toList == (⟨#[49]⟩ : ByteArray).toList)) = false then
                  (f_nat_Read fuel r2.1).bind fun r15 =>
                  (f_nat_Read fuel r2.2.1).bind fun r16 =>
                  (f_nat_N_Gcd fuel r15 r16).bind fun r17 =>
                  (f_nat_Of fuel 1).bind fun r18 =>
                  (f_nat_N_Cmp fuel r17 r18).bind fun r19 =>
                  if (r19 != 0) = true then
                    some 3
                  else
                    some 0
                else
                  some 3
              else
                some 3
            else
              some 0
          else
            some 2
      else
        if (r3 != 0) = false then
          if r2.2.2 = true then
            if ((r2.2.1.toList == (⟨#[48]⟩ : ByteArray).toList)) = false then
              if ((r2.2.1.toList == (⟨#[49]⟩ : ByteArray).toList)) = false then
                (f_nat_Read fuel r2.1).bind fun r20 =>
                (f_nat_Read fuel r2.2.1).bind fun r21 =>
                (f_nat_N_Gcd fuel r20 r21).bind fun r22 =>
                (f_nat_Of fuel 1).bind fun r23 =>
                (f_nat_N_Cmp fuel r22 r23).bind fun r24 =>
                if (r24 != 0) = true then
                  some 3
                else
                  some 0
              else
                some 3
            else
              some 3
          else
            some 0
        else
          some 2
    else
      some 5
theorem f_rat_Check_run (k : Nat) (x : denL [.str]) : runFn E_rat_Check LL_rat_Check k 26 Tryd.f26 [.str] [.imm (.int .i64)] x = f_rat_Check k x := by kernel_rfl
noncomputable def S_rat_Check : Vm.Spec := { ps := [.str], rs := [.imm (.int .i64)], f := fun x => f_rat_Check fuel x }
theorem f_rat_Check_holds : Vm.Spec.holds Tryd.prog 26 S_rat_Check := by
  have hB : BodiesOk Tryd.prog E_rat_Check := bodies_none rfl
  have hBS : BodiesStepped E_rat_Check LL_rat_Check := bodies_stepped_none rfl
  have hS : SpecsOk Tryd.prog E_rat_Check := specs_ok (by exact ⟨⟨by kernel_rfl, f_strings_CutPrefix_holds⟩, ⟨by kernel_rfl, f_strings_Cut_holds⟩, ⟨by kernel_rfl, f_nat_Check_holds⟩, ⟨by kernel_rfl, f_nat_Read_holds⟩, ⟨by kernel_rfl, f_nat_N_Gcd_holds⟩, ⟨by kernel_rfl, f_nat_N_Cmp_holds⟩, ⟨by kernel_rfl, f_nat_Of_holds⟩, trivial⟩)
  have hE : EOk Tryd.prog E_rat_Check := eok_te ok
  exact fn_sound (L := LL_rat_Check) hE hS hB (draws_ok hE hS (by kernel_rfl)) hBS (fn := Tryd.f26) (by kernel_rfl) (c := bodyOf Tryd.f26) (by kernel_rfl) (stepped_none rfl) fun x r h => ⟨fuel, (f_rat_Check_run fuel x).trans h⟩

/-! gamehall/rat.CheckAll -/
noncomputable def E_rat_CheckAll : Env := { te := te, spec := [(26, S_rat_Check)], body := [] }
def l_rat_CheckAll_2H : Ann := { slots := [(6, .one (.val (.slice .str))), (7, .one (.val (.int .i64))), (8, .one (.val (.int .i64)))], objs := [] }
def l_rat_CheckAll_2X : Ann := { slots := [], objs := [] }
def l_rat_CheckAll_2R : Ann := { slots := [(2, .one (.val (.int .i64)))], objs := [] }
def l_rat_CheckAll_2 : Nat → List ByteArray → Int → Int → Option (LR l_rat_CheckAll_2X l_rat_CheckAll_2R)
  | 0, _, _, _ => none
  | m + 1, s6, s7, s8 =>
    if decide (s8 < s7) = true then
      if (0 : Int) ≤ s8 then
        if s8 < s6.length then
          (f_rat_Check fuel (s6.getD s8.toNat ByteArray.empty)).bind fun r1 =>
          if (r1 != 0) = true then
            some (.ret (r1, ()))
          else
            l_rat_CheckAll_2 m s6 s7 (IntKind.i64.wrap (s8 + 1))
        else none
      else none
    else
      some (.exit ())
def l_rat_CheckAll_2L : LSpec := { h := l_rat_CheckAll_2H, x := l_rat_CheckAll_2X, r := l_rat_CheckAll_2R, xid := 0, rt := true, pins := [], f := fun k d => l_rat_CheckAll_2 k d.1 d.2.1 d.2.2.1 }
def LL_rat_CheckAll : Loops := [([8], [(2, l_rat_CheckAll_2L)])]
def f_rat_CheckAll (k : Nat) (a0 : List ByteArray) : Option (Int) :=
  match l_rat_CheckAll_2 k a0 (a0.length : Int) 0 with
  | none => none
  | some (.exit d1) =>
    some 0
  | some (.ret d1) =>
    some d1.1
theorem l_rat_CheckAll_2_step (m : Nat) (d : dens l_rat_CheckAll_2H.tys) : l_rat_CheckAll_2L.f (m + 1) d = round E_rat_CheckAll LL_rat_CheckAll m [8] 18 (loopN (bodyOf Tryd.f8) 0) l_rat_CheckAll_2L (l_rat_CheckAll_2L.f m) d := by kernel_rfl
theorem f_rat_CheckAll_run (k : Nat) (x : denL [.slice .str]) : runFn E_rat_CheckAll LL_rat_CheckAll k 8 Tryd.f8 [.slice .str] [.imm (.int .i64)] x = f_rat_CheckAll k x := by kernel_rfl
noncomputable def S_rat_CheckAll : Vm.Spec := { ps := [.slice .str], rs := [.imm (.int .i64)], f := fun x => f_rat_CheckAll fuel x }
theorem f_rat_CheckAll_holds : Vm.Spec.holds Tryd.prog 8 S_rat_CheckAll := by
  have hB : BodiesOk Tryd.prog E_rat_CheckAll := bodies_none rfl
  have hBS : BodiesStepped E_rat_CheckAll LL_rat_CheckAll := bodies_stepped_none rfl
  have hS : SpecsOk Tryd.prog E_rat_CheckAll := specs_ok (by exact ⟨⟨by kernel_rfl, f_rat_Check_holds⟩, trivial⟩)
  have hE : EOk Tryd.prog E_rat_CheckAll := eok_te ok
  exact fn_sound (L := LL_rat_CheckAll) hE hS hB (draws_ok hE hS (by kernel_rfl)) hBS (fn := Tryd.f8) (by kernel_rfl) (c := bodyOf Tryd.f8) (by kernel_rfl) (stepped_of (ls := [(2, l_rat_CheckAll_2L)]) rfl rfl ⟨by kernel_rfl, fun _ => rfl, l_rat_CheckAll_2_step, stepsI_end (by kernel_rfl)⟩) fun x r h => ⟨fuel, (f_rat_CheckAll_run fuel x).trans h⟩

/-! gamehall/rat.Told -/
noncomputable def E_rat_Told : Env := { te := te, spec := [(38, S_rat_Q_Out), (44, S_rat_Fits)], body := [] }
def LL_rat_Told : Loops := []
def f_rat_Told (k : Nat) (a0 : Bool × ((List Int) × (List Int))) : Option (ByteArray × Int) :=
  (f_rat_Fits fuel a0).bind fun r1 =>
  if (r1 != 0) = true then
    some ((⟨#[]⟩ : ByteArray), r1)
  else
    (f_rat_Q_Out fuel a0).bind fun r2 =>
    some (r2, 0)
theorem f_rat_Told_run (k : Nat) (x : denL [.pair .bool (.pair (.slice (.int .u32)) (.slice (.int .u32)))]) : runFn E_rat_Told LL_rat_Told k 39 Tryd.f39 [.pair .bool (.pair (.slice (.int .u32)) (.slice (.int .u32)))] [.imm .str, .imm (.int .i64)] x = f_rat_Told k x := by kernel_rfl
noncomputable def S_rat_Told : Vm.Spec := { ps := [.pair .bool (.pair (.slice (.int .u32)) (.slice (.int .u32)))], rs := [.imm .str, .imm (.int .i64)], f := fun x => f_rat_Told fuel x }
theorem f_rat_Told_holds : Vm.Spec.holds Tryd.prog 39 S_rat_Told := by
  have hB : BodiesOk Tryd.prog E_rat_Told := bodies_none rfl
  have hBS : BodiesStepped E_rat_Told LL_rat_Told := bodies_stepped_none rfl
  have hS : SpecsOk Tryd.prog E_rat_Told := specs_ok (by exact ⟨⟨by kernel_rfl, f_rat_Q_Out_holds⟩, ⟨by kernel_rfl, f_rat_Fits_holds⟩, trivial⟩)
  have hE : EOk Tryd.prog E_rat_Told := eok_te ok
  exact fn_sound (L := LL_rat_Told) hE hS hB (draws_ok hE hS (by kernel_rfl)) hBS (fn := Tryd.f39) (by kernel_rfl) (c := bodyOf Tryd.f39) (by kernel_rfl) (stepped_none rfl) fun x r h => ⟨fuel, (f_rat_Told_run fuel x).trans h⟩

/-! gamehall/rat.size -/
noncomputable def E_rat_size : Env := { te := te, spec := [(51, S_nat_Of), (54, S_nat_N_Add)], body := [] }
def LL_rat_size : Loops := []
def f_rat_size (k : Nat) (a0 : Int) : Option (List Int) :=
  if decide (a0 ≥ 0) = true then
    (f_nat_Of fuel a0).bind fun r1 =>
    some r1
  else
    (f_nat_Of fuel (IntKind.i64.wrap (0 - (IntKind.i64.wrap (a0 + 1))))).bind fun r2 =>
    (f_nat_Of fuel 1).bind fun r3 =>
    (f_nat_N_Add fuel r2 r3).bind fun r4 =>
    some r4
theorem f_rat_size_run (k : Nat) (x : denL [.int .i64]) : runFn E_rat_size LL_rat_size k 43 Tryd.f43 [.int .i64] [.fresh (.int .u32)] x = f_rat_size k x := by kernel_rfl
noncomputable def S_rat_size : Vm.Spec := { ps := [.int .i64], rs := [.fresh (.int .u32)], f := fun x => f_rat_size fuel x }
theorem f_rat_size_holds : Vm.Spec.holds Tryd.prog 43 S_rat_size := by
  have hB : BodiesOk Tryd.prog E_rat_size := bodies_none rfl
  have hBS : BodiesStepped E_rat_size LL_rat_size := bodies_stepped_none rfl
  have hS : SpecsOk Tryd.prog E_rat_size := specs_ok (by exact ⟨⟨by kernel_rfl, f_nat_Of_holds⟩, ⟨by kernel_rfl, f_nat_N_Add_holds⟩, trivial⟩)
  have hE : EOk Tryd.prog E_rat_size := eok_te ok
  exact fn_sound (L := LL_rat_size) hE hS hB (draws_ok hE hS (by kernel_rfl)) hBS (fn := Tryd.f43) (by kernel_rfl) (c := bodyOf Tryd.f43) (by kernel_rfl) (stepped_none rfl) fun x r h => ⟨fuel, (f_rat_size_run fuel x).trans h⟩

/-! gamehall/rat.Of -/
noncomputable def E_rat_Of : Env := { te := te, spec := [(39, S_rat_Told), (42, S_rat_low), (43, S_rat_size)], body := [] }
def LL_rat_Of : Loops := []
def f_rat_Of (k : Nat) (a0 : Int) (a1 : Int) : Option (ByteArray × Int) :=
  if (a1 == 0) = true then
    some ((⟨#[]⟩ : ByteArray), 18)
  else
    (f_rat_size fuel a0).bind fun r1 =>
    (f_rat_size fuel a1).bind fun r2 =>
    (f_rat_low fuel (!(decide (a0 < 0) == decide (a1 < 0))) r1 r2).bind fun r3 =>
    (f_rat_Told fuel r3).bind fun r4 =>
    some (r4.1, r4.2)
theorem f_rat_Of_run (k : Nat) (x : denL [.int .i64, .int .i64]) : runFn E_rat_Of LL_rat_Of k 24 Tryd.f24 [.int .i64, .int .i64] [.imm .str, .imm (.int .i64)] x = f_rat_Of k x.1 x.2 := by kernel_rfl
noncomputable def S_rat_Of : Vm.Spec := { ps := [.int .i64, .int .i64], rs := [.imm .str, .imm (.int .i64)], f := fun x => f_rat_Of fuel x.1 x.2 }
theorem f_rat_Of_holds : Vm.Spec.holds Tryd.prog 24 S_rat_Of := by
  have hB : BodiesOk Tryd.prog E_rat_Of := bodies_none rfl
  have hBS : BodiesStepped E_rat_Of LL_rat_Of := bodies_stepped_none rfl
  have hS : SpecsOk Tryd.prog E_rat_Of := specs_ok (by exact ⟨⟨by kernel_rfl, f_rat_Told_holds⟩, ⟨by kernel_rfl, f_rat_low_holds⟩, ⟨by kernel_rfl, f_rat_size_holds⟩, trivial⟩)
  have hE : EOk Tryd.prog E_rat_Of := eok_te ok
  exact fn_sound (L := LL_rat_Of) hE hS hB (draws_ok hE hS (by kernel_rfl)) hBS (fn := Tryd.f24) (by kernel_rfl) (c := bodyOf Tryd.f24) (by kernel_rfl) (stepped_none rfl) fun x r h => ⟨fuel, (f_rat_Of_run fuel x).trans h⟩

/-! gamehall/rat.Add -/
noncomputable def E_rat_Add : Env := { te := te, spec := [(8, S_rat_CheckAll), (28, S_rat_Q_Add), (34, S_rat_In), (39, S_rat_Told)], body := [(27, Tryd.f27)] }
def LL_rat_Add : Loops := []
def f_rat_Add (k : Nat) (a0 : ByteArray) (a1 : ByteArray) : Option (ByteArray × Int) :=
  (f_rat_CheckAll fuel [a0, a1]).bind fun r1 =>
  if (r1 != 0) = true then
    some ((⟨#[]⟩ : ByteArray), r1)
  else
    (f_rat_In fuel a0).bind fun r2 =>
    (f_rat_In fuel a1).bind fun r3 =>
    (f_rat_Q_Add fuel r2 r3).bind fun r4 =>
    (f_rat_Told fuel r4).bind fun r5 =>
    some (r5.1, r5.2)
theorem f_rat_Add_run (k : Nat) (x : denL [.str, .str]) : runFn E_rat_Add LL_rat_Add k 9 Tryd.f9 [.str, .str] [.imm .str, .imm (.int .i64)] x = f_rat_Add k x.1 x.2 := by kernel_rfl
noncomputable def S_rat_Add : Vm.Spec := { ps := [.str, .str], rs := [.imm .str, .imm (.int .i64)], f := fun x => f_rat_Add fuel x.1 x.2 }
theorem f_rat_Add_holds : Vm.Spec.holds Tryd.prog 9 S_rat_Add := by
  have hB : BodiesOk Tryd.prog E_rat_Add := bodies_ok (by exact ⟨by kernel_rfl, by kernel_rfl, trivial⟩)
  have hBS : BodiesStepped E_rat_Add LL_rat_Add := by
    refine bodies_stepped ?_
    exact ⟨(fun _ => stepped_noloop (by kernel_rfl)),  trivial⟩
  have hS : SpecsOk Tryd.prog E_rat_Add := specs_ok (by exact ⟨⟨by kernel_rfl, f_rat_CheckAll_holds⟩, ⟨by kernel_rfl, f_rat_Q_Add_holds⟩, ⟨by kernel_rfl, f_rat_In_holds⟩, ⟨by kernel_rfl, f_rat_Told_holds⟩, trivial⟩)
  have hE : EOk Tryd.prog E_rat_Add := eok_te ok
  exact fn_sound (L := LL_rat_Add) hE hS hB (draws_ok hE hS (by kernel_rfl)) hBS (fn := Tryd.f9) (by kernel_rfl) (c := bodyOf Tryd.f9) (by kernel_rfl) (stepped_none rfl) fun x r h => ⟨fuel, (f_rat_Add_run fuel x).trans h⟩

/-! gamehall/rat.Sub -/
noncomputable def E_rat_Sub : Env := { te := te, spec := [(8, S_rat_CheckAll), (30, S_rat_Q_Sub), (34, S_rat_In), (39, S_rat_Told)], body := [(27, Tryd.f27)] }
def LL_rat_Sub : Loops := []
def f_rat_Sub (k : Nat) (a0 : ByteArray) (a1 : ByteArray) : Option (ByteArray × Int) :=
  (f_rat_CheckAll fuel [a0, a1]).bind fun r1 =>
  if (r1 != 0) = true then
    some ((⟨#[]⟩ : ByteArray), r1)
  else
    (f_rat_In fuel a0).bind fun r2 =>
    (f_rat_In fuel a1).bind fun r3 =>
    (f_rat_Q_Sub fuel r2 r3).bind fun r4 =>
    (f_rat_Told fuel r4).bind fun r5 =>
    some (r5.1, r5.2)
theorem f_rat_Sub_run (k : Nat) (x : denL [.str, .str]) : runFn E_rat_Sub LL_rat_Sub k 11 Tryd.f11 [.str, .str] [.imm .str, .imm (.int .i64)] x = f_rat_Sub k x.1 x.2 := by kernel_rfl
noncomputable def S_rat_Sub : Vm.Spec := { ps := [.str, .str], rs := [.imm .str, .imm (.int .i64)], f := fun x => f_rat_Sub fuel x.1 x.2 }
theorem f_rat_Sub_holds : Vm.Spec.holds Tryd.prog 11 S_rat_Sub := by
  have hB : BodiesOk Tryd.prog E_rat_Sub := bodies_ok (by exact ⟨by kernel_rfl, by kernel_rfl, trivial⟩)
  have hBS : BodiesStepped E_rat_Sub LL_rat_Sub := by
    refine bodies_stepped ?_
    exact ⟨(fun _ => stepped_noloop (by kernel_rfl)),  trivial⟩
  have hS : SpecsOk Tryd.prog E_rat_Sub := specs_ok (by exact ⟨⟨by kernel_rfl, f_rat_CheckAll_holds⟩, ⟨by kernel_rfl, f_rat_Q_Sub_holds⟩, ⟨by kernel_rfl, f_rat_In_holds⟩, ⟨by kernel_rfl, f_rat_Told_holds⟩, trivial⟩)
  have hE : EOk Tryd.prog E_rat_Sub := eok_te ok
  exact fn_sound (L := LL_rat_Sub) hE hS hB (draws_ok hE hS (by kernel_rfl)) hBS (fn := Tryd.f11) (by kernel_rfl) (c := bodyOf Tryd.f11) (by kernel_rfl) (stepped_none rfl) fun x r h => ⟨fuel, (f_rat_Sub_run fuel x).trans h⟩

/-! gamehall/rat.Mul -/
noncomputable def E_rat_Mul : Env := { te := te, spec := [(8, S_rat_CheckAll), (29, S_rat_Q_Mul), (34, S_rat_In), (39, S_rat_Told)], body := [(27, Tryd.f27)] }
def LL_rat_Mul : Loops := []
def f_rat_Mul (k : Nat) (a0 : ByteArray) (a1 : ByteArray) : Option (ByteArray × Int) :=
  (f_rat_CheckAll fuel [a0, a1]).bind fun r1 =>
  if (r1 != 0) = true then
    some ((⟨#[]⟩ : ByteArray), r1)
  else
    (f_rat_In fuel a0).bind fun r2 =>
    (f_rat_In fuel a1).bind fun r3 =>
    (f_rat_Q_Mul fuel r2 r3).bind fun r4 =>
    (f_rat_Told fuel r4).bind fun r5 =>
    some (r5.1, r5.2)
theorem f_rat_Mul_run (k : Nat) (x : denL [.str, .str]) : runFn E_rat_Mul LL_rat_Mul k 10 Tryd.f10 [.str, .str] [.imm .str, .imm (.int .i64)] x = f_rat_Mul k x.1 x.2 := by kernel_rfl
noncomputable def S_rat_Mul : Vm.Spec := { ps := [.str, .str], rs := [.imm .str, .imm (.int .i64)], f := fun x => f_rat_Mul fuel x.1 x.2 }
theorem f_rat_Mul_holds : Vm.Spec.holds Tryd.prog 10 S_rat_Mul := by
  have hB : BodiesOk Tryd.prog E_rat_Mul := bodies_ok (by exact ⟨by kernel_rfl, by kernel_rfl, trivial⟩)
  have hBS : BodiesStepped E_rat_Mul LL_rat_Mul := by
    refine bodies_stepped ?_
    exact ⟨(fun _ => stepped_noloop (by kernel_rfl)),  trivial⟩
  have hS : SpecsOk Tryd.prog E_rat_Mul := specs_ok (by exact ⟨⟨by kernel_rfl, f_rat_CheckAll_holds⟩, ⟨by kernel_rfl, f_rat_Q_Mul_holds⟩, ⟨by kernel_rfl, f_rat_In_holds⟩, ⟨by kernel_rfl, f_rat_Told_holds⟩, trivial⟩)
  have hE : EOk Tryd.prog E_rat_Mul := eok_te ok
  exact fn_sound (L := LL_rat_Mul) hE hS hB (draws_ok hE hS (by kernel_rfl)) hBS (fn := Tryd.f10) (by kernel_rfl) (c := bodyOf Tryd.f10) (by kernel_rfl) (stepped_none rfl) fun x r h => ⟨fuel, (f_rat_Mul_run fuel x).trans h⟩

/-! gamehall/rat.Div -/
noncomputable def E_rat_Div : Env := { te := te, spec := [(8, S_rat_CheckAll), (31, S_rat_Q_Quo), (34, S_rat_In), (39, S_rat_Told)], body := [(27, Tryd.f27)] }
def LL_rat_Div : Loops := []
def f_rat_Div (k : Nat) (a0 : ByteArray) (a1 : ByteArray) : Option (ByteArray × Int) :=
  (f_rat_CheckAll fuel [a0, a1]).bind fun r1 =>
  if (r1 != 0) = true then
    some ((⟨#[]⟩ : ByteArray), r1)
  else
    if ((a1.toList == (⟨#[48]⟩ : ByteArray).toList)) = true then
      some ((⟨#[]⟩ : ByteArray), 18)
    else
      (f_rat_CheckAll fuel [a0, a1]).bind fun r2 =>
      if (r2 != 0) = true then
        some ((⟨#[]⟩ : ByteArray), r2)
      else
        (f_rat_In fuel a0).bind fun r3 =>
        (f_rat_In fuel a1).bind fun r4 =>
        (f_rat_Q_Quo fuel r3 r4).bind fun r5 =>
        (f_rat_Told fuel r5).bind fun r6 =>
        some (r6.1, r6.2)
theorem f_rat_Div_run (k : Nat) (x : denL [.str, .str]) : runFn E_rat_Div LL_rat_Div k 12 Tryd.f12 [.str, .str] [.imm .str, .imm (.int .i64)] x = f_rat_Div k x.1 x.2 := by kernel_rfl
noncomputable def S_rat_Div : Vm.Spec := { ps := [.str, .str], rs := [.imm .str, .imm (.int .i64)], f := fun x => f_rat_Div fuel x.1 x.2 }
theorem f_rat_Div_holds : Vm.Spec.holds Tryd.prog 12 S_rat_Div := by
  have hB : BodiesOk Tryd.prog E_rat_Div := bodies_ok (by exact ⟨by kernel_rfl, by kernel_rfl, trivial⟩)
  have hBS : BodiesStepped E_rat_Div LL_rat_Div := by
    refine bodies_stepped ?_
    exact ⟨(fun _ => stepped_noloop (by kernel_rfl)),  trivial⟩
  have hS : SpecsOk Tryd.prog E_rat_Div := specs_ok (by exact ⟨⟨by kernel_rfl, f_rat_CheckAll_holds⟩, ⟨by kernel_rfl, f_rat_Q_Quo_holds⟩, ⟨by kernel_rfl, f_rat_In_holds⟩, ⟨by kernel_rfl, f_rat_Told_holds⟩, trivial⟩)
  have hE : EOk Tryd.prog E_rat_Div := eok_te ok
  exact fn_sound (L := LL_rat_Div) hE hS hB (draws_ok hE hS (by kernel_rfl)) hBS (fn := Tryd.f12) (by kernel_rfl) (c := bodyOf Tryd.f12) (by kernel_rfl) (stepped_none rfl) fun x r h => ⟨fuel, (f_rat_Div_run fuel x).trans h⟩

/-! gamehall/rat.Neg -/
noncomputable def E_rat_Neg : Env := { te := te, spec := [(26, S_rat_Check), (34, S_rat_In), (37, S_rat_Q_Neg), (38, S_rat_Q_Out)], body := [] }
def LL_rat_Neg : Loops := []
def f_rat_Neg (k : Nat) (a0 : ByteArray) : Option (ByteArray × Int) :=
  (f_rat_Check fuel a0).bind fun r1 =>
  if (r1 != 0) = true then
    some ((⟨#[]⟩ : ByteArray), r1)
  else
    (f_rat_In fuel a0).bind fun r2 =>
    (f_rat_Q_Neg fuel r2).bind fun r3 =>
    (f_rat_Q_Out fuel r3).bind fun r4 =>
    some (r4, 0)
theorem f_rat_Neg_run (k : Nat) (x : denL [.str]) : runFn E_rat_Neg LL_rat_Neg k 16 Tryd.f16 [.str] [.imm .str, .imm (.int .i64)] x = f_rat_Neg k x := by kernel_rfl
noncomputable def S_rat_Neg : Vm.Spec := { ps := [.str], rs := [.imm .str, .imm (.int .i64)], f := fun x => f_rat_Neg fuel x }
theorem f_rat_Neg_holds : Vm.Spec.holds Tryd.prog 16 S_rat_Neg := by
  have hB : BodiesOk Tryd.prog E_rat_Neg := bodies_none rfl
  have hBS : BodiesStepped E_rat_Neg LL_rat_Neg := bodies_stepped_none rfl
  have hS : SpecsOk Tryd.prog E_rat_Neg := specs_ok (by exact ⟨⟨by kernel_rfl, f_rat_Check_holds⟩, ⟨by kernel_rfl, f_rat_In_holds⟩, ⟨by kernel_rfl, f_rat_Q_Neg_holds⟩, ⟨by kernel_rfl, f_rat_Q_Out_holds⟩, trivial⟩)
  have hE : EOk Tryd.prog E_rat_Neg := eok_te ok
  exact fn_sound (L := LL_rat_Neg) hE hS hB (draws_ok hE hS (by kernel_rfl)) hBS (fn := Tryd.f16) (by kernel_rfl) (c := bodyOf Tryd.f16) (by kernel_rfl) (stepped_none rfl) fun x r h => ⟨fuel, (f_rat_Neg_run fuel x).trans h⟩

/-! gamehall/rat.Compare -/
noncomputable def E_rat_Compare : Env := { te := te, spec := [(8, S_rat_CheckAll), (34, S_rat_In), (35, S_rat_Q_Cmp)], body := [] }
def LL_rat_Compare : Loops := []
def f_rat_Compare (k : Nat) (a0 : ByteArray) (a1 : ByteArray) : Option (Int × Int) :=
  (f_rat_CheckAll fuel [a0, a1]).bind fun r1 =>
  if (r1 != 0) = true then
    some (0, r1)
  else
    (f_rat_In fuel a0).bind fun r2 =>
    (f_rat_In fuel a1).bind fun r3 =>
    (f_rat_Q_Cmp fuel r2 r3).bind fun r4 =>
    some (r4, 0)
theorem f_rat_Compare_run (k : Nat) (x : denL [.str, .str]) : runFn E_rat_Compare LL_rat_Compare k 14 Tryd.f14 [.str, .str] [.imm (.int .i64), .imm (.int .i64)] x = f_rat_Compare k x.1 x.2 := by kernel_rfl
noncomputable def S_rat_Compare : Vm.Spec := { ps := [.str, .str], rs := [.imm (.int .i64), .imm (.int .i64)], f := fun x => f_rat_Compare fuel x.1 x.2 }
theorem f_rat_Compare_holds : Vm.Spec.holds Tryd.prog 14 S_rat_Compare := by
  have hB : BodiesOk Tryd.prog E_rat_Compare := bodies_none rfl
  have hBS : BodiesStepped E_rat_Compare LL_rat_Compare := bodies_stepped_none rfl
  have hS : SpecsOk Tryd.prog E_rat_Compare := specs_ok (by exact ⟨⟨by kernel_rfl, f_rat_CheckAll_holds⟩, ⟨by kernel_rfl, f_rat_In_holds⟩, ⟨by kernel_rfl, f_rat_Q_Cmp_holds⟩, trivial⟩)
  have hE : EOk Tryd.prog E_rat_Compare := eok_te ok
  exact fn_sound (L := LL_rat_Compare) hE hS hB (draws_ok hE hS (by kernel_rfl)) hBS (fn := Tryd.f14) (by kernel_rfl) (c := bodyOf Tryd.f14) (by kernel_rfl) (stepped_none rfl) fun x r h => ⟨fuel, (f_rat_Compare_run fuel x).trans h⟩

/-! gamehall/rat.Sign -/
noncomputable def E_rat_Sign : Env := { te := te, spec := [(26, S_rat_Check), (34, S_rat_In), (36, S_rat_Q_Sign)], body := [] }
def LL_rat_Sign : Loops := []
def f_rat_Sign (k : Nat) (a0 : ByteArray) : Option (Int × Int) :=
  (f_rat_Check fuel a0).bind fun r1 =>
  if (r1 != 0) = true then
    some (0, r1)
  else
    (f_rat_In fuel a0).bind fun r2 =>
    (f_rat_Q_Sign fuel r2).bind fun r3 =>
    some (r3, 0)
theorem f_rat_Sign_run (k : Nat) (x : denL [.str]) : runFn E_rat_Sign LL_rat_Sign k 15 Tryd.f15 [.str] [.imm (.int .i64), .imm (.int .i64)] x = f_rat_Sign k x := by kernel_rfl
noncomputable def S_rat_Sign : Vm.Spec := { ps := [.str], rs := [.imm (.int .i64), .imm (.int .i64)], f := fun x => f_rat_Sign fuel x }
theorem f_rat_Sign_holds : Vm.Spec.holds Tryd.prog 15 S_rat_Sign := by
  have hB : BodiesOk Tryd.prog E_rat_Sign := bodies_none rfl
  have hBS : BodiesStepped E_rat_Sign LL_rat_Sign := bodies_stepped_none rfl
  have hS : SpecsOk Tryd.prog E_rat_Sign := specs_ok (by exact ⟨⟨by kernel_rfl, f_rat_Check_holds⟩, ⟨by kernel_rfl, f_rat_In_holds⟩, ⟨by kernel_rfl, f_rat_Q_Sign_holds⟩, trivial⟩)
  have hE : EOk Tryd.prog E_rat_Sign := eok_te ok
  exact fn_sound (L := LL_rat_Sign) hE hS hB (draws_ok hE hS (by kernel_rfl)) hBS (fn := Tryd.f15) (by kernel_rfl) (c := bodyOf Tryd.f15) (by kernel_rfl) (stepped_none rfl) fun x r h => ⟨fuel, (f_rat_Sign_run fuel x).trans h⟩

/-! gamehall/rat.Floor -/
noncomputable def E_rat_Floor : Env := { te := te, spec := [(26, S_rat_Check), (34, S_rat_In), (39, S_rat_Told), (40, S_rat_Q_down)], body := [] }
def LL_rat_Floor : Loops := []
def f_rat_Floor (k : Nat) (a0 : ByteArray) : Option (ByteArray × Int) :=
  (f_rat_Check fuel a0).bind fun r1 =>
  if (r1 != 0) = true then
    some ((⟨#[]⟩ : ByteArray), r1)
  else
    (f_rat_In fuel a0).bind fun r2 =>
    (f_rat_Q_down fuel r2).bind fun r3 =>
    (f_rat_Told fuel r3).bind fun r4 =>
    some (r4.1, r4.2)
theorem f_rat_Floor_run (k : Nat) (x : denL [.str]) : runFn E_rat_Floor LL_rat_Floor k 17 Tryd.f17 [.str] [.imm .str, .imm (.int .i64)] x = f_rat_Floor k x := by kernel_rfl
noncomputable def S_rat_Floor : Vm.Spec := { ps := [.str], rs := [.imm .str, .imm (.int .i64)], f := fun x => f_rat_Floor fuel x }
theorem f_rat_Floor_holds : Vm.Spec.holds Tryd.prog 17 S_rat_Floor := by
  have hB : BodiesOk Tryd.prog E_rat_Floor := bodies_none rfl
  have hBS : BodiesStepped E_rat_Floor LL_rat_Floor := bodies_stepped_none rfl
  have hS : SpecsOk Tryd.prog E_rat_Floor := specs_ok (by exact ⟨⟨by kernel_rfl, f_rat_Check_holds⟩, ⟨by kernel_rfl, f_rat_In_holds⟩, ⟨by kernel_rfl, f_rat_Told_holds⟩, ⟨by kernel_rfl, f_rat_Q_down_holds⟩, trivial⟩)
  have hE : EOk Tryd.prog E_rat_Floor := eok_te ok
  exact fn_sound (L := LL_rat_Floor) hE hS hB (draws_ok hE hS (by kernel_rfl)) hBS (fn := Tryd.f17) (by kernel_rfl) (c := bodyOf Tryd.f17) (by kernel_rfl) (stepped_none rfl) fun x r h => ⟨fuel, (f_rat_Floor_run fuel x).trans h⟩

/-! gamehall/rat.Sum -/
noncomputable def E_rat_Sum : Env := { te := te, spec := [(8, S_rat_CheckAll), (28, S_rat_Q_Add), (34, S_rat_In), (39, S_rat_Told), (44, S_rat_Fits)], body := [] }
def l_rat_Sum_8H : Ann := { slots := [(5, .one (.fix (.pbox 20 0))), (16, .one (.val (.slice .str))), (17, .one (.val (.int .i64))), (18, .one (.val (.int .i64)))], objs := [(20, .box [.val .bool, .val (.slice (.int .u32)), .val (.slice (.int .u32))])] }
def l_rat_Sum_8X : Ann := { slots := [(5, .one (.fix (.pbox 20 0)))], objs := [(20, .box [.val .bool, .val (.slice (.int .u32)), .val (.slice (.int .u32))])] }
def l_rat_Sum_8R : Ann := { slots := [(2, .one (.val .str)), (3, .one (.val (.int .i64)))], objs := [(20, .box [.val .bool, .val (.slice (.int .u32)), .val (.slice (.int .u32))])] }
def l_rat_Sum_8 : Nat → List ByteArray → Int → Int → Bool → List Int → List Int → Option (LR l_rat_Sum_8X l_rat_Sum_8R)
  | 0, _, _, _, _, _, _ => none
  | m + 1, s16, s17, s18, b20_0, b20_1, b20_2 =>
    if decide (s18 < s17) = true then
      if (0 : Int) ≤ s18 then
        if s18 < s16.length then
          (f_rat_In fuel (s16.getD s18.toNat ByteArray.empty)).bind fun r1 =>
          (f_rat_Q_Add fuel (b20_0, (b20_1, b20_2)) r1).bind fun r2 =>
          (f_rat_Fits fuel r2).bind fun r3 =>
          if (r3 != 0) = true then
            some (.ret ((⟨#[]⟩ : ByteArray), 2, r2.1, r2.2.1, r2.2.2, ()))
          else
            l_rat_Sum_8 m s16 s17 (IntKind.i64.wrap (s18 + 1)) r2.1 r2.2.1 r2.2.2
        else none
      else none
    else
      some (.exit (b20_0, b20_1, b20_2, ()))
def l_rat_Sum_8L : LSpec := { h := l_rat_Sum_8H, x := l_rat_Sum_8X, r := l_rat_Sum_8R, xid := 0, rt := true, pins := [20], f := fun k d => l_rat_Sum_8 k d.1 d.2.1 d.2.2.1 d.2.2.2.1 d.2.2.2.2.1 d.2.2.2.2.2.1 }
def LL_rat_Sum : Loops := [([25], [(8, l_rat_Sum_8L)])]
def f_rat_Sum (k : Nat) (a0 : List ByteArray) : Option (ByteArray × Int) :=
  if decide ((a0.length : Int) > 256) = true then
    some ((⟨#[]⟩ : ByteArray), 2)
  else
    (f_rat_CheckAll fuel a0).bind fun r1 =>
    if (r1 != 0) = true then
      some ((⟨#[]⟩ : ByteArray), r1)
    else
      match l_rat_Sum_8 k a0 (a0.length : Int) 0 false [] [] with
      | none => none
      | some (.exit d2) =>
        (f_rat_Told fuel (d2.1, (d2.2.1, d2.2.2.1))).bind fun r3 =>
        some (r3.1, r3.2)
      | some (.ret d2) =>
        some (d2.1, d2.2.1)
theorem l_rat_Sum_8_step (m : Nat) (d : dens l_rat_Sum_8H.tys) : l_rat_Sum_8L.f (m + 1) d = round E_rat_Sum LL_rat_Sum m [25] 34 (loopN (bodyOf Tryd.f25) 0) l_rat_Sum_8L (l_rat_Sum_8L.f m) d := by kernel_rfl
theorem f_rat_Sum_run (k : Nat) (x : denL [.slice .str]) : runFn E_rat_Sum LL_rat_Sum k 25 Tryd.f25 [.slice .str] [.imm .str, .imm (.int .i64)] x = f_rat_Sum k x := by kernel_rfl
noncomputable def S_rat_Sum : Vm.Spec := { ps := [.slice .str], rs := [.imm .str, .imm (.int .i64)], f := fun x => f_rat_Sum fuel x }
theorem f_rat_Sum_holds : Vm.Spec.holds Tryd.prog 25 S_rat_Sum := by
  have hB : BodiesOk Tryd.prog E_rat_Sum := bodies_none rfl
  have hBS : BodiesStepped E_rat_Sum LL_rat_Sum := bodies_stepped_none rfl
  have hS : SpecsOk Tryd.prog E_rat_Sum := specs_ok (by exact ⟨⟨by kernel_rfl, f_rat_CheckAll_holds⟩, ⟨by kernel_rfl, f_rat_Q_Add_holds⟩, ⟨by kernel_rfl, f_rat_In_holds⟩, ⟨by kernel_rfl, f_rat_Told_holds⟩, ⟨by kernel_rfl, f_rat_Fits_holds⟩, trivial⟩)
  have hE : EOk Tryd.prog E_rat_Sum := eok_te ok
  exact fn_sound (L := LL_rat_Sum) hE hS hB (draws_ok hE hS (by kernel_rfl)) hBS (fn := Tryd.f25) (by kernel_rfl) (c := bodyOf Tryd.f25) (by kernel_rfl) (stepped_of (ls := [(8, l_rat_Sum_8L)]) rfl rfl ⟨by kernel_rfl, fun _ => rfl, l_rat_Sum_8_step, stepsI_end (by kernel_rfl)⟩) fun x r h => ⟨fuel, (f_rat_Sum_run fuel x).trans h⟩

/-! gamehall/rat.Best -/
noncomputable def E_rat_Best : Env := { te := te, spec := [(8, S_rat_CheckAll), (34, S_rat_In), (35, S_rat_Q_Cmp)], body := [] }
def l_rat_Best_10H : Ann := { slots := [(0, .one (.val (.slice .str))), (5, .one (.val (.int .i64))), (19, .one (.val (.slice .str))), (20, .one (.val (.int .i64))), (21, .one (.val (.int .i64)))], objs := [] }
def l_rat_Best_10X : Ann := { slots := [(5, .one (.val (.int .i64)))], objs := [] }
def l_rat_Best_10R : Ann := { slots := [], objs := [] }
def l_rat_Best_10 : Nat → List ByteArray → Int → List ByteArray → Int → Int → Option (LR l_rat_Best_10X l_rat_Best_10R)
  | 0, _, _, _, _, _ => none
  | m + 1, s0, s5, s19, s20, s21 =>
    if decide (s21 < s20) = true then
      if (0 : Int) ≤ s21 then
        if s21 < s19.length then
          if (0 : Int) ≤ s5 then
            if s5 < s0.length then
              (f_rat_In fuel (s19.getD s21.toNat ByteArray.empty)).bind fun r1 =>
              (f_rat_In fuel (s0.getD s5.toNat ByteArray.empty)).bind fun r2 =>
              (f_rat_Q_Cmp fuel r1 r2).bind fun r3 =>
              if decide (r3 > 0) = true then
                l_rat_Best_10 m s0 s21 s19 s20 (IntKind.i64.wrap (s21 + 1))
              else
                l_rat_Best_10 m s0 s5 s19 s20 (IntKind.i64.wrap (s21 + 1))
            else none
          else none
        else none
      else none
    else
      some (.exit (s5, ()))
def l_rat_Best_10L : LSpec := { h := l_rat_Best_10H, x := l_rat_Best_10X, r := l_rat_Best_10R, xid := 0, rt := false, pins := [], f := fun k d => l_rat_Best_10 k d.1 d.2.1 d.2.2.1 d.2.2.2.1 d.2.2.2.2.1 }
def LL_rat_Best : Loops := [([21], [(10, l_rat_Best_10L)])]
def f_rat_Best (k : Nat) (a0 : List ByteArray) : Option (Int × Int) :=
  if decide ((a0.length : Int) > 256) = true then
    some (0, 2)
  else
    if ((a0.length : Int) == 0) = true then
      some (0, 8)
    else
      (f_rat_CheckAll fuel a0).bind fun r1 =>
      if (r1 != 0) = true then
        some (0, r1)
      else
        match l_rat_Best_10 k a0 0 a0 (a0.length : Int) 0 with
        | none => none
        | some (.exit d2) =>
          some (d2.1, 0)
        | some (.ret d2) =>
          none
theorem l_rat_Best_10_step (m : Nat) (d : dens l_rat_Best_10H.tys) : l_rat_Best_10L.f (m + 1) d = round E_rat_Best LL_rat_Best m [21] 38 (loopN (bodyOf Tryd.f21) 0) l_rat_Best_10L (l_rat_Best_10L.f m) d := by kernel_rfl
theorem f_rat_Best_run (k : Nat) (x : denL [.slice .str]) : runFn E_rat_Best LL_rat_Best k 21 Tryd.f21 [.slice .str] [.imm (.int .i64), .imm (.int .i64)] x = f_rat_Best k x := by kernel_rfl
noncomputable def S_rat_Best : Vm.Spec := { ps := [.slice .str], rs := [.imm (.int .i64), .imm (.int .i64)], f := fun x => f_rat_Best fuel x }
theorem f_rat_Best_holds : Vm.Spec.holds Tryd.prog 21 S_rat_Best := by
  have hB : BodiesOk Tryd.prog E_rat_Best := bodies_none rfl
  have hBS : BodiesStepped E_rat_Best LL_rat_Best := bodies_stepped_none rfl
  have hS : SpecsOk Tryd.prog E_rat_Best := specs_ok (by exact ⟨⟨by kernel_rfl, f_rat_CheckAll_holds⟩, ⟨by kernel_rfl, f_rat_In_holds⟩, ⟨by kernel_rfl, f_rat_Q_Cmp_holds⟩, trivial⟩)
  have hE : EOk Tryd.prog E_rat_Best := eok_te ok
  exact fn_sound (L := LL_rat_Best) hE hS hB (draws_ok hE hS (by kernel_rfl)) hBS (fn := Tryd.f21) (by kernel_rfl) (c := bodyOf Tryd.f21) (by kernel_rfl) (stepped_of (ls := [(10, l_rat_Best_10L)]) rfl rfl ⟨by kernel_rfl, fun _ => rfl, l_rat_Best_10_step, stepsI_end (by kernel_rfl)⟩) fun x r h => ⟨fuel, (f_rat_Best_run fuel x).trans h⟩

/-! gamehall/rat.Shares -/
noncomputable def E_rat_Shares : Env := { te := te, spec := [(25, S_rat_Sum), (31, S_rat_Q_Quo), (34, S_rat_In), (36, S_rat_Q_Sign), (39, S_rat_Told)], body := [] }
def l_rat_Shares_5H : Ann := { slots := [(22, .one (.val (.slice .str))), (23, .one (.val (.int .i64))), (24, .one (.val (.int .i64)))], objs := [] }
def l_rat_Shares_5X : Ann := { slots := [], objs := [] }
def l_rat_Shares_5R : Ann := { slots := [(2, .one (.fix .nil)), (3, .one (.val (.int .i64)))], objs := [] }
def l_rat_Shares_15H : Ann := { slots := [(8, .one (.fix (.pbox 32 0))), (9, .one (.own 232 .str)), (38, .one (.val (.slice .str))), (39, .one (.val (.int .i64))), (40, .one (.val (.int .i64)))], objs := [(32, .box [.val .bool, .val (.slice (.int .u32)), .val (.slice (.int .u32))]), (232, .buf .str)] }
def l_rat_Shares_15X : Ann := { slots := [(9, .one (.own 232 .str))], objs := [(232, .buf .str), (32, .box [.val .bool, .val (.slice (.int .u32)), .val (.slice (.int .u32))])] }
def l_rat_Shares_15R : Ann := { slots := [(2, .one (.fix .nil)), (3, .one (.val (.int .i64)))], objs := [(32, .box [.val .bool, .val (.slice (.int .u32)), .val (.slice (.int .u32))])] }
def l_rat_Shares_5 : Nat → List ByteArray → Int → Int → Option (LR l_rat_Shares_5X l_rat_Shares_5R)
  | 0, _, _, _ => none
  | m + 1, s22, s23, s24 =>
    if decide (s24 < s23) = true then
      if (0 : Int) ≤ s24 then
        if s24 < s22.length then
          (f_rat_In fuel (s22.getD s24.toNat ByteArray.empty)).bind fun r1 =>
          (f_rat_Q_Sign fuel r1).bind fun r2 =>
          if decide (r2 < 0) = true then
            some (.ret (4, ()))
          else
            l_rat_Shares_5 m s22 s23 (IntKind.i64.wrap (s24 + 1))
        else none
      else none
    else
      some (.exit ())
def l_rat_Shares_5L : LSpec := { h := l_rat_Shares_5H, x := l_rat_Shares_5X, r := l_rat_Shares_5R, xid := 0, rt := true, pins := [], f := fun k d => l_rat_Shares_5 k d.1 d.2.1 d.2.2.1 }
def l_rat_Shares_15 : Nat → List ByteArray → Int → Int → Bool → List Int → List Int → List ByteArray → Option (LR l_rat_Shares_15X l_rat_Shares_15R)
  | 0, _, _, _, _, _, _, _ => none
  | m + 1, s38, s39, s40, b32_0, b32_1, b32_2, b232 =>
    if decide (s40 < s39) = true then
      if (0 : Int) ≤ s40 then
        if s40 < s38.length then
          (f_rat_In fuel (s38.getD s40.toNat ByteArray.empty)).bind fun r1 =>
          (f_rat_Q_Quo fuel r1 (b32_0, (b32_1, b32_2))).bind fun r2 =>
          (f_rat_Told fuel r2).bind fun r3 =>
          if (r3.2 != 0) = true then
            some (.ret (r3.2, b32_0, b32_1, b32_2, ()))
          else
            if (b232.length + 1) * 16 ≤ 140737488355328 then
              l_rat_Shares_15 m s38 s39 (IntKind.i64.wrap (s40 + 1)) b32_0 b32_1 b32_2 (b232 ++ [r3.1])
            else none
        else none
      else none
    else
      some (.exit (b232, b32_0, b32_1, b32_2, ()))
def l_rat_Shares_15L : LSpec := { h := l_rat_Shares_15H, x := l_rat_Shares_15X, r := l_rat_Shares_15R, xid := 2, rt := true, pins := [32], f := fun k d => l_rat_Shares_15 k d.1 d.2.1 d.2.2.1 d.2.2.2.1 d.2.2.2.2.1 d.2.2.2.2.2.1 d.2.2.2.2.2.2.1 }
def LL_rat_Shares : Loops := [([18], [(5, l_rat_Shares_5L), (15, l_rat_Shares_15L)])]
def f_rat_Shares (k : Nat) (a0 : List ByteArray) : Option (List ByteArray × Int) :=
  (f_rat_Sum fuel a0).bind fun r1 =>
  if (r1.2 != 0) = true then
    some ([], r1.2)
  else
    match l_rat_Shares_5 k a0 (a0.length : Int) 0 with
    | none => none
    | some (.exit d2) =>
      (f_rat_In fuel r1.1).bind fun r3 =>
      (f_rat_Q_Sign fuel r3).bind fun r4 =>
      if (r4 == 0) = true then
        some ([], 18)
      else
        match l_rat_Shares_15 k a0 (a0.length : Int) 0 r3.1 r3.2.1 r3.2.2 [] with
        | none => none
        | some (.exit d5) =>
          some (d5.1, 0)
        | some (.ret d5) =>
          some ([], d5.1)
    | some (.ret d2) =>
      some ([], d2.1)
theorem l_rat_Shares_5_step (m : Nat) (d : dens l_rat_Shares_5H.tys) : l_rat_Shares_5L.f (m + 1) d = round E_rat_Shares LL_rat_Shares m [18] 61 (loopN (bodyOf Tryd.f18) 0) l_rat_Shares_5L (l_rat_Shares_5L.f m) d := by kernel_rfl
theorem l_rat_Shares_15_step (m : Nat) (d : dens l_rat_Shares_15H.tys) : l_rat_Shares_15L.f (m + 1) d = round E_rat_Shares LL_rat_Shares m [18] 61 (loopN (bodyOf Tryd.f18) 1) l_rat_Shares_15L (l_rat_Shares_15L.f m) d := by kernel_rfl
theorem f_rat_Shares_run (k : Nat) (x : denL [.slice .str]) : runFn E_rat_Shares LL_rat_Shares k 18 Tryd.f18 [.slice .str] [.fresh .str, .imm (.int .i64)] x = f_rat_Shares k x := by kernel_rfl
noncomputable def S_rat_Shares : Vm.Spec := { ps := [.slice .str], rs := [.fresh .str, .imm (.int .i64)], f := fun x => f_rat_Shares fuel x }
theorem f_rat_Shares_holds : Vm.Spec.holds Tryd.prog 18 S_rat_Shares := by
  have hB : BodiesOk Tryd.prog E_rat_Shares := bodies_none rfl
  have hBS : BodiesStepped E_rat_Shares LL_rat_Shares := bodies_stepped_none rfl
  have hS : SpecsOk Tryd.prog E_rat_Shares := specs_ok (by exact ⟨⟨by kernel_rfl, f_rat_Sum_holds⟩, ⟨by kernel_rfl, f_rat_Q_Quo_holds⟩, ⟨by kernel_rfl, f_rat_In_holds⟩, ⟨by kernel_rfl, f_rat_Q_Sign_holds⟩, ⟨by kernel_rfl, f_rat_Told_holds⟩, trivial⟩)
  have hE : EOk Tryd.prog E_rat_Shares := eok_te ok
  exact fn_sound (L := LL_rat_Shares) hE hS hB (draws_ok hE hS (by kernel_rfl)) hBS (fn := Tryd.f18) (by kernel_rfl) (c := bodyOf Tryd.f18) (by kernel_rfl) (stepped_of (ls := [(5, l_rat_Shares_5L), (15, l_rat_Shares_15L)]) rfl rfl ⟨by kernel_rfl, fun _ => rfl, l_rat_Shares_5_step, by kernel_rfl, fun _ => rfl, l_rat_Shares_15_step, stepsI_end (by kernel_rfl)⟩) fun x r h => ⟨fuel, (f_rat_Shares_run fuel x).trans h⟩

/-! gamehall/rat.Odds -/
noncomputable def E_rat_Odds : Env := { te := te, spec := [(25, S_rat_Sum), (34, S_rat_In), (36, S_rat_Q_Sign)], body := [] }
def l_rat_Odds_5H : Ann := { slots := [(15, .one (.val (.slice .str))), (16, .one (.val (.int .i64))), (17, .one (.val (.int .i64)))], objs := [] }
def l_rat_Odds_5X : Ann := { slots := [], objs := [] }
def l_rat_Odds_5R : Ann := { slots := [(2, .one (.val (.int .i64)))], objs := [] }
def l_rat_Odds_5 : Nat → List ByteArray → Int → Int → Option (LR l_rat_Odds_5X l_rat_Odds_5R)
  | 0, _, _, _ => none
  | m + 1, s15, s16, s17 =>
    if decide (s17 < s16) = true then
      if (0 : Int) ≤ s17 then
        if s17 < s15.length then
          (f_rat_In fuel (s15.getD s17.toNat ByteArray.empty)).bind fun r1 =>
          (f_rat_Q_Sign fuel r1).bind fun r2 =>
          if decide (r2 < 0) = true then
            some (.ret (4, ()))
          else
            l_rat_Odds_5 m s15 s16 (IntKind.i64.wrap (s17 + 1))
        else none
      else none
    else
      some (.exit ())
def l_rat_Odds_5L : LSpec := { h := l_rat_Odds_5H, x := l_rat_Odds_5X, r := l_rat_Odds_5R, xid := 0, rt := true, pins := [], f := fun k d => l_rat_Odds_5 k d.1 d.2.1 d.2.2.1 }
def LL_rat_Odds : Loops := [([22], [(5, l_rat_Odds_5L)])]
def f_rat_Odds (k : Nat) (a0 : List ByteArray) : Option (Int) :=
  (f_rat_Sum fuel a0).bind fun r1 =>
  if (r1.2 != 0) = true then
    some r1.2
  else
    match l_rat_Odds_5 k a0 (a0.length : Int) 0 with
    | none => none
    | some (.exit d2) =>
      if (!(r1.1.toList == (⟨#[49]⟩ : ByteArray).toList)) = true then
        some 3
      else
        some 0
    | some (.ret d2) =>
      some d2.1
theorem l_rat_Odds_5_step (m : Nat) (d : dens l_rat_Odds_5H.tys) : l_rat_Odds_5L.f (m + 1) d = round E_rat_Odds LL_rat_Odds m [22] 28 (loopN (bodyOf Tryd.f22) 0) l_rat_Odds_5L (l_rat_Odds_5L.f m) d := by kernel_rfl
theorem f_rat_Odds_run (k : Nat) (x : denL [.slice .str]) : runFn E_rat_Odds LL_rat_Odds k 22 Tryd.f22 [.slice .str] [.imm (.int .i64)] x = f_rat_Odds k x := by kernel_rfl
noncomputable def S_rat_Odds : Vm.Spec := { ps := [.slice .str], rs := [.imm (.int .i64)], f := fun x => f_rat_Odds fuel x }
theorem f_rat_Odds_holds : Vm.Spec.holds Tryd.prog 22 S_rat_Odds := by
  have hB : BodiesOk Tryd.prog E_rat_Odds := bodies_none rfl
  have hBS : BodiesStepped E_rat_Odds LL_rat_Odds := bodies_stepped_none rfl
  have hS : SpecsOk Tryd.prog E_rat_Odds := specs_ok (by exact ⟨⟨by kernel_rfl, f_rat_Sum_holds⟩, ⟨by kernel_rfl, f_rat_In_holds⟩, ⟨by kernel_rfl, f_rat_Q_Sign_holds⟩, trivial⟩)
  have hE : EOk Tryd.prog E_rat_Odds := eok_te ok
  exact fn_sound (L := LL_rat_Odds) hE hS hB (draws_ok hE hS (by kernel_rfl)) hBS (fn := Tryd.f22) (by kernel_rfl) (c := bodyOf Tryd.f22) (by kernel_rfl) (stepped_of (ls := [(5, l_rat_Odds_5L)]) rfl rfl ⟨by kernel_rfl, fun _ => rfl, l_rat_Odds_5_step, stepsI_end (by kernel_rfl)⟩) fun x r h => ⟨fuel, (f_rat_Odds_run fuel x).trans h⟩

/-! slices.Equal[[]gamehall/api.Rat,gamehall/api.Rat] -/
noncomputable def E_slices_Equal_Rat : Env := { te := te, spec := [], body := [] }
def l_slices_Equal_Rat_4H : Ann := { slots := [(0, .one (.val (.slice .str))), (1, .one (.val (.slice .str))), (12, .one (.val (.int .i64))), (13, .one (.val (.int .i64)))], objs := [] }
def l_slices_Equal_Rat_4X : Ann := { slots := [], objs := [] }
def l_slices_Equal_Rat_4R : Ann := { slots := [(4, .one (.val .bool))], objs := [] }
def l_slices_Equal_Rat_4 : Nat → List ByteArray → List ByteArray → Int → Int → Option (LR l_slices_Equal_Rat_4X l_slices_Equal_Rat_4R)
  | 0, _, _, _, _ => none
  | m + 1, s0, s1, s12, s13 =>
    if decide (s13 < s12) = true then
      if (0 : Int) ≤ s13 then
        if s13 < s0.length then
          if (0 : Int) ≤ s13 then
            if s13 < s1.length then
              if (!((s0.getD s13.toNat ByteArray.empty).toList == (s1.getD s13.toNat ByteArray.empty).toList)) = true then
                some (.ret (false, ()))
              else
                l_slices_Equal_Rat_4 m s0 s1 s12 (IntKind.i64.wrap (s13 + 1))
            else none
          else none
        else none
      else none
    else
      some (.exit ())
def l_slices_Equal_Rat_4L : LSpec := { h := l_slices_Equal_Rat_4H, x := l_slices_Equal_Rat_4X, r := l_slices_Equal_Rat_4R, xid := 0, rt := true, pins := [], f := fun k d => l_slices_Equal_Rat_4 k d.1 d.2.1 d.2.2.1 d.2.2.2.1 }
def LL_slices_Equal_Rat : Loops := [([23], [(4, l_slices_Equal_Rat_4L)])]
def f_slices_Equal_Rat (k : Nat) (a0 : List ByteArray) (a1 : List ByteArray) : Option (Bool) :=
  if ((a0.length : Int) != (a1.length : Int)) = true then
    some false
  else
    match l_slices_Equal_Rat_4 k a0 a1 (a0.length : Int) 0 with
    | none => none
    | some (.exit d1) =>
      some true
    | some (.ret d1) =>
      some d1.1
theorem l_slices_Equal_Rat_4_step (m : Nat) (d : dens l_slices_Equal_Rat_4H.tys) : l_slices_Equal_Rat_4L.f (m + 1) d = round E_slices_Equal_Rat LL_slices_Equal_Rat m [23] 26 (loopN (bodyOf Tryd.f23) 0) l_slices_Equal_Rat_4L (l_slices_Equal_Rat_4L.f m) d := by kernel_rfl
theorem f_slices_Equal_Rat_run (k : Nat) (x : denL [.slice .str, .slice .str]) : runFn E_slices_Equal_Rat LL_slices_Equal_Rat k 23 Tryd.f23 [.slice .str, .slice .str] [.imm .bool] x = f_slices_Equal_Rat k x.1 x.2 := by kernel_rfl
noncomputable def S_slices_Equal_Rat : Vm.Spec := { ps := [.slice .str, .slice .str], rs := [.imm .bool], f := fun x => f_slices_Equal_Rat fuel x.1 x.2 }
theorem f_slices_Equal_Rat_holds : Vm.Spec.holds Tryd.prog 23 S_slices_Equal_Rat := by
  have hB : BodiesOk Tryd.prog E_slices_Equal_Rat := bodies_none rfl
  have hBS : BodiesStepped E_slices_Equal_Rat LL_slices_Equal_Rat := bodies_stepped_none rfl
  have hS : SpecsOk Tryd.prog E_slices_Equal_Rat := specs_ok (by exact trivial)
  have hE : EOk Tryd.prog E_slices_Equal_Rat := eok_te ok
  exact fn_sound (L := LL_slices_Equal_Rat) hE hS hB (draws_ok hE hS (by kernel_rfl)) hBS (fn := Tryd.f23) (by kernel_rfl) (c := bodyOf Tryd.f23) (by kernel_rfl) (stepped_of (ls := [(4, l_slices_Equal_Rat_4L)]) rfl rfl ⟨by kernel_rfl, fun _ => rfl, l_slices_Equal_Rat_4_step, stepsI_end (by kernel_rfl)⟩) fun x r h => ⟨fuel, (f_slices_Equal_Rat_run fuel x).trans h⟩

/-! gamehall/gamehallkeep2.ratFact -/
noncomputable def E_gamehallkeep2_ratFact : Env := { te := te, spec := [(8, S_rat_CheckAll), (9, S_rat_Add), (10, S_rat_Mul), (11, S_rat_Sub), (12, S_rat_Div), (13, S_gamehallkeep2_fine), (14, S_rat_Compare), (15, S_rat_Sign), (16, S_rat_Neg), (17, S_rat_Floor), (18, S_rat_Shares), (21, S_rat_Best), (22, S_rat_Odds), (23, S_slices_Equal_Rat), (24, S_rat_Of), (25, S_rat_Sum), (26, S_rat_Check)], body := [] }
def LL_gamehallkeep2_ratFact : Loops := []
def f_gamehallkeep2_ratFact (k : Nat) : Option (Bool) :=
  (f_rat_Of fuel 6 (-4)).bind fun r1 =>
  (f_rat_Add fuel (⟨#[49, 47, 50]⟩ : ByteArray) (⟨#[49, 47, 51]⟩ : ByteArray)).bind fun r2 =>
  (f_rat_Sub fuel (⟨#[49, 47, 50]⟩ : ByteArray) (⟨#[49, 47, 51]⟩ : ByteArray)).bind fun r3 =>
  (f_rat_Mul fuel (⟨#[50, 47, 51]⟩ : ByteArray) (⟨#[51, 47, 50]⟩ : ByteArray)).bind fun r4 =>
  (f_rat_Div fuel (⟨#[49]⟩ : ByteArray) (⟨#[45, 51]⟩ : ByteArray)).bind fun r5 =>
  (f_rat_Neg fuel (⟨#[49, 47, 50]⟩ : ByteArray)).bind fun r6 =>
  (f_rat_Compare fuel (⟨#[49, 47, 50]⟩ : ByteArray) (⟨#[49, 47, 51]⟩ : ByteArray)).bind fun r7 =>
  (f_rat_Sign fuel (⟨#[45, 49]⟩ : ByteArray)).bind fun r8 =>
  (f_rat_Floor fuel (⟨#[45, 49, 47, 50]⟩ : ByteArray)).bind fun r9 =>
  (f_rat_Sum fuel [(⟨#[49, 47, 50]⟩ : ByteArray), (⟨#[49, 47, 51]⟩ : ByteArray), (⟨#[49, 47, 54]⟩ : ByteArray)]).bind fun r10 =>
  (f_rat_Best fuel [(⟨#[49]⟩ : ByteArray), (⟨#[50]⟩ : ByteArray), (⟨#[50]⟩ : ByteArray)]).bind fun r11 =>
  (f_rat_Shares fuel [(⟨#[49]⟩ : ByteArray), (⟨#[51]⟩ : ByteArray)]).bind fun r12 =>
  (f_gamehallkeep2_fine fuel [r1.2, r2.2, r3.2, r4.2, r5.2, r6.2, r7.2, r8.2, r9.2, r10.2, r11.2, r12.2]).bind fun r13 =>
  if r13 = true then
    if ((r1.1.toList == (⟨#[45, 51, 47, 50]⟩ : ByteArray).toList)) = true then
      if ((r2.1.toList == (⟨#[53, 47, 54]⟩ : ByteArray).toList)) = true then
        if ((r3.1.toList == (⟨#[49, 47, 54]⟩ : ByteArray).toList)) = true then
          if ((r4.1.toList == (⟨#[49]⟩ : ByteArray).toList)) = true then
            if ((r5.1.toList == (⟨#[45, 49, 47, 51]⟩ : ByteArray).toList)) = true then
              if ((r6.1.toList == (⟨#[45, 49, 47, 50]⟩ : ByteArray).toList)) = true then
                if (r7.1 == 1) = true then
                  if (r8.1 == (-1)) = true then
                    if ((r9.1.toList == (⟨#[45, 49]⟩ : ByteArray).toList)) = true then
                      if ((r10.1.toList == (⟨#[49]⟩ : ByteArray).toList)) = true then
                        if (r11.1 == 1) = true then
                          (f_slices_Equal_Rat fuel r12.1 [(⟨#[49, 47, 52]⟩ : ByteArray), (⟨#[51, 47, 52]⟩ : ByteArray)]).bind fun r14 =>
                          if r14 = true then
                            (f_rat_Check fuel (⟨#[50, 47, 52]⟩ : ByteArray)).bind fun r15 =>
                            if (r15 == 3) = true then
                              (f_rat_CheckAll fuel [(⟨#[48]⟩ : ByteArray), (⟨#[45, 48]⟩ : ByteArray)]).bind fun r16 =>
                              if (r16 == 5) = true then
                                if (1 : Int) ≤ r12.1.length then
                                  (f_rat_Odds fuel (r12.1.take 1)).bind fun r17 =>
                                  some (r17 == 3)
                                else none
                              else
                                some false
                            else
                              some false
                          else
                            some false
                        else
                          some false
                      else
                        some false
                    else
                      some false
                  else
                    some false
                else
                  some false
              else
                some false
            else
              some false
          else
            some false
        else
          some false
      else
        some false
    else
      some false
  else
    some false
theorem f_gamehallkeep2_ratFact_run (k : Nat) (x : denL []) : runFn E_gamehallkeep2_ratFact LL_gamehallkeep2_ratFact k 7 Tryd.f7 [] [.imm .bool] x = f_gamehallkeep2_ratFact k := by kernel_rfl
noncomputable def S_gamehallkeep2_ratFact : Vm.Spec := { ps := [], rs := [.imm .bool], f := fun x => f_gamehallkeep2_ratFact fuel }
theorem f_gamehallkeep2_ratFact_holds : Vm.Spec.holds Tryd.prog 7 S_gamehallkeep2_ratFact := by
  have hB : BodiesOk Tryd.prog E_gamehallkeep2_ratFact := bodies_none rfl
  have hBS : BodiesStepped E_gamehallkeep2_ratFact LL_gamehallkeep2_ratFact := bodies_stepped_none rfl
  have hS : SpecsOk Tryd.prog E_gamehallkeep2_ratFact := specs_ok (by exact ⟨⟨by kernel_rfl, f_rat_CheckAll_holds⟩, ⟨by kernel_rfl, f_rat_Add_holds⟩, ⟨by kernel_rfl, f_rat_Mul_holds⟩, ⟨by kernel_rfl, f_rat_Sub_holds⟩, ⟨by kernel_rfl, f_rat_Div_holds⟩, ⟨by kernel_rfl, f_gamehallkeep2_fine_holds⟩, ⟨by kernel_rfl, f_rat_Compare_holds⟩, ⟨by kernel_rfl, f_rat_Sign_holds⟩, ⟨by kernel_rfl, f_rat_Neg_holds⟩, ⟨by kernel_rfl, f_rat_Floor_holds⟩, ⟨by kernel_rfl, f_rat_Shares_holds⟩, ⟨by kernel_rfl, f_rat_Best_holds⟩, ⟨by kernel_rfl, f_rat_Odds_holds⟩, ⟨by kernel_rfl, f_slices_Equal_Rat_holds⟩, ⟨by kernel_rfl, f_rat_Of_holds⟩, ⟨by kernel_rfl, f_rat_Sum_holds⟩, ⟨by kernel_rfl, f_rat_Check_holds⟩, trivial⟩)
  have hE : EOk Tryd.prog E_gamehallkeep2_ratFact := eok_te ok
  exact fn_sound (L := LL_gamehallkeep2_ratFact) hE hS hB (draws_ok hE hS (by kernel_rfl)) hBS (fn := Tryd.f7) (by kernel_rfl) (c := bodyOf Tryd.f7) (by kernel_rfl) (stepped_none rfl) fun x r h => ⟨fuel, (f_gamehallkeep2_ratFact_run fuel x).trans h⟩

/-! gamehall/gamehallkeep2.RatField -/
noncomputable def E_gamehallkeep2_RatField : Env := { te := te, spec := [(7, S_gamehallkeep2_ratFact), (8, S_rat_CheckAll), (9, S_rat_Add), (10, S_rat_Mul), (11, S_rat_Sub), (12, S_rat_Div), (13, S_gamehallkeep2_fine)], body := [] }
def LL_gamehallkeep2_RatField : Loops := []
def f_gamehallkeep2_RatField (k : Nat) (a0 : ByteArray) (a1 : ByteArray) (a2 : ByteArray) : Option (Bool) :=
  (f_gamehallkeep2_ratFact fuel).bind fun r1 =>
  if (!r1) = true then
    some false
  else
    (f_rat_CheckAll fuel [a0, a1, a2]).bind fun r2 =>
    if (r2 != 0) = false then
      if decide (IntKind.i64.wrap ((IntKind.i64.wrap ((a0.size : Int) + (a1.size : Int))) + (a2.size : Int)) > 400) = true then
        some true
      else
        (f_rat_Add fuel a1 a2).bind fun r3 =>
        (f_rat_Mul fuel a0 r3.1).bind fun r4 =>
        (f_rat_Mul fuel a0 a1).bind fun r5 =>
        (f_rat_Mul fuel a0 a2).bind fun r6 =>
        (f_rat_Add fuel r5.1 r6.1).bind fun r7 =>
        (f_rat_Sub fuel r3.1 a2).bind fun r8 =>
        (f_rat_Div fuel r5.1 a1).bind fun r9 =>
        (f_gamehallkeep2_fine fuel [r3.2, r4.2, r5.2, r6.2, r7.2, r8.2]).bind fun r10 =>
        if (!r10) = false then
          if (!(r4.1.toList == r7.1.toList)) = false then
            if (!(r8.1.toList == a1.toList)) = true then
              some false
            else
              if ((a1.toList == (⟨#[48]⟩ : ByteArray).toList)) = true then
                if (r9.2 == 18) = false then
                  if (!(a1.toList == (⟨#[48]⟩ : ByteArray).toList)) = true then
                    if (r9.2 == 0) = true then
                      some ((r9.1.toList == a0.toList))
                    else
                      some false
                  else
                    some false
                else
                  some true
              else
                if (!(a1.toList == (⟨#[48]⟩ : ByteArray).toList)) = true then
                  if (r9.2 == 0) = true then
                    some ((r9.1.toList == a0.toList))
                  else
                    some false
                else
                  some false
          else
            some false
        else
          some false
    else
      some true
theorem f_gamehallkeep2_RatField_run (k : Nat) (x : denL [.str, .str, .str]) : runFn E_gamehallkeep2_RatField LL_gamehallkeep2_RatField k 3 Tryd.f3 [.str, .str, .str] [.imm .bool] x = f_gamehallkeep2_RatField k x.1 x.2.1 x.2.2 := by kernel_rfl
noncomputable def S_gamehallkeep2_RatField : Vm.Spec := { ps := [.str, .str, .str], rs := [.imm .bool], f := fun x => f_gamehallkeep2_RatField fuel x.1 x.2.1 x.2.2 }
theorem f_gamehallkeep2_RatField_holds : Vm.Spec.holds Tryd.prog 3 S_gamehallkeep2_RatField := by
  have hB : BodiesOk Tryd.prog E_gamehallkeep2_RatField := bodies_none rfl
  have hBS : BodiesStepped E_gamehallkeep2_RatField LL_gamehallkeep2_RatField := bodies_stepped_none rfl
  have hS : SpecsOk Tryd.prog E_gamehallkeep2_RatField := specs_ok (by exact ⟨⟨by kernel_rfl, f_gamehallkeep2_ratFact_holds⟩, ⟨by kernel_rfl, f_rat_CheckAll_holds⟩, ⟨by kernel_rfl, f_rat_Add_holds⟩, ⟨by kernel_rfl, f_rat_Mul_holds⟩, ⟨by kernel_rfl, f_rat_Sub_holds⟩, ⟨by kernel_rfl, f_rat_Div_holds⟩, ⟨by kernel_rfl, f_gamehallkeep2_fine_holds⟩, trivial⟩)
  have hE : EOk Tryd.prog E_gamehallkeep2_RatField := eok_te ok
  exact fn_sound (L := LL_gamehallkeep2_RatField) hE hS hB (draws_ok hE hS (by kernel_rfl)) hBS (fn := Tryd.f3) (by kernel_rfl) (c := bodyOf Tryd.f3) (by kernel_rfl) (stepped_none rfl) fun x r h => ⟨fuel, (f_gamehallkeep2_RatField_run fuel x).trans h⟩

/-! gamehall/gamehallkeep2.RatOrder -/
noncomputable def E_gamehallkeep2_RatOrder : Env := { te := te, spec := [(7, S_gamehallkeep2_ratFact), (8, S_rat_CheckAll), (9, S_rat_Add), (11, S_rat_Sub), (13, S_gamehallkeep2_fine), (14, S_rat_Compare), (15, S_rat_Sign), (16, S_rat_Neg)], body := [] }
def LL_gamehallkeep2_RatOrder : Loops := []
def f_gamehallkeep2_RatOrder (k : Nat) (a0 : ByteArray) (a1 : ByteArray) (a2 : ByteArray) : Option (Bool) :=
  (f_gamehallkeep2_ratFact fuel).bind fun r1 =>
  if (!r1) = true then
    some false
  else
    (f_rat_CheckAll fuel [a0, a1, a2]).bind fun r2 =>
    if (r2 != 0) = false then
      if decide (IntKind.i64.wrap ((IntKind.i64.wrap ((a0.size : Int) + (a1.size : Int))) + (a2.size : Int)) > 400) = true then
        some true
      else
        (f_rat_Compare fuel a0 a1).bind fun r3 =>
        (f_rat_Sub fuel a0 a1).bind fun r4 =>
        (f_rat_Sign fuel r4.1).bind fun r5 =>
        (f_rat_Add fuel a0 a2).bind fun r6 =>
        (f_rat_Add fuel a1 a2).bind fun r7 =>
        (f_rat_Compare fuel r6.1 r7.1).bind fun r8 =>
        (f_rat_Neg fuel r4.1).bind fun r9 =>
        (f_rat_Sign fuel r9.1).bind fun r10 =>
        (f_gamehallkeep2_fine fuel [r3.2, r4.2, r5.2, r6.2, r7.2, r8.2, r9.2, r10.2]).bind fun r11 =>
        if r11 = true then
          if (r3.1 == r5.1) = true then
            if (r3.1 == r8.1) = true then
              if (r10.1 == IntKind.i64.wrap (0 - r5.1)) = true then
                some ((r3.1 == 0) == ((a0.toList == a1.toList)))
              else
                some false
            else
              some false
          else
            some false
        else
          some false
    else
      some true
theorem f_gamehallkeep2_RatOrder_run (k : Nat) (x : denL [.str, .str, .str]) : runFn E_gamehallkeep2_RatOrder LL_gamehallkeep2_RatOrder k 4 Tryd.f4 [.str, .str, .str] [.imm .bool] x = f_gamehallkeep2_RatOrder k x.1 x.2.1 x.2.2 := by kernel_rfl
noncomputable def S_gamehallkeep2_RatOrder : Vm.Spec := { ps := [.str, .str, .str], rs := [.imm .bool], f := fun x => f_gamehallkeep2_RatOrder fuel x.1 x.2.1 x.2.2 }
theorem f_gamehallkeep2_RatOrder_holds : Vm.Spec.holds Tryd.prog 4 S_gamehallkeep2_RatOrder := by
  have hB : BodiesOk Tryd.prog E_gamehallkeep2_RatOrder := bodies_none rfl
  have hBS : BodiesStepped E_gamehallkeep2_RatOrder LL_gamehallkeep2_RatOrder := bodies_stepped_none rfl
  have hS : SpecsOk Tryd.prog E_gamehallkeep2_RatOrder := specs_ok (by exact ⟨⟨by kernel_rfl, f_gamehallkeep2_ratFact_holds⟩, ⟨by kernel_rfl, f_rat_CheckAll_holds⟩, ⟨by kernel_rfl, f_rat_Add_holds⟩, ⟨by kernel_rfl, f_rat_Sub_holds⟩, ⟨by kernel_rfl, f_gamehallkeep2_fine_holds⟩, ⟨by kernel_rfl, f_rat_Compare_holds⟩, ⟨by kernel_rfl, f_rat_Sign_holds⟩, ⟨by kernel_rfl, f_rat_Neg_holds⟩, trivial⟩)
  have hE : EOk Tryd.prog E_gamehallkeep2_RatOrder := eok_te ok
  exact fn_sound (L := LL_gamehallkeep2_RatOrder) hE hS hB (draws_ok hE hS (by kernel_rfl)) hBS (fn := Tryd.f4) (by kernel_rfl) (c := bodyOf Tryd.f4) (by kernel_rfl) (stepped_none rfl) fun x r h => ⟨fuel, (f_gamehallkeep2_RatOrder_run fuel x).trans h⟩

/-! gamehall/gamehallkeep2.RatFloors -/
noncomputable def E_gamehallkeep2_RatFloors : Env := { te := te, spec := [(7, S_gamehallkeep2_ratFact), (11, S_rat_Sub), (13, S_gamehallkeep2_fine), (14, S_rat_Compare), (15, S_rat_Sign), (17, S_rat_Floor)], body := [] }
def LL_gamehallkeep2_RatFloors : Loops := []
def f_gamehallkeep2_RatFloors (k : Nat) (a0 : ByteArray) : Option (Bool) :=
  (f_gamehallkeep2_ratFact fuel).bind fun r1 =>
  if (!r1) = true then
    some false
  else
    (f_rat_Floor fuel a0).bind fun r2 =>
    if (r2.2 != 0) = false then
      if decide ((a0.size : Int) > 1900) = true then
        if (r2.2 == 0) = false then
          some ((r2.1.toList == (⟨#[]⟩ : ByteArray).toList))
        else
          some true
      else
        (f_rat_Sub fuel a0 r2.1).bind fun r3 =>
        (f_rat_Sign fuel r3.1).bind fun r4 =>
        (f_rat_Compare fuel r3.1 (⟨#[49]⟩ : ByteArray)).bind fun r5 =>
        (f_rat_Floor fuel r2.1).bind fun r6 =>
        (f_gamehallkeep2_fine fuel [r3.2, r4.2, r5.2, r6.2]).bind fun r7 =>
        if r7 = true then
          if decide (r4.1 ≥ 0) = true then
            if decide (r5.1 < 0) = true then
              some ((r6.1.toList == r2.1.toList))
            else
              some false
          else
            some false
        else
          some false
    else
      if (r2.2 == 0) = false then
        some ((r2.1.toList == (⟨#[]⟩ : ByteArray).toList))
      else
        some true
theorem f_gamehallkeep2_RatFloors_run (k : Nat) (x : denL [.str]) : runFn E_gamehallkeep2_RatFloors LL_gamehallkeep2_RatFloors k 5 Tryd.f5 [.str] [.imm .bool] x = f_gamehallkeep2_RatFloors k x := by kernel_rfl
noncomputable def S_gamehallkeep2_RatFloors : Vm.Spec := { ps := [.str], rs := [.imm .bool], f := fun x => f_gamehallkeep2_RatFloors fuel x }
theorem f_gamehallkeep2_RatFloors_holds : Vm.Spec.holds Tryd.prog 5 S_gamehallkeep2_RatFloors := by
  have hB : BodiesOk Tryd.prog E_gamehallkeep2_RatFloors := bodies_none rfl
  have hBS : BodiesStepped E_gamehallkeep2_RatFloors LL_gamehallkeep2_RatFloors := bodies_stepped_none rfl
  have hS : SpecsOk Tryd.prog E_gamehallkeep2_RatFloors := specs_ok (by exact ⟨⟨by kernel_rfl, f_gamehallkeep2_ratFact_holds⟩, ⟨by kernel_rfl, f_rat_Sub_holds⟩, ⟨by kernel_rfl, f_gamehallkeep2_fine_holds⟩, ⟨by kernel_rfl, f_rat_Compare_holds⟩, ⟨by kernel_rfl, f_rat_Sign_holds⟩, ⟨by kernel_rfl, f_rat_Floor_holds⟩, trivial⟩)
  have hE : EOk Tryd.prog E_gamehallkeep2_RatFloors := eok_te ok
  exact fn_sound (L := LL_gamehallkeep2_RatFloors) hE hS hB (draws_ok hE hS (by kernel_rfl)) hBS (fn := Tryd.f5) (by kernel_rfl) (c := bodyOf Tryd.f5) (by kernel_rfl) (stepped_none rfl) fun x r h => ⟨fuel, (f_gamehallkeep2_RatFloors_run fuel x).trans h⟩

/-! gamehall/gamehallkeep2.RatShared -/
noncomputable def E_gamehallkeep2_RatShared : Env := { te := te, spec := [(7, S_gamehallkeep2_ratFact), (13, S_gamehallkeep2_fine), (18, S_rat_Shares), (21, S_rat_Best), (22, S_rat_Odds), (23, S_slices_Equal_Rat)], body := [(19, Tryd.f19), (20, Tryd.f20), (41, Tryd.f41)] }
def l_slices_IndexFunc_Rat__slices_ContainsFunc_Rat__gamehallkeep2_RatShared_2H : Ann := { slots := [(0, .one (.val (.slice .str))), (1, .one (.fix (.func 20))), (7, .one (.val (.int .i64))), (8, .one (.val (.int .i64)))], objs := [] }
def l_slices_IndexFunc_Rat__slices_ContainsFunc_Rat__gamehallkeep2_RatShared_2X : Ann := { slots := [], objs := [] }
def l_slices_IndexFunc_Rat__slices_ContainsFunc_Rat__gamehallkeep2_RatShared_2R : Ann := { slots := [(4, .one (.val (.int .i64)))], objs := [] }
def l_slices_IndexFunc_Rat__slices_ContainsFunc_Rat__gamehallkeep2_RatShared_2 : Nat → List ByteArray → Int → Int → Option (LR l_slices_IndexFunc_Rat__slices_ContainsFunc_Rat__gamehallkeep2_RatShared_2X l_slices_IndexFunc_Rat__slices_ContainsFunc_Rat__gamehallkeep2_RatShared_2R)
  | 0, _, _, _ => none
  | m + 1, s0, s7, s8 =>
    if decide (s8 < s7) = true then
      if (0 : Int) ≤ s8 then
        if s8 < s0.length then
          if decide (((s0.getD s8.toNat ByteArray.empty).size : Int) > 40) = true then
            some (.ret (s8, ()))
          else
            l_slices_IndexFunc_Rat__slices_ContainsFunc_Rat__gamehallkeep2_RatShared_2 m s0 s7 (IntKind.i64.wrap (s8 + 1))
        else none
      else none
    else
      some (.exit ())
def l_slices_IndexFunc_Rat__slices_ContainsFunc_Rat__gamehallkeep2_RatShared_2L : LSpec := { h := l_slices_IndexFunc_Rat__slices_ContainsFunc_Rat__gamehallkeep2_RatShared_2H, x := l_slices_IndexFunc_Rat__slices_ContainsFunc_Rat__gamehallkeep2_RatShared_2X, r := l_slices_IndexFunc_Rat__slices_ContainsFunc_Rat__gamehallkeep2_RatShared_2R, xid := 0, rt := true, pins := [], f := fun k d => l_slices_IndexFunc_Rat__slices_ContainsFunc_Rat__gamehallkeep2_RatShared_2 k d.1 d.2.1 d.2.2.1 }
def LL_gamehallkeep2_RatShared : Loops := [([41, 19, 6], [(2, l_slices_IndexFunc_Rat__slices_ContainsFunc_Rat__gamehallkeep2_RatShared_2L)])]
def f_gamehallkeep2_RatShared (k : Nat) (a0 : List ByteArray) : Option (Bool) :=
  (f_gamehallkeep2_ratFact fuel).bind fun r1 =>
  if (!r1) = true then
    some false
  else
    (f_rat_Shares fuel a0).bind fun r2 =>
    if (r2.2 != 0) = false then
      if decide ((a0.length : Int) > 12) = false then
        match l_slices_IndexFunc_Rat__slices_ContainsFunc_Rat__gamehallkeep2_RatShared_2 k a0 (a0.length : Int) 0 with
        | none => none
        | some (.exit d3) =>
          (f_rat_Shares fuel r2.1).bind fun r4 =>
          (f_rat_Best fuel a0).bind fun r5 =>
          (f_rat_Best fuel r2.1).bind fun r6 =>
          (f_gamehallkeep2_fine fuel [r4.2, r5.2, r6.2]).bind fun r7 =>
          if r7 = true then
            (f_rat_Odds fuel r2.1).bind fun r8 =>
            if (r8 == 0) = true then
              (f_slices_Equal_Rat fuel r2.1 r4.1).bind fun r9 =>
              if r9 = true then
                some (r5.1 == r6.1)
              else
                some false
            else
              some false
          else
            some false
        | some (.ret d3) =>
          if decide (d3.1 ≥ 0) = true then
            if (r2.2 == 0) = false then
              some ((r2.1.length : Int) == 0)
            else
              some true
          else
            (f_rat_Shares fuel r2.1).bind fun r10 =>
            (f_rat_Best fuel a0).bind fun r11 =>
            (f_rat_Best fuel r2.1).bind fun r12 =>
            (f_gamehallkeep2_fine fuel [r10.2, r11.2, r12.2]).bind fun r13 =>
            if r13 = true then
              (f_rat_Odds fuel r2.1).bind fun r14 =>
              if (r14 == 0) = true then
                (f_slices_Equal_Rat fuel r2.1 r10.1).bind fun r15 =>
                if r15 = true then
                  some (r11.1 == r12.1)
                else
                  some false
              else
                some false
            else
              some false
      else
        if (r2.2 == 0) = false then
          some ((r2.1.length : Int) == 0)
        else
          some true
    else
      if (r2.2 == 0) = false then
        some ((r2.1.length : Int) == 0)
      else
        some true
theorem l_slices_IndexFunc_Rat__slices_ContainsFunc_Rat__gamehallkeep2_RatShared_2_step (m : Nat) (d : dens l_slices_IndexFunc_Rat__slices_ContainsFunc_Rat__gamehallkeep2_RatShared_2H.tys) : l_slices_IndexFunc_Rat__slices_ContainsFunc_Rat__gamehallkeep2_RatShared_2L.f (m + 1) d = round E_gamehallkeep2_RatShared LL_gamehallkeep2_RatShared m [41, 19, 6] 19 (loopN (bodyOf Tryd.f41) 0) l_slices_IndexFunc_Rat__slices_ContainsFunc_Rat__gamehallkeep2_RatShared_2L (l_slices_IndexFunc_Rat__slices_ContainsFunc_Rat__gamehallkeep2_RatShared_2L.f m) d := by kernel_rfl
theorem f_gamehallkeep2_RatShared_run (k : Nat) (x : denL [.slice .str]) : runFn E_gamehallkeep2_RatShared LL_gamehallkeep2_RatShared k 6 Tryd.f6 [.slice .str] [.imm .bool] x = f_gamehallkeep2_RatShared k x := by kernel_rfl
noncomputable def S_gamehallkeep2_RatShared : Vm.Spec := { ps := [.slice .str], rs := [.imm .bool], f := fun x => f_gamehallkeep2_RatShared fuel x }
theorem f_gamehallkeep2_RatShared_holds : Vm.Spec.holds Tryd.prog 6 S_gamehallkeep2_RatShared := by
  have hB : BodiesOk Tryd.prog E_gamehallkeep2_RatShared := bodies_ok (by exact ⟨by kernel_rfl, by kernel_rfl, by kernel_rfl, by kernel_rfl, by kernel_rfl, by kernel_rfl, trivial⟩)
  have hBS : BodiesStepped E_gamehallkeep2_RatShared LL_gamehallkeep2_RatShared := by
    refine bodies_stepped ?_
    exact ⟨(fun _ => stepped_noloop (by kernel_rfl)), (fun _ => stepped_noloop (by kernel_rfl)), (stepped_paths [[19, 6]] (by exact ⟨stepped_of (ls := [(2, l_slices_IndexFunc_Rat__slices_ContainsFunc_Rat__gamehallkeep2_RatShared_2L)]) rfl rfl ⟨by kernel_rfl, fun _ => rfl, l_slices_IndexFunc_Rat__slices_ContainsFunc_Rat__gamehallkeep2_RatShared_2_step, stepsI_end (by kernel_rfl)⟩,  trivial⟩) rfl),  trivial⟩
  have hS : SpecsOk Tryd.prog E_gamehallkeep2_RatShared := specs_ok (by exact ⟨⟨by kernel_rfl, f_gamehallkeep2_ratFact_holds⟩, ⟨by kernel_rfl, f_gamehallkeep2_fine_holds⟩, ⟨by kernel_rfl, f_rat_Shares_holds⟩, ⟨by kernel_rfl, f_rat_Best_holds⟩, ⟨by kernel_rfl, f_rat_Odds_holds⟩, ⟨by kernel_rfl, f_slices_Equal_Rat_holds⟩, trivial⟩)
  have hE : EOk Tryd.prog E_gamehallkeep2_RatShared := eok_te ok
  exact fn_sound (L := LL_gamehallkeep2_RatShared) hE hS hB (draws_ok hE hS (by kernel_rfl)) hBS (fn := Tryd.f6) (by kernel_rfl) (c := bodyOf Tryd.f6) (by kernel_rfl) (stepped_none rfl) fun x r h => ⟨fuel, (f_gamehallkeep2_RatShared_run fuel x).trans h⟩

end Go.Proofs.YtjdilnkihnnfeaaDoor
