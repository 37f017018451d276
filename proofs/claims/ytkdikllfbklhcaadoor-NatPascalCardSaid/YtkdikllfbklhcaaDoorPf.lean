/- Pure functions, printed by a program of this session out of the program. -/
import Derived.Test.YtkdikllfbklhcaaDoorVmD
import Derived.Test.YtkdikllfbklhcaaDoorProg
set_option linter.unusedVariables false
namespace Go.Proofs.YtkdikllfbklhcaaDoor
open Go Vm Go.Proofs
def te : TE := [(2, ⟨.int .i64, .sc, 8⟩),
  (3, ⟨.int .i64, .sc, 8⟩),
  (4, ⟨.bool, .sc, 1⟩),
  (5, ⟨.int .u8, .sc, 1⟩),
  (9, ⟨.str, .sc, 16⟩),
  (23, ⟨.int .i64, .sc, 8⟩),
  (38, ⟨.slice (.int .u8), .slice 5, 24⟩),
  (40, ⟨.slice (.int .u32), .slice 56, 24⟩),
  (46, ⟨.slice (.int .i64), .slice 23, 24⟩),
  (52, ⟨.int .u64, .sc, 8⟩),
  (56, ⟨.int .u32, .sc, 4⟩),
  (57, ⟨.int .u64, .sc, 8⟩),
  (63, ⟨.arr 9 (.int .u8), .ar 9 5, 9⟩)]
theorem ok : EOk Tryd.prog ⟨te, [], []⟩ := eok_of (by kernel_rfl)
/-! strings.trimLeftByte -/
noncomputable def E_strings_trimLeftByte : Env := { te := te, spec := [], body := [] }
def l_strings_trimLeftByte_1H : Ann := { slots := [(0, .one (.val .str)), (1, .one (.val (.int .u8)))], objs := [] }
def l_strings_trimLeftByte_1X : Ann := { slots := [(0, .one (.val .str))], objs := [] }
def l_strings_trimLeftByte_1R : Ann := { slots := [], objs := [] }
def l_strings_trimLeftByte_1 : Nat → ByteArray → Int → Option (LR l_strings_trimLeftByte_1X l_strings_trimLeftByte_1R)
  | 0, _, _ => none
  | m + 1, s0, s1 =>
    if decide ((s0.size : Int) > 0) = true then
      if (0 : Int) < (s0.size : Int) then
        if (((s0.data.getD 0 0).toNat : Int) == s1) = true then
          if (1 : Int) ≤ s0.size then
            l_strings_trimLeftByte_1 m (s0.extract 1 s0.size) s1
          else none
        else
          some (.exit (s0, ()))
      else none
    else
      some (.exit (s0, ()))
def l_strings_trimLeftByte_1L : LSpec := { h := l_strings_trimLeftByte_1H, x := l_strings_trimLeftByte_1X, r := l_strings_trimLeftByte_1R, xid := 0, rt := false, pins := [], f := fun k d => l_strings_trimLeftByte_1 k d.1 d.2.1 }
def LL_strings_trimLeftByte : Loops := [([39], [(1, l_strings_trimLeftByte_1L)])]
def f_strings_trimLeftByte (k : Nat) (a0 : ByteArray) (a1 : Int) : Option (ByteArray) :=
  match l_strings_trimLeftByte_1 k a0 a1 with
  | none => none
  | some (.exit d1) =>
    some d1.1
  | some (.ret d1) =>
    none
theorem l_strings_trimLeftByte_1_step (m : Nat) (d : dens l_strings_trimLeftByte_1H.tys) : l_strings_trimLeftByte_1L.f (m + 1) d = round E_strings_trimLeftByte LL_strings_trimLeftByte m [39] 17 (loopN (bodyOf Tryd.f39) 0) l_strings_trimLeftByte_1L (l_strings_trimLeftByte_1L.f m) d := by kernel_rfl
theorem f_strings_trimLeftByte_run (k : Nat) (x : denL [.str, .int .u8]) : runFn E_strings_trimLeftByte LL_strings_trimLeftByte k 39 Tryd.f39 [.str, .int .u8] [.imm .str] x = f_strings_trimLeftByte k x.1 x.2 := by kernel_rfl
noncomputable def S_strings_trimLeftByte : Vm.Spec := { ps := [.str, .int .u8], rs := [.imm .str], f := fun x => f_strings_trimLeftByte fuel x.1 x.2 }
theorem f_strings_trimLeftByte_holds : Vm.Spec.holds Tryd.prog 39 S_strings_trimLeftByte := by
  have hB : BodiesOk Tryd.prog E_strings_trimLeftByte := bodies_none rfl
  have hBS : BodiesStepped E_strings_trimLeftByte LL_strings_trimLeftByte := bodies_stepped_none rfl
  have hS : SpecsOk Tryd.prog E_strings_trimLeftByte := specs_ok (by exact trivial)
  have hE : EOk Tryd.prog E_strings_trimLeftByte := eok_te ok
  exact fn_sound (L := LL_strings_trimLeftByte) hE hS hB (draws_ok hE hS (by kernel_rfl)) hBS (fn := Tryd.f39) (by kernel_rfl) (c := bodyOf Tryd.f39) (by kernel_rfl) (stepped_of (ls := [(1, l_strings_trimLeftByte_1L)]) rfl rfl ⟨by kernel_rfl, fun _ => rfl, l_strings_trimLeftByte_1_step, stepsI_end (by kernel_rfl)⟩) fun x r h => ⟨fuel, (f_strings_trimLeftByte_run fuel x).trans h⟩

/-! strings.TrimLeft -/
noncomputable def E_strings_TrimLeft : Env := { te := te, spec := [(39, S_strings_trimLeftByte)], body := [] }
def LL_strings_TrimLeft : Loops := []
def f_strings_TrimLeft (k : Nat) (a0 : ByteArray) (a1 : ByteArray) : Option (ByteArray) :=
  if ((a0.toList == (⟨#[]⟩ : ByteArray).toList)) = false then
    if ((a1.toList == (⟨#[]⟩ : ByteArray).toList)) = true then
      some a0
    else
      if ((a1.size : Int) == 1) = true then
        if (0 : Int) < (a1.size : Int) then
          if decide (((a1.data.getD 0 0).toNat : Int) < 128) = true then
            if (0 : Int) < (a1.size : Int) then
              (f_strings_trimLeftByte fuel a0 ((a1.data.getD 0 0).toNat : Int)).bind fun r1 =>
              some r1
            else none
          else none
        else none
      else none
  else
    some a0
theorem f_strings_TrimLeft_run (k : Nat) (x : denL [.str, .str]) : runFn E_strings_TrimLeft LL_strings_TrimLeft k 38 Tryd.f38 [.str, .str] [.imm .str] x = f_strings_TrimLeft k x.1 x.2 := by kernel_rfl
noncomputable def S_strings_TrimLeft : Vm.Spec := { ps := [.str, .str], rs := [.imm .str], f := fun x => f_strings_TrimLeft fuel x.1 x.2 }
theorem f_strings_TrimLeft_holds : Vm.Spec.holds Tryd.prog 38 S_strings_TrimLeft := by
  have hB : BodiesOk Tryd.prog E_strings_TrimLeft := bodies_none rfl
  have hBS : BodiesStepped E_strings_TrimLeft LL_strings_TrimLeft := bodies_stepped_none rfl
  have hS : SpecsOk Tryd.prog E_strings_TrimLeft := specs_ok (by exact ⟨⟨by kernel_rfl, f_strings_trimLeftByte_holds⟩, trivial⟩)
  have hE : EOk Tryd.prog E_strings_TrimLeft := eok_te ok
  exact fn_sound (L := LL_strings_TrimLeft) hE hS hB (draws_ok hE hS (by kernel_rfl)) hBS (fn := Tryd.f38) (by kernel_rfl) (c := bodyOf Tryd.f38) (by kernel_rfl) (stepped_none rfl) fun x r h => ⟨fuel, (f_strings_TrimLeft_run fuel x).trans h⟩

/-! gamehall/gamehallkeep2.fine -/
noncomputable def E_gamehallkeep2_fine : Env := { te := te, spec := [], body := [(25, Tryd.f25), (26, Tryd.f26), (34, Tryd.f34)] }
def l_slices_IndexFunc__slices_ContainsFunc__gamehallkeep2_fine_2H : Ann := { slots := [(0, .one (.val (.slice (.int .i64)))), (1, .one (.fix (.func 26))), (7, .one (.val (.int .i64))), (8, .one (.val (.int .i64)))], objs := [] }
def l_slices_IndexFunc__slices_ContainsFunc__gamehallkeep2_fine_2X : Ann := { slots := [], objs := [] }
def l_slices_IndexFunc__slices_ContainsFunc__gamehallkeep2_fine_2R : Ann := { slots := [(4, .one (.val (.int .i64)))], objs := [] }
def l_slices_IndexFunc__slices_ContainsFunc__gamehallkeep2_fine_2 : Nat → List Int → Int → Int → Option (LR l_slices_IndexFunc__slices_ContainsFunc__gamehallkeep2_fine_2X l_slices_IndexFunc__slices_ContainsFunc__gamehallkeep2_fine_2R)
  | 0, _, _, _ => none
  | m + 1, s0, s7, s8 =>
    if decide (s8 < s7) = true then
      if (0 : Int) ≤ s8 then
        if s8 < s0.length then
          if (s0.getD s8.toNat 0 != 0) = true then
            some (.ret (s8, ()))
          else
            l_slices_IndexFunc__slices_ContainsFunc__gamehallkeep2_fine_2 m s0 s7 (IntKind.i64.wrap (s8 + 1))
        else none
      else none
    else
      some (.exit ())
def l_slices_IndexFunc__slices_ContainsFunc__gamehallkeep2_fine_2L : LSpec := { h := l_slices_IndexFunc__slices_ContainsFunc__gamehallkeep2_fine_2H, x := l_slices_IndexFunc__slices_ContainsFunc__gamehallkeep2_fine_2X, r := l_slices_IndexFunc__slices_ContainsFunc__gamehallkeep2_fine_2R, xid := 0, rt := true, pins := [], f := fun k d => l_slices_IndexFunc__slices_ContainsFunc__gamehallkeep2_fine_2 k d.1 d.2.1 d.2.2.1 }
def LL_gamehallkeep2_fine : Loops := [([34, 25, 12], [(2, l_slices_IndexFunc__slices_ContainsFunc__gamehallkeep2_fine_2L)])]
def f_gamehallkeep2_fine (k : Nat) (a0 : List Int) : Option (Bool) :=
  match l_slices_IndexFunc__slices_ContainsFunc__gamehallkeep2_fine_2 k a0 (a0.length : Int) 0 with
  | none => none
  | some (.exit d1) =>
    some true
  | some (.ret d1) =>
    some (!(decide (d1.1 ≥ 0)))
theorem l_slices_IndexFunc__slices_ContainsFunc__gamehallkeep2_fine_2_step (m : Nat) (d : dens l_slices_IndexFunc__slices_ContainsFunc__gamehallkeep2_fine_2H.tys) : l_slices_IndexFunc__slices_ContainsFunc__gamehallkeep2_fine_2L.f (m + 1) d = round E_gamehallkeep2_fine LL_gamehallkeep2_fine m [34, 25, 12] 19 (loopN (bodyOf Tryd.f34) 0) l_slices_IndexFunc__slices_ContainsFunc__gamehallkeep2_fine_2L (l_slices_IndexFunc__slices_ContainsFunc__gamehallkeep2_fine_2L.f m) d := by kernel_rfl
theorem f_gamehallkeep2_fine_run (k : Nat) (x : denL [.slice (.int .i64)]) : runFn E_gamehallkeep2_fine LL_gamehallkeep2_fine k 12 Tryd.f12 [.slice (.int .i64)] [.imm .bool] x = f_gamehallkeep2_fine k x := by kernel_rfl
noncomputable def S_gamehallkeep2_fine : Vm.Spec := { ps := [.slice (.int .i64)], rs := [.imm .bool], f := fun x => f_gamehallkeep2_fine fuel x }
theorem f_gamehallkeep2_fine_holds : Vm.Spec.holds Tryd.prog 12 S_gamehallkeep2_fine := by
  have hB : BodiesOk Tryd.prog E_gamehallkeep2_fine := bodies_ok (by exact ⟨by kernel_rfl, by kernel_rfl, by kernel_rfl, by kernel_rfl, by kernel_rfl, by kernel_rfl, trivial⟩)
  have hBS : BodiesStepped E_gamehallkeep2_fine LL_gamehallkeep2_fine := by
    refine bodies_stepped ?_
    exact ⟨(fun _ => stepped_noloop (by kernel_rfl)), (fun _ => stepped_noloop (by kernel_rfl)), (stepped_paths [[25, 12]] (by exact ⟨stepped_of (ls := [(2, l_slices_IndexFunc__slices_ContainsFunc__gamehallkeep2_fine_2L)]) rfl rfl ⟨by kernel_rfl, fun _ => rfl, l_slices_IndexFunc__slices_ContainsFunc__gamehallkeep2_fine_2_step, stepsI_end (by kernel_rfl)⟩,  trivial⟩) rfl),  trivial⟩
  have hS : SpecsOk Tryd.prog E_gamehallkeep2_fine := specs_ok (by exact trivial)
  have hE : EOk Tryd.prog E_gamehallkeep2_fine := eok_te ok
  exact fn_sound (L := LL_gamehallkeep2_fine) hE hS hB (draws_ok hE hS (by kernel_rfl)) hBS (fn := Tryd.f12) (by kernel_rfl) (c := bodyOf Tryd.f12) (by kernel_rfl) (stepped_none rfl) fun x r h => ⟨fuel, (f_gamehallkeep2_fine_run fuel x).trans h⟩

/-! gamehall/nat.Check -/
noncomputable def E_nat_Check : Env := { te := te, spec := [], body := [] }
def l_nat_Check_4H : Ann := { slots := [(18, .one (.val (.slice (.int .u8)))), (19, .one (.val (.int .i64))), (20, .one (.val (.int .i64)))], objs := [] }
def l_nat_Check_4X : Ann := { slots := [], objs := [] }
def l_nat_Check_4R : Ann := { slots := [(2, .one (.val (.int .i64)))], objs := [] }
def l_nat_Check_4 : Nat → List Int → Int → Int → Option (LR l_nat_Check_4X l_nat_Check_4R)
  | 0, _, _, _ => none
  | m + 1, s18, s19, s20 =>
    if decide (s20 < s19) = true then
      if (0 : Int) ≤ s20 then
        if s20 < s18.length then
          if decide (s18.getD s20.toNat 0 < 48) = false then
            if decide (s18.getD s20.toNat 0 > 57) = true then
              some (.ret (5, ()))
            else
              l_nat_Check_4 m s18 s19 (IntKind.i64.wrap (s20 + 1))
          else
            some (.ret (5, ()))
        else none
      else none
    else
      some (.exit ())
def l_nat_Check_4L : LSpec := { h := l_nat_Check_4H, x := l_nat_Check_4X, r := l_nat_Check_4R, xid := 0, rt := true, pins := [], f := fun k d => l_nat_Check_4 k d.1 d.2.1 d.2.2.1 }
def LL_nat_Check : Loops := [([8], [(4, l_nat_Check_4L)])]
def f_nat_Check (k : Nat) (a0 : ByteArray) : Option (Int) :=
  if ((a0.toList == (⟨#[]⟩ : ByteArray).toList)) = false then
    if (0 : Int) < (a0.size : Int) then
      if (((a0.data.getD 0 0).toNat : Int) == 48) = true then
        if decide ((a0.size : Int) > 1) = true then
          some 5
        else
          match l_nat_Check_4 k (a0.data.toList.map fun c => (c.toNat : Int)) ((a0.data.toList.map fun c => (c.toNat : Int)).length : Int) 0 with
          | none => none
          | some (.exit d1) =>
            if decide ((a0.size : Int) > 2000) = true then
              some 2
            else
              some 0
          | some (.ret d1) =>
            some d1.1
      else
        match l_nat_Check_4 k (a0.data.toList.map fun c => (c.toNat : Int)) ((a0.data.toList.map fun c => (c.toNat : Int)).length : Int) 0 with
        | none => none
        | some (.exit d2) =>
          if decide ((a0.size : Int) > 2000) = true then
            some 2
          else
            some 0
        | some (.ret d2) =>
          some d2.1
    else none
  else
    some 5
theorem l_nat_Check_4_step (m : Nat) (d : dens l_nat_Check_4H.tys) : l_nat_Check_4L.f (m + 1) d = round E_nat_Check LL_nat_Check m [8] 34 (loopN (bodyOf Tryd.f8) 0) l_nat_Check_4L (l_nat_Check_4L.f m) d := by kernel_rfl
theorem f_nat_Check_run (k : Nat) (x : denL [.str]) : runFn E_nat_Check LL_nat_Check k 8 Tryd.f8 [.str] [.imm (.int .i64)] x = f_nat_Check k x := by kernel_rfl
noncomputable def S_nat_Check : Vm.Spec := { ps := [.str], rs := [.imm (.int .i64)], f := fun x => f_nat_Check fuel x }
theorem f_nat_Check_holds : Vm.Spec.holds Tryd.prog 8 S_nat_Check := by
  have hB : BodiesOk Tryd.prog E_nat_Check := bodies_none rfl
  have hBS : BodiesStepped E_nat_Check LL_nat_Check := bodies_stepped_none rfl
  have hS : SpecsOk Tryd.prog E_nat_Check := specs_ok (by exact trivial)
  have hE : EOk Tryd.prog E_nat_Check := eok_te ok
  exact fn_sound (L := LL_nat_Check) hE hS hB (draws_ok hE hS (by kernel_rfl)) hBS (fn := Tryd.f8) (by kernel_rfl) (c := bodyOf Tryd.f8) (by kernel_rfl) (stepped_of (ls := [(4, l_nat_Check_4L)]) rfl rfl ⟨by kernel_rfl, fun _ => rfl, l_nat_Check_4_step, stepsI_end (by kernel_rfl)⟩) fun x r h => ⟨fuel, (f_nat_Check_run fuel x).trans h⟩

/-! gamehall/nat.Read -/
noncomputable def E_nat_Read : Env := { te := te, spec := [], body := [(33, Tryd.f33)] }
def l_nat_Read_7H : Ann := { slots := [(5, .one (.val (.int .u32))), (20, .one (.val (.slice (.int .u8)))), (21, .one (.val (.int .i64))), (22, .one (.val (.int .i64)))], objs := [] }
def l_nat_Read_7X : Ann := { slots := [(5, .one (.val (.int .u32)))], objs := [] }
def l_nat_Read_7R : Ann := { slots := [], objs := [] }
def l_nat_Read_3H : Ann := { slots := [(0, .one (.val .str)), (3, .one (.own 144 (.int .u32))), (4, .one (.val (.int .i64)))], objs := [(144, .buf (.int .u32))] }
def l_nat_Read_3X : Ann := { slots := [(3, .one (.own 144 (.int .u32)))], objs := [(144, .buf (.int .u32))] }
def l_nat_Read_3R : Ann := { slots := [], objs := [] }
def l_nat_N_trim__nat_Read_1H : Ann := { slots := [(0, .one (.pre 144 (.int .u32)))], objs := [(144, .buf (.int .u32))] }
def l_nat_N_trim__nat_Read_1X : Ann := { slots := [(0, .one (.pre 144 (.int .u32)))], objs := [(144, .buf (.int .u32))] }
def l_nat_N_trim__nat_Read_1R : Ann := { slots := [], objs := [] }
def l_nat_Read_7 : Nat → Int → List Int → Int → Int → Option (LR l_nat_Read_7X l_nat_Read_7R)
  | 0, _, _, _, _ => none
  | m + 1, s5, s20, s21, s22 =>
    if decide (s22 < s21) = true then
      if (0 : Int) ≤ s22 then
        if s22 < s20.length then
          l_nat_Read_7 m (IntKind.u32.wrap ((IntKind.u32.wrap (s5 * 10)) + (IntKind.u32.wrap (IntKind.u8.wrap ((s20.getD s22.toNat 0) - 48))))) s20 s21 (IntKind.i64.wrap (s22 + 1))
        else none
      else none
    else
      some (.exit (s5, ()))
def l_nat_Read_7L : LSpec := { h := l_nat_Read_7H, x := l_nat_Read_7X, r := l_nat_Read_7R, xid := 2, rt := false, pins := [], f := fun k d => l_nat_Read_7 k d.1 d.2.1 d.2.2.1 d.2.2.2.1 }
def l_nat_Read_3 : Nat → ByteArray → Int → List Int → Option (LR l_nat_Read_3X l_nat_Read_3R)
  | 0, _, _, _ => none
  | m + 1, s0, s4, b144 =>
    if decide (s4 > 0) = true then
      if (0 : Int) ≤ s4 then
        if s4 ≤ s0.size then
          if (0 : Int) ≤ (if IntKind.i64.wrap (s4 - 9) > 0 then IntKind.i64.wrap (s4 - 9) else 0) then
            if (if IntKind.i64.wrap (s4 - 9) > 0 then IntKind.i64.wrap (s4 - 9) else 0) ≤ s4 then
              match l_nat_Read_7 m 0 ((s0.extract (if IntKind.i64.wrap (s4 - 9) > 0 then IntKind.i64.wrap (s4 - 9) else 0).toNat s4.toNat).data.toList.map fun c => (c.toNat : Int)) (((s0.extract (if IntKind.i64.wrap (s4 - 9) > 0 then IntKind.i64.wrap (s4 - 9) else 0).toNat s4.toNat).data.toList.map fun c => (c.toNat : Int)).length : Int) 0 with
              | none => none
              | some (.exit d1) =>
                if (b144.length + 1) * 4 ≤ 140737488355328 then
                  l_nat_Read_3 m s0 (IntKind.i64.wrap (s4 - 9)) (b144 ++ [d1.1])
                else none
              | some (.ret d1) =>
                none
            else none
          else none
        else none
      else none
    else
      some (.exit (b144, ()))
def l_nat_Read_3L : LSpec := { h := l_nat_Read_3H, x := l_nat_Read_3X, r := l_nat_Read_3R, xid := 0, rt := false, pins := [], f := fun k d => l_nat_Read_3 k d.1 d.2.1 d.2.2.1 }
def l_nat_N_trim__nat_Read_1 : Nat → Nat → List Int → Option (LR l_nat_N_trim__nat_Read_1X l_nat_N_trim__nat_Read_1R)
  | 0, _, _ => none
  | m + 1, s0, b144 =>
    if decide ((s0 : Int) > 0) = true then
      if (0 : Int) ≤ IntKind.i64.wrap ((s0 : Int) - 1) then
        if IntKind.i64.wrap ((s0 : Int) - 1) < s0 then
          if (b144.getD ((IntKind.i64.wrap ((s0 : Int) - 1)).toNat) 0 == 0) = true then
            if (0 : Int) ≤ IntKind.i64.wrap ((s0 : Int) - 1) then
              if IntKind.i64.wrap ((s0 : Int) - 1) ≤ s0 then
                l_nat_N_trim__nat_Read_1 m ((IntKind.i64.wrap ((s0 : Int) - 1)).toNat) b144
              else none
            else none
          else
            some (.exit (s0, b144, ()))
        else none
      else none
    else
      some (.exit (s0, b144, ()))
def l_nat_N_trim__nat_Read_1L : LSpec := { h := l_nat_N_trim__nat_Read_1H, x := l_nat_N_trim__nat_Read_1X, r := l_nat_N_trim__nat_Read_1R, xid := 0, rt := false, pins := [144], f := fun k d => l_nat_N_trim__nat_Read_1 k d.1 d.2.1 }
def LL_nat_Read : Loops := [([32], [(3, l_nat_Read_3L), (7, l_nat_Read_7L)]), ([33, 32], [(1, l_nat_N_trim__nat_Read_1L)])]
def f_nat_Read (k : Nat) (a0 : ByteArray) : Option (List Int) :=
  match l_nat_Read_3 k a0 (a0.size : Int) [] with
  | none => none
  | some (.exit d1) =>
    match l_nat_N_trim__nat_Read_1 k d1.1.length d1.1 with
    | none => none
    | some (.exit d2) =>
      some (d2.2.1.take d2.1)
    | some (.ret d2) =>
      none
  | some (.ret d1) =>
    none
theorem l_nat_Read_7_step (m : Nat) (d : dens l_nat_Read_7H.tys) : l_nat_Read_7L.f (m + 1) d = round E_nat_Read LL_nat_Read m [32] 39 (loopN (bodyOf Tryd.f32) 1) l_nat_Read_7L (l_nat_Read_7L.f m) d := by kernel_rfl
theorem l_nat_Read_3_step (m : Nat) (d : dens l_nat_Read_3H.tys) : l_nat_Read_3L.f (m + 1) d = round E_nat_Read LL_nat_Read m [32] 39 (loopN (bodyOf Tryd.f32) 0) l_nat_Read_3L (l_nat_Read_3L.f m) d := by kernel_rfl
theorem l_nat_N_trim__nat_Read_1_step (m : Nat) (d : dens l_nat_N_trim__nat_Read_1H.tys) : l_nat_N_trim__nat_Read_1L.f (m + 1) d = round E_nat_Read LL_nat_Read m [33, 32] 21 (loopN (bodyOf Tryd.f33) 0) l_nat_N_trim__nat_Read_1L (l_nat_N_trim__nat_Read_1L.f m) d := by kernel_rfl
theorem f_nat_Read_run (k : Nat) (x : denL [.str]) : runFn E_nat_Read LL_nat_Read k 32 Tryd.f32 [.str] [.fresh (.int .u32)] x = f_nat_Read k x := by kernel_rfl
noncomputable def S_nat_Read : Vm.Spec := { ps := [.str], rs := [.fresh (.int .u32)], f := fun x => f_nat_Read fuel x }
theorem f_nat_Read_holds : Vm.Spec.holds Tryd.prog 32 S_nat_Read := by
  have hB : BodiesOk Tryd.prog E_nat_Read := bodies_ok (by exact ⟨by kernel_rfl, by kernel_rfl, trivial⟩)
  have hBS : BodiesStepped E_nat_Read LL_nat_Read := by
    refine bodies_stepped ?_
    exact ⟨(stepped_paths [[32]] (by exact ⟨stepped_of (ls := [(1, l_nat_N_trim__nat_Read_1L)]) rfl rfl ⟨by kernel_rfl, fun _ => rfl, l_nat_N_trim__nat_Read_1_step, stepsI_end (by kernel_rfl)⟩,  trivial⟩) rfl),  trivial⟩
  have hS : SpecsOk Tryd.prog E_nat_Read := specs_ok (by exact trivial)
  have hE : EOk Tryd.prog E_nat_Read := eok_te ok
  exact fn_sound (L := LL_nat_Read) hE hS hB (draws_ok hE hS (by kernel_rfl)) hBS (fn := Tryd.f32) (by kernel_rfl) (c := bodyOf Tryd.f32) (by kernel_rfl) (stepped_of (ls := [(3, l_nat_Read_3L), (7, l_nat_Read_7L)]) rfl rfl ⟨by kernel_rfl, fun _ => rfl, l_nat_Read_3_step, by kernel_rfl, fun _ => rfl, l_nat_Read_7_step, stepsI_end (by kernel_rfl)⟩) fun x r h => ⟨fuel, (f_nat_Read_run fuel x).trans h⟩

/-! gamehall/nat.Of -/
noncomputable def E_nat_Of : Env := { te := te, spec := [], body := [] }
def l_nat_Of_2H : Ann := { slots := [(0, .one (.val (.int .i64))), (3, .one (.own 44 (.int .u32)))], objs := [(44, .buf (.int .u32))] }
def l_nat_Of_2X : Ann := { slots := [(3, .one (.own 44 (.int .u32)))], objs := [(44, .buf (.int .u32))] }
def l_nat_Of_2R : Ann := { slots := [], objs := [] }
def l_nat_Of_2 : Nat → Int → List Int → Option (LR l_nat_Of_2X l_nat_Of_2R)
  | 0, _, _ => none
  | m + 1, s0, b44 =>
    if decide (s0 > 0) = true then
      if (b44.length + 1) * 4 ≤ 140737488355328 then
        l_nat_Of_2 m (IntKind.i64.wrap (s0.tdiv 1000000000)) (b44 ++ [IntKind.u32.wrap (s0.tmod 1000000000)])
      else none
    else
      some (.exit (b44, ()))
def l_nat_Of_2L : LSpec := { h := l_nat_Of_2H, x := l_nat_Of_2X, r := l_nat_Of_2R, xid := 0, rt := false, pins := [], f := fun k d => l_nat_Of_2 k d.1 d.2.1 }
def LL_nat_Of : Loops := [([30], [(2, l_nat_Of_2L)])]
def f_nat_Of (k : Nat) (a0 : Int) : Option (List Int) :=
  match l_nat_Of_2 k a0 [] with
  | none => none
  | some (.exit d1) =>
    some d1.1
  | some (.ret d1) =>
    none
theorem l_nat_Of_2_step (m : Nat) (d : dens l_nat_Of_2H.tys) : l_nat_Of_2L.f (m + 1) d = round E_nat_Of LL_nat_Of m [30] 15 (loopN (bodyOf Tryd.f30) 0) l_nat_Of_2L (l_nat_Of_2L.f m) d := by kernel_rfl
theorem f_nat_Of_run (k : Nat) (x : denL [.int .i64]) : runFn E_nat_Of LL_nat_Of k 30 Tryd.f30 [.int .i64] [.fresh (.int .u32)] x = f_nat_Of k x := by kernel_rfl
noncomputable def S_nat_Of : Vm.Spec := { ps := [.int .i64], rs := [.fresh (.int .u32)], f := fun x => f_nat_Of fuel x }
theorem f_nat_Of_holds : Vm.Spec.holds Tryd.prog 30 S_nat_Of := by
  have hB : BodiesOk Tryd.prog E_nat_Of := bodies_none rfl
  have hBS : BodiesStepped E_nat_Of LL_nat_Of := bodies_stepped_none rfl
  have hS : SpecsOk Tryd.prog E_nat_Of := specs_ok (by exact trivial)
  have hE : EOk Tryd.prog E_nat_Of := eok_te ok
  exact fn_sound (L := LL_nat_Of) hE hS hB (draws_ok hE hS (by kernel_rfl)) hBS (fn := Tryd.f30) (by kernel_rfl) (c := bodyOf Tryd.f30) (by kernel_rfl) (stepped_of (ls := [(2, l_nat_Of_2L)]) rfl rfl ⟨by kernel_rfl, fun _ => rfl, l_nat_Of_2_step, stepsI_end (by kernel_rfl)⟩) fun x r h => ⟨fuel, (f_nat_Of_run fuel x).trans h⟩

/-! (gamehall/nat.N).Text -/
noncomputable def E_nat_N_Text : Env := { te := te, spec := [(38, S_strings_TrimLeft)], body := [] }
def l_nat_N_Text_10H : Ann := { slots := [(5, .one (.val (.int .u32))), (6, .one (.fix (.pbox 24 0))), (7, .one (.val (.int .i64)))], objs := [(24, .box [.val (.arr 9 (.int .u8))])] }
def l_nat_N_Text_10X : Ann := { slots := [(6, .one (.fix (.pbox 24 0)))], objs := [(24, .box [.val (.arr 9 (.int .u8))])] }
def l_nat_N_Text_10R : Ann := { slots := [], objs := [] }
def l_nat_N_Text_5H : Ann := { slots := [(0, .one (.val (.slice (.int .u32)))), (3, .one (.own 56 (.int .u8))), (4, .one (.val (.int .i64)))], objs := [(56, .buf (.int .u8))] }
def l_nat_N_Text_5X : Ann := { slots := [(3, .one (.own 56 (.int .u8)))], objs := [(56, .buf (.int .u8))] }
def l_nat_N_Text_5R : Ann := { slots := [], objs := [] }
def l_nat_N_Text_10 : Nat → Int → Int → List Int → Option (LR l_nat_N_Text_10X l_nat_N_Text_10R)
  | 0, _, _, _ => none
  | m + 1, s5, s7, b24_0 =>
    if decide (s7 ≥ 0) = true then
      if (0 : Int) ≤ s7 then
        if s7 < 9 then
          l_nat_N_Text_10 m (IntKind.u32.wrap (s5.tdiv 10)) (IntKind.i64.wrap (s7 - 1)) (b24_0.set s7.toNat (IntKind.u8.wrap (IntKind.u32.wrap (48 + (s5.tmod 10)))))
        else none
      else none
    else
      some (.exit (b24_0, ()))
def l_nat_N_Text_10L : LSpec := { h := l_nat_N_Text_10H, x := l_nat_N_Text_10X, r := l_nat_N_Text_10R, xid := 2, rt := false, pins := [24], f := fun k d => l_nat_N_Text_10 k d.1 d.2.1 d.2.2.1 }
def l_nat_N_Text_5 : Nat → List Int → Int → List Int → Option (LR l_nat_N_Text_5X l_nat_N_Text_5R)
  | 0, _, _, _ => none
  | m + 1, s0, s4, b56 =>
    if decide (s4 ≥ 0) = true then
      if (0 : Int) ≤ s4 then
        if s4 < s0.length then
          match l_nat_N_Text_10 m (s0.getD s4.toNat 0) 8 (List.replicate 9 0) with
          | none => none
          | some (.exit d1) =>
            if (b56.length + ((d1.1.take 9).drop 0).length) * 1 ≤ 140737488355328 then
              l_nat_N_Text_5 m s0 (IntKind.i64.wrap (s4 - 1)) (b56 ++ ((d1.1.take 9).drop 0))
            else none
          | some (.ret d1) =>
            none
        else none
      else none
    else
      some (.exit (b56, ()))
def l_nat_N_Text_5L : LSpec := { h := l_nat_N_Text_5H, x := l_nat_N_Text_5X, r := l_nat_N_Text_5R, xid := 0, rt := false, pins := [], f := fun k d => l_nat_N_Text_5 k d.1 d.2.1 d.2.2.1 }
def LL_nat_N_Text : Loops := [([28], [(5, l_nat_N_Text_5L), (10, l_nat_N_Text_10L)])]
def f_nat_N_Text (k : Nat) (a0 : List Int) : Option (ByteArray) :=
  if ((a0.length : Int) == 0) = true then
    some (⟨#[48]⟩ : ByteArray)
  else
    if (0 : Int) ≤ IntKind.i64.wrap (9 * (a0.length : Int)) then
      if (IntKind.i64.wrap (9 * (a0.length : Int))) * 1 ≤ 281474976710656 then
        match l_nat_N_Text_5 k a0 (IntKind.i64.wrap ((a0.length : Int) - 1)) (List.replicate 0 0) with
        | none => none
        | some (.exit d1) =>
          (f_strings_TrimLeft fuel (⟨(d1.1.map fun n => UInt8.ofNat n.toNat).toArray⟩ : ByteArray) (⟨#[48]⟩ : ByteArray)).bind fun r2 =>
          some r2
        | some (.ret d1) =>
          none
      else none
    else none
theorem l_nat_N_Text_10_step (m : Nat) (d : dens l_nat_N_Text_10H.tys) : l_nat_N_Text_10L.f (m + 1) d = round E_nat_N_Text LL_nat_N_Text m [28] 44 (loopN (bodyOf Tryd.f28) 1) l_nat_N_Text_10L (l_nat_N_Text_10L.f m) d := by kernel_rfl
theorem l_nat_N_Text_5_step (m : Nat) (d : dens l_nat_N_Text_5H.tys) : l_nat_N_Text_5L.f (m + 1) d = round E_nat_N_Text LL_nat_N_Text m [28] 44 (loopN (bodyOf Tryd.f28) 0) l_nat_N_Text_5L (l_nat_N_Text_5L.f m) d := by kernel_rfl
theorem f_nat_N_Text_run (k : Nat) (x : denL [.slice (.int .u32)]) : runFn E_nat_N_Text LL_nat_N_Text k 28 Tryd.f28 [.slice (.int .u32)] [.imm .str] x = f_nat_N_Text k x := by kernel_rfl
noncomputable def S_nat_N_Text : Vm.Spec := { ps := [.slice (.int .u32)], rs := [.imm .str], f := fun x => f_nat_N_Text fuel x }
theorem f_nat_N_Text_holds : Vm.Spec.holds Tryd.prog 28 S_nat_N_Text := by
  have hB : BodiesOk Tryd.prog E_nat_N_Text := bodies_none rfl
  have hBS : BodiesStepped E_nat_N_Text LL_nat_N_Text := bodies_stepped_none rfl
  have hS : SpecsOk Tryd.prog E_nat_N_Text := specs_ok (by exact ⟨⟨by kernel_rfl, f_strings_TrimLeft_holds⟩, trivial⟩)
  have hE : EOk Tryd.prog E_nat_N_Text := eok_te ok
  exact fn_sound (L := LL_nat_N_Text) hE hS hB (draws_ok hE hS (by kernel_rfl)) hBS (fn := Tryd.f28) (by kernel_rfl) (c := bodyOf Tryd.f28) (by kernel_rfl) (stepped_of (ls := [(5, l_nat_N_Text_5L), (10, l_nat_N_Text_10L)]) rfl rfl ⟨by kernel_rfl, fun _ => rfl, l_nat_N_Text_5_step, by kernel_rfl, fun _ => rfl, l_nat_N_Text_10_step, stepsI_end (by kernel_rfl)⟩) fun x r h => ⟨fuel, (f_nat_N_Text_run fuel x).trans h⟩

/-! (gamehall/nat.N).Digits -/
noncomputable def E_nat_N_Digits : Env := { te := te, spec := [(28, S_nat_N_Text)], body := [] }
def LL_nat_N_Digits : Loops := []
def f_nat_N_Digits (k : Nat) (a0 : List Int) : Option (Int) :=
  (f_nat_N_Text fuel a0).bind fun r1 =>
  some (r1.size : Int)
theorem f_nat_N_Digits_run (k : Nat) (x : denL [.slice (.int .u32)]) : runFn E_nat_N_Digits LL_nat_N_Digits k 31 Tryd.f31 [.slice (.int .u32)] [.imm (.int .i64)] x = f_nat_N_Digits k x := by kernel_rfl
noncomputable def S_nat_N_Digits : Vm.Spec := { ps := [.slice (.int .u32)], rs := [.imm (.int .i64)], f := fun x => f_nat_N_Digits fuel x }
theorem f_nat_N_Digits_holds : Vm.Spec.holds Tryd.prog 31 S_nat_N_Digits := by
  have hB : BodiesOk Tryd.prog E_nat_N_Digits := bodies_none rfl
  have hBS : BodiesStepped E_nat_N_Digits LL_nat_N_Digits := bodies_stepped_none rfl
  have hS : SpecsOk Tryd.prog E_nat_N_Digits := specs_ok (by exact ⟨⟨by kernel_rfl, f_nat_N_Text_holds⟩, trivial⟩)
  have hE : EOk Tryd.prog E_nat_N_Digits := eok_te ok
  exact fn_sound (L := LL_nat_N_Digits) hE hS hB (draws_ok hE hS (by kernel_rfl)) hBS (fn := Tryd.f31) (by kernel_rfl) (c := bodyOf Tryd.f31) (by kernel_rfl) (stepped_none rfl) fun x r h => ⟨fuel, (f_nat_N_Digits_run fuel x).trans h⟩

/-! (gamehall/nat.N).Cmp -/
noncomputable def E_nat_N_Cmp : Env := { te := te, spec := [], body := [] }
def l_nat_N_Cmp_6H : Ann := { slots := [(0, .one (.val (.slice (.int .u32)))), (1, .one (.val (.slice (.int .u32)))), (5, .one (.val (.int .i64)))], objs := [] }
def l_nat_N_Cmp_6X : Ann := { slots := [], objs := [] }
def l_nat_N_Cmp_6R : Ann := { slots := [(4, .one (.val (.int .i64)))], objs := [] }
def l_nat_N_Cmp_6 : Nat → List Int → List Int → Int → Option (LR l_nat_N_Cmp_6X l_nat_N_Cmp_6R)
  | 0, _, _, _ => none
  | m + 1, s0, s1, s5 =>
    if decide (s5 ≥ 0) = true then
      if (0 : Int) ≤ s5 then
        if s5 < s0.length then
          if (0 : Int) ≤ s5 then
            if s5 < s1.length then
              if decide (s0.getD s5.toNat 0 < s1.getD s5.toNat 0) = true then
                some (.ret ((-1), ()))
              else
                if (0 : Int) ≤ s5 then
                  if s5 < s0.length then
                    if (0 : Int) ≤ s5 then
                      if s5 < s1.length then
                        if decide (s0.getD s5.toNat 0 > s1.getD s5.toNat 0) = true then
                          some (.ret (1, ()))
                        else
                          l_nat_N_Cmp_6 m s0 s1 (IntKind.i64.wrap (s5 - 1))
                      else none
                    else none
                  else none
                else none
            else none
          else none
        else none
      else none
    else
      some (.exit ())
def l_nat_N_Cmp_6L : LSpec := { h := l_nat_N_Cmp_6H, x := l_nat_N_Cmp_6X, r := l_nat_N_Cmp_6R, xid := 0, rt := true, pins := [], f := fun k d => l_nat_N_Cmp_6 k d.1 d.2.1 d.2.2.1 }
def LL_nat_N_Cmp : Loops := [([23], [(6, l_nat_N_Cmp_6L)])]
def f_nat_N_Cmp (k : Nat) (a0 : List Int) (a1 : List Int) : Option (Int) :=
  if ((a0.length : Int) != (a1.length : Int)) = true then
    if decide ((a0.length : Int) < (a1.length : Int)) = true then
      some (-1)
    else
      some 1
  else
    match l_nat_N_Cmp_6 k a0 a1 (IntKind.i64.wrap ((a0.length : Int) - 1)) with
    | none => none
    | some (.exit d1) =>
      some 0
    | some (.ret d1) =>
      some d1.1
theorem l_nat_N_Cmp_6_step (m : Nat) (d : dens l_nat_N_Cmp_6H.tys) : l_nat_N_Cmp_6L.f (m + 1) d = round E_nat_N_Cmp LL_nat_N_Cmp m [23] 43 (loopN (bodyOf Tryd.f23) 0) l_nat_N_Cmp_6L (l_nat_N_Cmp_6L.f m) d := by kernel_rfl
theorem f_nat_N_Cmp_run (k : Nat) (x : denL [.slice (.int .u32), .slice (.int .u32)]) : runFn E_nat_N_Cmp LL_nat_N_Cmp k 23 Tryd.f23 [.slice (.int .u32), .slice (.int .u32)] [.imm (.int .i64)] x = f_nat_N_Cmp k x.1 x.2 := by kernel_rfl
noncomputable def S_nat_N_Cmp : Vm.Spec := { ps := [.slice (.int .u32), .slice (.int .u32)], rs := [.imm (.int .i64)], f := fun x => f_nat_N_Cmp fuel x.1 x.2 }
theorem f_nat_N_Cmp_holds : Vm.Spec.holds Tryd.prog 23 S_nat_N_Cmp := by
  have hB : BodiesOk Tryd.prog E_nat_N_Cmp := bodies_none rfl
  have hBS : BodiesStepped E_nat_N_Cmp LL_nat_N_Cmp := bodies_stepped_none rfl
  have hS : SpecsOk Tryd.prog E_nat_N_Cmp := specs_ok (by exact trivial)
  have hE : EOk Tryd.prog E_nat_N_Cmp := eok_te ok
  exact fn_sound (L := LL_nat_N_Cmp) hE hS hB (draws_ok hE hS (by kernel_rfl)) hBS (fn := Tryd.f23) (by kernel_rfl) (c := bodyOf Tryd.f23) (by kernel_rfl) (stepped_of (ls := [(6, l_nat_N_Cmp_6L)]) rfl rfl ⟨by kernel_rfl, fun _ => rfl, l_nat_N_Cmp_6_step, stepsI_end (by kernel_rfl)⟩) fun x r h => ⟨fuel, (f_nat_N_Cmp_run fuel x).trans h⟩

/-! (gamehall/nat.N).Add -/
noncomputable def E_nat_N_Add : Env := { te := te, spec := [], body := [] }
def l_nat_N_Add_6H : Ann := { slots := [(1, .one (.val (.slice (.int .u32)))), (5, .one (.own 76 (.int .u32))), (6, .one (.val (.int .u32))), (20, .one (.val (.slice (.int .u32)))), (21, .one (.val (.int .i64))), (22, .one (.val (.int .i64)))], objs := [(76, .buf (.int .u32))] }
def l_nat_N_Add_6X : Ann := { slots := [(5, .one (.own 76 (.int .u32))), (6, .one (.val (.int .u32)))], objs := [(76, .buf (.int .u32))] }
def l_nat_N_Add_6R : Ann := { slots := [], objs := [] }
def l_nat_N_Add_6 : Nat → List Int → Int → List Int → Int → Int → List Int → Option (LR l_nat_N_Add_6X l_nat_N_Add_6R)
  | 0, _, _, _, _, _, _ => none
  | m + 1, s1, s6, s20, s21, s22, b76 =>
    if decide (s22 < s21) = true then
      if (0 : Int) ≤ s22 then
        if s22 < s20.length then
          if decide (s22 < (s1.length : Int)) = true then
            if (0 : Int) ≤ s22 then
              if s22 < s1.length then
                if (b76.length + 1) * 4 ≤ 140737488355328 then
                  l_nat_N_Add_6 m s1 (IntKind.u32.wrap ((IntKind.u32.wrap ((IntKind.u32.wrap ((s20.getD s22.toNat 0) + s6)) + (s1.getD s22.toNat 0))).tdiv 1000000000)) s20 s21 (IntKind.i64.wrap (s22 + 1)) (b76 ++ [(IntKind.u32.wrap ((IntKind.u32.wrap ((s20.getD s22.toNat 0) + s6)) + (s1.getD s22.toNat 0))).tmod 1000000000])
                else none
              else none
            else none
          else
            if (b76.length + 1) * 4 ≤ 140737488355328 then
              l_nat_N_Add_6 m s1 (IntKind.u32.wrap ((IntKind.u32.wrap ((s20.getD s22.toNat 0) + s6)).tdiv 1000000000)) s20 s21 (IntKind.i64.wrap (s22 + 1)) (b76 ++ [(IntKind.u32.wrap ((s20.getD s22.toNat 0) + s6)).tmod 1000000000])
            else none
        else none
      else none
    else
      some (.exit (s6, b76, ()))
def l_nat_N_Add_6L : LSpec := { h := l_nat_N_Add_6H, x := l_nat_N_Add_6X, r := l_nat_N_Add_6R, xid := 0, rt := false, pins := [], f := fun k d => l_nat_N_Add_6 k d.1 d.2.1 d.2.2.1 d.2.2.2.1 d.2.2.2.2.1 d.2.2.2.2.2.1 }
def LL_nat_N_Add : Loops := [([21], [(6, l_nat_N_Add_6L)])]
def f_nat_N_Add (k : Nat) (a0 : List Int) (a1 : List Int) : Option (List Int) :=
  if decide ((a0.length : Int) < (a1.length : Int)) = true then
    if (0 : Int) ≤ IntKind.i64.wrap ((a1.length : Int) + 1) then
      if (IntKind.i64.wrap ((a1.length : Int) + 1)) * 4 ≤ 281474976710656 then
        match l_nat_N_Add_6 k a0 0 a1 (a1.length : Int) 0 (List.replicate 0 0) with
        | none => none
        | some (.exit d1) =>
          if decide (d1.1 > 0) = true then
            if (d1.2.1.length + 1) * 4 ≤ 140737488355328 then
              some (d1.2.1 ++ [d1.1])
            else none
          else
            some d1.2.1
        | some (.ret d1) =>
          none
      else none
    else none
  else
    if (0 : Int) ≤ IntKind.i64.wrap ((a0.length : Int) + 1) then
      if (IntKind.i64.wrap ((a0.length : Int) + 1)) * 4 ≤ 281474976710656 then
        match l_nat_N_Add_6 k a1 0 a0 (a0.length : Int) 0 (List.replicate 0 0) with
        | none => none
        | some (.exit d2) =>
          if decide (d2.1 > 0) = true then
            if (d2.2.1.length + 1) * 4 ≤ 140737488355328 then
              some (d2.2.1 ++ [d2.1])
            else none
          else
            some d2.2.1
        | some (.ret d2) =>
          none
      else none
    else none
theorem l_nat_N_Add_6_step (m : Nat) (d : dens l_nat_N_Add_6H.tys) : l_nat_N_Add_6L.f (m + 1) d = round E_nat_N_Add LL_nat_N_Add m [21] 55 (loopN (bodyOf Tryd.f21) 0) l_nat_N_Add_6L (l_nat_N_Add_6L.f m) d := by kernel_rfl
theorem f_nat_N_Add_run (k : Nat) (x : denL [.slice (.int .u32), .slice (.int .u32)]) : runFn E_nat_N_Add LL_nat_N_Add k 21 Tryd.f21 [.slice (.int .u32), .slice (.int .u32)] [.fresh (.int .u32)] x = f_nat_N_Add k x.1 x.2 := by kernel_rfl
noncomputable def S_nat_N_Add : Vm.Spec := { ps := [.slice (.int .u32), .slice (.int .u32)], rs := [.fresh (.int .u32)], f := fun x => f_nat_N_Add fuel x.1 x.2 }
theorem f_nat_N_Add_holds : Vm.Spec.holds Tryd.prog 21 S_nat_N_Add := by
  have hB : BodiesOk Tryd.prog E_nat_N_Add := bodies_none rfl
  have hBS : BodiesStepped E_nat_N_Add LL_nat_N_Add := bodies_stepped_none rfl
  have hS : SpecsOk Tryd.prog E_nat_N_Add := specs_ok (by exact trivial)
  have hE : EOk Tryd.prog E_nat_N_Add := eok_te ok
  exact fn_sound (L := LL_nat_N_Add) hE hS hB (draws_ok hE hS (by kernel_rfl)) hBS (fn := Tryd.f21) (by kernel_rfl) (c := bodyOf Tryd.f21) (by kernel_rfl) (stepped_of (ls := [(6, l_nat_N_Add_6L)]) rfl rfl ⟨by kernel_rfl, fun _ => rfl, l_nat_N_Add_6_step, stepsI_end (by kernel_rfl)⟩) fun x r h => ⟨fuel, (f_nat_N_Add_run fuel x).trans h⟩

/-! (gamehall/nat.N).Sub -/
noncomputable def E_nat_N_Sub : Env := { te := te, spec := [], body := [(33, Tryd.f33)] }
def l_nat_N_Sub_4H : Ann := { slots := [(0, .one (.val (.slice (.int .u32)))), (1, .one (.val (.slice (.int .u32)))), (5, .one (.own 44 (.int .u32))), (6, .one (.val (.int .i64))), (13, .one (.val (.int .i64))), (14, .one (.val (.int .i64)))], objs := [(44, .buf (.int .u32))] }
def l_nat_N_Sub_4X : Ann := { slots := [(5, .one (.own 44 (.int .u32)))], objs := [(44, .buf (.int .u32))] }
def l_nat_N_Sub_4R : Ann := { slots := [], objs := [] }
def l_nat_N_trim__nat_N_Sub_1H : Ann := { slots := [(0, .one (.pre 44 (.int .u32)))], objs := [(44, .buf (.int .u32))] }
def l_nat_N_trim__nat_N_Sub_1X : Ann := { slots := [(0, .one (.pre 44 (.int .u32)))], objs := [(44, .buf (.int .u32))] }
def l_nat_N_trim__nat_N_Sub_1R : Ann := { slots := [], objs := [] }
def l_nat_N_Sub_4 : Nat → List Int → List Int → Int → Int → Int → List Int → Option (LR l_nat_N_Sub_4X l_nat_N_Sub_4R)
  | 0, _, _, _, _, _, _ => none
  | m + 1, s0, s1, s6, s13, s14, b44 =>
    if decide (s14 < s13) = true then
      if (0 : Int) ≤ s14 then
        if s14 < s0.length then
          if decide (s14 < (s1.length : Int)) = true then
            if (0 : Int) ≤ s14 then
              if s14 < s1.length then
                if decide (IntKind.i64.wrap ((IntKind.i64.wrap ((IntKind.i64.wrap (s0.getD s14.toNat 0)) - s6)) - (IntKind.i64.wrap (s1.getD s14.toNat 0))) < 0) = true then
                  if (0 : Int) ≤ s14 then
                    if s14 < b44.length then
                      l_nat_N_Sub_4 m s0 s1 1 s13 (IntKind.i64.wrap (s14 + 1)) (b44.set s14.toNat (IntKind.u32.wrap (IntKind.i64.wrap ((IntKind.i64.wrap ((IntKind.i64.wrap ((IntKind.i64.wrap (s0.getD s14.toNat 0)) - s6)) - (IntKind.i64.wrap (s1.getD s14.toNat 0)))) + 1000000000))))
                    else none
                  else none
                else
                  if (0 : Int) ≤ s14 then
                    if s14 < b44.length then
                      l_nat_N_Sub_4 m s0 s1 0 s13 (IntKind.i64.wrap (s14 + 1)) (b44.set s14.toNat (IntKind.u32.wrap (IntKind.i64.wrap ((IntKind.i64.wrap ((IntKind.i64.wrap (s0.getD s14.toNat 0)) - s6)) - (IntKind.i64.wrap (s1.getD s14.toNat 0))))))
                    else none
                  else none
              else none
            else none
          else
            if decide (IntKind.i64.wrap ((IntKind.i64.wrap (s0.getD s14.toNat 0)) - s6) < 0) = true then
              if (0 : Int) ≤ s14 then
                if s14 < b44.length then
                  l_nat_N_Sub_4 m s0 s1 1 s13 (IntKind.i64.wrap (s14 + 1)) (b44.set s14.toNat (IntKind.u32.wrap (IntKind.i64.wrap ((IntKind.i64.wrap ((IntKind.i64.wrap (s0.getD s14.toNat 0)) - s6)) + 1000000000))))
                else none
              else none
            else
              if (0 : Int) ≤ s14 then
                if s14 < b44.length then
                  l_nat_N_Sub_4 m s0 s1 0 s13 (IntKind.i64.wrap (s14 + 1)) (b44.set s14.toNat (IntKind.u32.wrap (IntKind.i64.wrap ((IntKind.i64.wrap (s0.getD s14.toNat 0)) - s6))))
                else none
              else none
        else none
      else none
    else
      some (.exit (b44, ()))
def l_nat_N_Sub_4L : LSpec := { h := l_nat_N_Sub_4H, x := l_nat_N_Sub_4X, r := l_nat_N_Sub_4R, xid := 0, rt := false, pins := [44], f := fun k d => l_nat_N_Sub_4 k d.1 d.2.1 d.2.2.1 d.2.2.2.1 d.2.2.2.2.1 d.2.2.2.2.2.1 }
def l_nat_N_trim__nat_N_Sub_1 : Nat → Nat → List Int → Option (LR l_nat_N_trim__nat_N_Sub_1X l_nat_N_trim__nat_N_Sub_1R)
  | 0, _, _ => none
  | m + 1, s0, b44 =>
    if decide ((s0 : Int) > 0) = true then
      if (0 : Int) ≤ IntKind.i64.wrap ((s0 : Int) - 1) then
        if IntKind.i64.wrap ((s0 : Int) - 1) < s0 then
          if (b44.getD ((IntKind.i64.wrap ((s0 : Int) - 1)).toNat) 0 == 0) = true then
            if (0 : Int) ≤ IntKind.i64.wrap ((s0 : Int) - 1) then
              if IntKind.i64.wrap ((s0 : Int) - 1) ≤ s0 then
                l_nat_N_trim__nat_N_Sub_1 m ((IntKind.i64.wrap ((s0 : Int) - 1)).toNat) b44
              else none
            else none
          else
            some (.exit (s0, b44, ()))
        else none
      else none
    else
      some (.exit (s0, b44, ()))
def l_nat_N_trim__nat_N_Sub_1L : LSpec := { h := l_nat_N_trim__nat_N_Sub_1H, x := l_nat_N_trim__nat_N_Sub_1X, r := l_nat_N_trim__nat_N_Sub_1R, xid := 0, rt := false, pins := [44], f := fun k d => l_nat_N_trim__nat_N_Sub_1 k d.1 d.2.1 }
def LL_nat_N_Sub : Loops := [([24], [(4, l_nat_N_Sub_4L)]), ([33, 24], [(1, l_nat_N_trim__nat_N_Sub_1L)])]
def f_nat_N_Sub (k : Nat) (a0 : List Int) (a1 : List Int) : Option (List Int) :=
  if (0 : Int) ≤ (a0.length : Int) then
    if (a0.length : Int) ≤ (a0.length : Int) then
      if (a0.length : Int) * 4 ≤ 281474976710656 then
        match l_nat_N_Sub_4 k a0 a1 0 (a0.length : Int) 0 (List.replicate ((a0.length : Int).toNat) 0) with
        | none => none
        | some (.exit d1) =>
          match l_nat_N_trim__nat_N_Sub_1 k d1.1.length d1.1 with
          | none => none
          | some (.exit d2) =>
            some (d2.2.1.take d2.1)
          | some (.ret d2) =>
            none
        | some (.ret d1) =>
          none
      else none
    else none
  else none
theorem l_nat_N_Sub_4_step (m : Nat) (d : dens l_nat_N_Sub_4H.tys) : l_nat_N_Sub_4L.f (m + 1) d = round E_nat_N_Sub LL_nat_N_Sub m [24] 47 (loopN (bodyOf Tryd.f24) 0) l_nat_N_Sub_4L (l_nat_N_Sub_4L.f m) d := by kernel_rfl
theorem l_nat_N_trim__nat_N_Sub_1_step (m : Nat) (d : dens l_nat_N_trim__nat_N_Sub_1H.tys) : l_nat_N_trim__nat_N_Sub_1L.f (m + 1) d = round E_nat_N_Sub LL_nat_N_Sub m [33, 24] 21 (loopN (bodyOf Tryd.f33) 0) l_nat_N_trim__nat_N_Sub_1L (l_nat_N_trim__nat_N_Sub_1L.f m) d := by kernel_rfl
theorem f_nat_N_Sub_run (k : Nat) (x : denL [.slice (.int .u32), .slice (.int .u32)]) : runFn E_nat_N_Sub LL_nat_N_Sub k 24 Tryd.f24 [.slice (.int .u32), .slice (.int .u32)] [.fresh (.int .u32)] x = f_nat_N_Sub k x.1 x.2 := by kernel_rfl
noncomputable def S_nat_N_Sub : Vm.Spec := { ps := [.slice (.int .u32), .slice (.int .u32)], rs := [.fresh (.int .u32)], f := fun x => f_nat_N_Sub fuel x.1 x.2 }
theorem f_nat_N_Sub_holds : Vm.Spec.holds Tryd.prog 24 S_nat_N_Sub := by
  have hB : BodiesOk Tryd.prog E_nat_N_Sub := bodies_ok (by exact ⟨by kernel_rfl, by kernel_rfl, trivial⟩)
  have hBS : BodiesStepped E_nat_N_Sub LL_nat_N_Sub := by
    refine bodies_stepped ?_
    exact ⟨(stepped_paths [[24]] (by exact ⟨stepped_of (ls := [(1, l_nat_N_trim__nat_N_Sub_1L)]) rfl rfl ⟨by kernel_rfl, fun _ => rfl, l_nat_N_trim__nat_N_Sub_1_step, stepsI_end (by kernel_rfl)⟩,  trivial⟩) rfl),  trivial⟩
  have hS : SpecsOk Tryd.prog E_nat_N_Sub := specs_ok (by exact trivial)
  have hE : EOk Tryd.prog E_nat_N_Sub := eok_te ok
  exact fn_sound (L := LL_nat_N_Sub) hE hS hB (draws_ok hE hS (by kernel_rfl)) hBS (fn := Tryd.f24) (by kernel_rfl) (c := bodyOf Tryd.f24) (by kernel_rfl) (stepped_of (ls := [(4, l_nat_N_Sub_4L)]) rfl rfl ⟨by kernel_rfl, fun _ => rfl, l_nat_N_Sub_4_step, stepsI_end (by kernel_rfl)⟩) fun x r h => ⟨fuel, (f_nat_N_Sub_run fuel x).trans h⟩

/-! (gamehall/nat.N).Mul -/
noncomputable def E_nat_N_Mul : Env := { te := te, spec := [], body := [(33, Tryd.f33)] }
def l_nat_N_Mul_7H : Ann := { slots := [(5, .one (.own 68 (.int .u32))), (6, .one (.val (.int .i64))), (7, .one (.val (.int .u32))), (8, .one (.val (.int .u64))), (25, .one (.val (.slice (.int .u32)))), (26, .one (.val (.int .i64))), (27, .one (.val (.int .i64)))], objs := [(68, .buf (.int .u32))] }
def l_nat_N_Mul_7X : Ann := { slots := [(5, .one (.own 68 (.int .u32))), (8, .one (.val (.int .u64)))], objs := [(68, .buf (.int .u32))] }
def l_nat_N_Mul_7R : Ann := { slots := [], objs := [] }
def l_nat_N_Mul_3H : Ann := { slots := [(1, .one (.val (.slice (.int .u32)))), (5, .one (.own 68 (.int .u32))), (18, .one (.val (.slice (.int .u32)))), (19, .one (.val (.int .i64))), (20, .one (.val (.int .i64)))], objs := [(68, .buf (.int .u32))] }
def l_nat_N_Mul_3X : Ann := { slots := [(5, .one (.own 68 (.int .u32)))], objs := [(68, .buf (.int .u32))] }
def l_nat_N_Mul_3R : Ann := { slots := [], objs := [] }
def l_nat_N_trim__nat_N_Mul_1H : Ann := { slots := [(0, .one (.pre 68 (.int .u32)))], objs := [(68, .buf (.int .u32))] }
def l_nat_N_trim__nat_N_Mul_1X : Ann := { slots := [(0, .one (.pre 68 (.int .u32)))], objs := [(68, .buf (.int .u32))] }
def l_nat_N_trim__nat_N_Mul_1R : Ann := { slots := [], objs := [] }
def l_nat_N_Mul_7 : Nat → Int → Int → Int → List Int → Int → Int → List Int → Option (LR l_nat_N_Mul_7X l_nat_N_Mul_7R)
  | 0, _, _, _, _, _, _, _ => none
  | m + 1, s6, s7, s8, s25, s26, s27, b68 =>
    if decide (s27 < s26) = true then
      if (0 : Int) ≤ s27 then
        if s27 < s25.length then
          if (0 : Int) ≤ IntKind.i64.wrap (s6 + s27) then
            if IntKind.i64.wrap (s6 + s27) < b68.length then
              if (0 : Int) ≤ IntKind.i64.wrap (s6 + s27) then
                if IntKind.i64.wrap (s6 + s27) < b68.length then
                  l_nat_N_Mul_7 m s6 s7 (IntKind.u64.wrap ((IntKind.u64.wrap ((IntKind.u64.wrap ((IntKind.u64.wrap ((IntKind.u64.wrap (s7)) * (IntKind.u64.wrap (s25.getD s27.toNat 0)))) + (IntKind.u64.wrap (b68.getD ((IntKind.i64.wrap (s6 + s27)).toNat) 0)))) + s8)).tdiv 1000000000)) s25 s26 (IntKind.i64.wrap (s27 + 1)) (b68.set ((IntKind.i64.wrap (s6 + s27)).toNat) (IntKind.u32.wrap ((IntKind.u64.wrap ((IntKind.u64.wrap ((IntKind.u64.wrap ((IntKind.u64.wrap (s7)) * (IntKind.u64.wrap (s25.getD s27.toNat 0)))) + (IntKind.u64.wrap (b68.getD ((IntKind.i64.wrap (s6 + s27)).toNat) 0)))) + s8)).tmod 1000000000)))
                else none
              else none
            else none
          else none
        else none
      else none
    else
      some (.exit (s8, b68, ()))
def l_nat_N_Mul_7L : LSpec := { h := l_nat_N_Mul_7H, x := l_nat_N_Mul_7X, r := l_nat_N_Mul_7R, xid := 2, rt := false, pins := [68], f := fun k d => l_nat_N_Mul_7 k d.1 d.2.1 d.2.2.1 d.2.2.2.1 d.2.2.2.2.1 d.2.2.2.2.2.1 d.2.2.2.2.2.2.1 }
def l_nat_N_Mul_3 : Nat → List Int → List Int → Int → Int → List Int → Option (LR l_nat_N_Mul_3X l_nat_N_Mul_3R)
  | 0, _, _, _, _, _ => none
  | m + 1, s1, s18, s19, s20, b68 =>
    if decide (s20 < s19) = true then
      if (0 : Int) ≤ s20 then
        if s20 < s18.length then
          match l_nat_N_Mul_7 m s20 (s18.getD s20.toNat 0) 0 s1 (s1.length : Int) 0 b68 with
          | none => none
          | some (.exit d1) =>
            if (0 : Int) ≤ IntKind.i64.wrap (s20 + (s1.length : Int)) then
              if IntKind.i64.wrap (s20 + (s1.length : Int)) < d1.2.1.length then
                l_nat_N_Mul_3 m s1 s18 s19 (IntKind.i64.wrap (s20 + 1)) (d1.2.1.set ((IntKind.i64.wrap (s20 + (s1.length : Int))).toNat) (IntKind.u32.wrap (d1.1)))
              else none
            else none
          | some (.ret d1) =>
            none
        else none
      else none
    else
      some (.exit (b68, ()))
def l_nat_N_Mul_3L : LSpec := { h := l_nat_N_Mul_3H, x := l_nat_N_Mul_3X, r := l_nat_N_Mul_3R, xid := 0, rt := false, pins := [68], f := fun k d => l_nat_N_Mul_3 k d.1 d.2.1 d.2.2.1 d.2.2.2.1 d.2.2.2.2.1 }
def l_nat_N_trim__nat_N_Mul_1 : Nat → Nat → List Int → Option (LR l_nat_N_trim__nat_N_Mul_1X l_nat_N_trim__nat_N_Mul_1R)
  | 0, _, _ => none
  | m + 1, s0, b68 =>
    if decide ((s0 : Int) > 0) = true then
      if (0 : Int) ≤ IntKind.i64.wrap ((s0 : Int) - 1) then
        if IntKind.i64.wrap ((s0 : Int) - 1) < s0 then
          if (b68.getD ((IntKind.i64.wrap ((s0 : Int) - 1)).toNat) 0 == 0) = true then
            if (0 : Int) ≤ IntKind.i64.wrap ((s0 : Int) - 1) then
              if IntKind.i64.wrap ((s0 : Int) - 1) ≤ s0 then
                l_nat_N_trim__nat_N_Mul_1 m ((IntKind.i64.wrap ((s0 : Int) - 1)).toNat) b68
              else none
            else none
          else
            some (.exit (s0, b68, ()))
        else none
      else none
    else
      some (.exit (s0, b68, ()))
def l_nat_N_trim__nat_N_Mul_1L : LSpec := { h := l_nat_N_trim__nat_N_Mul_1H, x := l_nat_N_trim__nat_N_Mul_1X, r := l_nat_N_trim__nat_N_Mul_1R, xid := 0, rt := false, pins := [68], f := fun k d => l_nat_N_trim__nat_N_Mul_1 k d.1 d.2.1 }
def LL_nat_N_Mul : Loops := [([22], [(3, l_nat_N_Mul_3L), (7, l_nat_N_Mul_7L)]), ([33, 22], [(1, l_nat_N_trim__nat_N_Mul_1L)])]
def f_nat_N_Mul (k : Nat) (a0 : List Int) (a1 : List Int) : Option (List Int) :=
  if (0 : Int) ≤ IntKind.i64.wrap ((a0.length : Int) + (a1.length : Int)) then
    if IntKind.i64.wrap ((a0.length : Int) + (a1.length : Int)) ≤ IntKind.i64.wrap ((a0.length : Int) + (a1.length : Int)) then
      if (IntKind.i64.wrap ((a0.length : Int) + (a1.length : Int))) * 4 ≤ 281474976710656 then
        match l_nat_N_Mul_3 k a1 a0 (a0.length : Int) 0 (List.replicate ((IntKind.i64.wrap ((a0.length : Int) + (a1.length : Int))).toNat) 0) with
        | none => none
        | some (.exit d1) =>
          match l_nat_N_trim__nat_N_Mul_1 k d1.1.length d1.1 with
          | none => none
          | some (.exit d2) =>
            some (d2.2.1.take d2.1)
          | some (.ret d2) =>
            none
        | some (.ret d1) =>
          none
      else none
    else none
  else none
theorem l_nat_N_Mul_7_step (m : Nat) (d : dens l_nat_N_Mul_7H.tys) : l_nat_N_Mul_7L.f (m + 1) d = round E_nat_N_Mul LL_nat_N_Mul m [22] 69 (loopN (bodyOf Tryd.f22) 1) l_nat_N_Mul_7L (l_nat_N_Mul_7L.f m) d := by kernel_rfl
theorem l_nat_N_Mul_3_step (m : Nat) (d : dens l_nat_N_Mul_3H.tys) : l_nat_N_Mul_3L.f (m + 1) d = round E_nat_N_Mul LL_nat_N_Mul m [22] 69 (loopN (bodyOf Tryd.f22) 0) l_nat_N_Mul_3L (l_nat_N_Mul_3L.f m) d := by kernel_rfl
theorem l_nat_N_trim__nat_N_Mul_1_step (m : Nat) (d : dens l_nat_N_trim__nat_N_Mul_1H.tys) : l_nat_N_trim__nat_N_Mul_1L.f (m + 1) d = round E_nat_N_Mul LL_nat_N_Mul m [33, 22] 21 (loopN (bodyOf Tryd.f33) 0) l_nat_N_trim__nat_N_Mul_1L (l_nat_N_trim__nat_N_Mul_1L.f m) d := by kernel_rfl
theorem f_nat_N_Mul_run (k : Nat) (x : denL [.slice (.int .u32), .slice (.int .u32)]) : runFn E_nat_N_Mul LL_nat_N_Mul k 22 Tryd.f22 [.slice (.int .u32), .slice (.int .u32)] [.fresh (.int .u32)] x = f_nat_N_Mul k x.1 x.2 := by kernel_rfl
noncomputable def S_nat_N_Mul : Vm.Spec := { ps := [.slice (.int .u32), .slice (.int .u32)], rs := [.fresh (.int .u32)], f := fun x => f_nat_N_Mul fuel x.1 x.2 }
theorem f_nat_N_Mul_holds : Vm.Spec.holds Tryd.prog 22 S_nat_N_Mul := by
  have hB : BodiesOk Tryd.prog E_nat_N_Mul := bodies_ok (by exact ⟨by kernel_rfl, by kernel_rfl, trivial⟩)
  have hBS : BodiesStepped E_nat_N_Mul LL_nat_N_Mul := by
    refine bodies_stepped ?_
    exact ⟨(stepped_paths [[22]] (by exact ⟨stepped_of (ls := [(1, l_nat_N_trim__nat_N_Mul_1L)]) rfl rfl ⟨by kernel_rfl, fun _ => rfl, l_nat_N_trim__nat_N_Mul_1_step, stepsI_end (by kernel_rfl)⟩,  trivial⟩) rfl),  trivial⟩
  have hS : SpecsOk Tryd.prog E_nat_N_Mul := specs_ok (by exact trivial)
  have hE : EOk Tryd.prog E_nat_N_Mul := eok_te ok
  exact fn_sound (L := LL_nat_N_Mul) hE hS hB (draws_ok hE hS (by kernel_rfl)) hBS (fn := Tryd.f22) (by kernel_rfl) (c := bodyOf Tryd.f22) (by kernel_rfl) (stepped_of (ls := [(3, l_nat_N_Mul_3L), (7, l_nat_N_Mul_7L)]) rfl rfl ⟨by kernel_rfl, fun _ => rfl, l_nat_N_Mul_3_step, by kernel_rfl, fun _ => rfl, l_nat_N_Mul_7_step, stepsI_end (by kernel_rfl)⟩) fun x r h => ⟨fuel, (f_nat_N_Mul_run fuel x).trans h⟩

/-! (gamehall/nat.N).trim -/
noncomputable def E_nat_N_trim : Env := { te := te, spec := [], body := [] }
def l_nat_N_trim_1H : Ann := { slots := [(0, .one (.val (.slice (.int .u32))))], objs := [] }
def l_nat_N_trim_1X : Ann := { slots := [(0, .one (.val (.slice (.int .u32))))], objs := [] }
def l_nat_N_trim_1R : Ann := { slots := [], objs := [] }
def l_nat_N_trim_1 : Nat → List Int → Option (LR l_nat_N_trim_1X l_nat_N_trim_1R)
  | 0, _ => none
  | m + 1, s0 =>
    if decide ((s0.length : Int) > 0) = true then
      if (0 : Int) ≤ IntKind.i64.wrap ((s0.length : Int) - 1) then
        if IntKind.i64.wrap ((s0.length : Int) - 1) < s0.length then
          if (s0.getD ((IntKind.i64.wrap ((s0.length : Int) - 1)).toNat) 0 == 0) = true then
            if (0 : Int) ≤ IntKind.i64.wrap ((s0.length : Int) - 1) then
              if IntKind.i64.wrap ((s0.length : Int) - 1) ≤ s0.length then
                l_nat_N_trim_1 m ((s0.take (IntKind.i64.wrap ((s0.length : Int) - 1)).toNat).drop 0)
              else none
            else none
          else
            some (.exit (s0, ()))
        else none
      else none
    else
      some (.exit (s0, ()))
def l_nat_N_trim_1L : LSpec := { h := l_nat_N_trim_1H, x := l_nat_N_trim_1X, r := l_nat_N_trim_1R, xid := 0, rt := false, pins := [], f := fun k d => l_nat_N_trim_1 k d.1 }
def LL_nat_N_trim : Loops := [([33], [(1, l_nat_N_trim_1L)])]
def f_nat_N_trim (k : Nat) (a0 : List Int) : Option (List Int) :=
  match l_nat_N_trim_1 k a0 with
  | none => none
  | some (.exit d1) =>
    some d1.1
  | some (.ret d1) =>
    none
theorem l_nat_N_trim_1_step (m : Nat) (d : dens l_nat_N_trim_1H.tys) : l_nat_N_trim_1L.f (m + 1) d = round E_nat_N_trim LL_nat_N_trim m [33] 21 (loopN (bodyOf Tryd.f33) 0) l_nat_N_trim_1L (l_nat_N_trim_1L.f m) d := by kernel_rfl
theorem f_nat_N_trim_run (k : Nat) (x : denL [.slice (.int .u32)]) : runFn E_nat_N_trim LL_nat_N_trim k 33 Tryd.f33 [.slice (.int .u32)] [.imm (.slice (.int .u32))] x = f_nat_N_trim k x := by kernel_rfl
noncomputable def S_nat_N_trim : Vm.Spec := { ps := [.slice (.int .u32)], rs := [.imm (.slice (.int .u32))], f := fun x => f_nat_N_trim fuel x }
theorem f_nat_N_trim_holds : Vm.Spec.holds Tryd.prog 33 S_nat_N_trim := by
  have hB : BodiesOk Tryd.prog E_nat_N_trim := bodies_none rfl
  have hBS : BodiesStepped E_nat_N_trim LL_nat_N_trim := bodies_stepped_none rfl
  have hS : SpecsOk Tryd.prog E_nat_N_trim := specs_ok (by exact trivial)
  have hE : EOk Tryd.prog E_nat_N_trim := eok_te ok
  exact fn_sound (L := LL_nat_N_trim) hE hS hB (draws_ok hE hS (by kernel_rfl)) hBS (fn := Tryd.f33) (by kernel_rfl) (c := bodyOf Tryd.f33) (by kernel_rfl) (stepped_of (ls := [(1, l_nat_N_trim_1L)]) rfl rfl ⟨by kernel_rfl, fun _ => rfl, l_nat_N_trim_1_step, stepsI_end (by kernel_rfl)⟩) fun x r h => ⟨fuel, (f_nat_N_trim_run fuel x).trans h⟩

/-! (gamehall/nat.N).short -/
noncomputable def E_nat_N_short : Env := { te := te, spec := [(33, S_nat_N_trim)], body := [] }
def l_nat_N_short_4H : Ann := { slots := [(0, .one (.val (.slice (.int .u32)))), (1, .one (.val (.int .u32))), (6, .one (.own 44 (.int .u32))), (7, .one (.val (.int .u64))), (8, .one (.val (.int .i64)))], objs := [(44, .buf (.int .u32))] }
def l_nat_N_short_4X : Ann := { slots := [(6, .one (.own 44 (.int .u32))), (7, .one (.val (.int .u64)))], objs := [(44, .buf (.int .u32))] }
def l_nat_N_short_4R : Ann := { slots := [], objs := [] }
def l_nat_N_short_4 : Nat → List Int → Int → Int → Int → List Int → Option (LR l_nat_N_short_4X l_nat_N_short_4R)
  | 0, _, _, _, _, _ => none
  | m + 1, s0, s1, s7, s8, b44 =>
    if decide (s8 ≥ 0) = true then
      if (0 : Int) ≤ s8 then
        if s8 < s0.length then
          if IntKind.u64.wrap (s1) = 0 then
            none
          else
            if (0 : Int) ≤ s8 then
              if s8 < b44.length then
                if IntKind.u64.wrap (s1) = 0 then
                  none
                else
                  l_nat_N_short_4 m s0 s1 ((IntKind.u64.wrap ((IntKind.u64.wrap (s7 * 1000000000)) + (IntKind.u64.wrap (s0.getD s8.toNat 0)))).tmod (IntKind.u64.wrap (s1))) (IntKind.i64.wrap (s8 - 1)) (b44.set s8.toNat (IntKind.u32.wrap (IntKind.u64.wrap ((IntKind.u64.wrap ((IntKind.u64.wrap (s7 * 1000000000)) + (IntKind.u64.wrap (s0.getD s8.toNat 0)))).tdiv (IntKind.u64.wrap (s1))))))
              else none
            else none
        else none
      else none
    else
      some (.exit (s7, b44, ()))
def l_nat_N_short_4L : LSpec := { h := l_nat_N_short_4H, x := l_nat_N_short_4X, r := l_nat_N_short_4R, xid := 0, rt := false, pins := [44], f := fun k d => l_nat_N_short_4 k d.1 d.2.1 d.2.2.1 d.2.2.2.1 d.2.2.2.2.1 }
def LL_nat_N_short : Loops := [([35], [(4, l_nat_N_short_4L)])]
def f_nat_N_short (k : Nat) (a0 : List Int) (a1 : Int) : Option ((List Int) × (List Int)) :=
  if (0 : Int) ≤ (a0.length : Int) then
    if (a0.length : Int) ≤ (a0.length : Int) then
      if (a0.length : Int) * 4 ≤ 281474976710656 then
        match l_nat_N_short_4 k a0 a1 0 (IntKind.i64.wrap ((a0.length : Int) - 1)) (List.replicate ((a0.length : Int).toNat) 0) with
        | none => none
        | some (.exit d1) =>
          (f_nat_N_trim fuel d1.2.1).bind fun r2 =>
          (f_nat_N_trim fuel [IntKind.u32.wrap (d1.1)]).bind fun r3 =>
          some (r2, r3)
        | some (.ret d1) =>
          none
      else none
    else none
  else none
theorem l_nat_N_short_4_step (m : Nat) (d : dens l_nat_N_short_4H.tys) : l_nat_N_short_4L.f (m + 1) d = round E_nat_N_short LL_nat_N_short m [35] 45 (loopN (bodyOf Tryd.f35) 0) l_nat_N_short_4L (l_nat_N_short_4L.f m) d := by kernel_rfl
theorem f_nat_N_short_run (k : Nat) (x : denL [.slice (.int .u32), .int .u32]) : runFn E_nat_N_short LL_nat_N_short k 35 Tryd.f35 [.slice (.int .u32), .int .u32] [.imm (.slice (.int .u32)), .imm (.slice (.int .u32))] x = f_nat_N_short k x.1 x.2 := by kernel_rfl
noncomputable def S_nat_N_short : Vm.Spec := { ps := [.slice (.int .u32), .int .u32], rs := [.imm (.slice (.int .u32)), .imm (.slice (.int .u32))], f := fun x => f_nat_N_short fuel x.1 x.2 }
theorem f_nat_N_short_holds : Vm.Spec.holds Tryd.prog 35 S_nat_N_short := by
  have hB : BodiesOk Tryd.prog E_nat_N_short := bodies_none rfl
  have hBS : BodiesStepped E_nat_N_short LL_nat_N_short := bodies_stepped_none rfl
  have hS : SpecsOk Tryd.prog E_nat_N_short := specs_ok (by exact ⟨⟨by kernel_rfl, f_nat_N_trim_holds⟩, trivial⟩)
  have hE : EOk Tryd.prog E_nat_N_short := eok_te ok
  exact fn_sound (L := LL_nat_N_short) hE hS hB (draws_ok hE hS (by kernel_rfl)) hBS (fn := Tryd.f35) (by kernel_rfl) (c := bodyOf Tryd.f35) (by kernel_rfl) (stepped_of (ls := [(4, l_nat_N_short_4L)]) rfl rfl ⟨by kernel_rfl, fun _ => rfl, l_nat_N_short_4_step, stepsI_end (by kernel_rfl)⟩) fun x r h => ⟨fuel, (f_nat_N_short_run fuel x).trans h⟩

/-! (gamehall/nat.N).Div -/
noncomputable def E_nat_N_Div : Env := { te := te, spec := [(22, S_nat_N_Mul), (23, S_nat_N_Cmp), (33, S_nat_N_trim), (35, S_nat_N_short)], body := [(36, Tryd.f36), (37, Tryd.f37)] }
def l_nat_N_Div_7H : Ann := { slots := [(0, .one (.val (.slice (.int .u32)))), (7, .one (.own 188 (.int .u32)))], objs := [(188, .buf (.int .u32))] }
def l_nat_N_Div_7X : Ann := { slots := [(7, .one (.own 188 (.int .u32)))], objs := [(188, .buf (.int .u32))] }
def l_nat_N_Div_7R : Ann := { slots := [], objs := [] }
def l_nat_N_Div_16H : Ann := { slots := [(7, .one (.own 188 (.int .u32))), (8, .one (.own 204 (.int .u32))), (9, .one (.val (.int .i64))), (11, .one (.val (.int .i64))), (13, .one (.val (.int .u64))), (14, .one (.val (.int .u64)))], objs := [(188, .buf (.int .u32)), (204, .buf (.int .u32))] }
def l_nat_N_Div_16X : Ann := { slots := [(7, .one (.own 188 (.int .u32))), (8, .one (.own 204 (.int .u32))), (13, .one (.val (.int .u64)))], objs := [(188, .buf (.int .u32)), (204, .buf (.int .u32))] }
def l_nat_N_Div_16R : Ann := { slots := [], objs := [] }
def l_nat_N_minus__nat_N_Div_4H : Ann := { slots := [(0, .one (.own 188 (.int .u32))), (1, .one (.own 204 (.int .u32))), (2, .one (.val (.int .i64))), (3, .one (.val (.int .u64))), (9, .one (.val (.int .i64))), (10, .one (.val (.int .u64))), (11, .one (.val (.int .i64)))], objs := [(188, .buf (.int .u32)), (204, .buf (.int .u32))] }
def l_nat_N_minus__nat_N_Div_4X : Ann := { slots := [(9, .one (.val (.int .i64)))], objs := [(188, .buf (.int .u32)), (204, .buf (.int .u32))] }
def l_nat_N_minus__nat_N_Div_4R : Ann := { slots := [], objs := [] }
def l_nat_N_plus__nat_N_Div_2H : Ann := { slots := [(0, .one (.own 188 (.int .u32))), (1, .one (.own 204 (.int .u32))), (2, .one (.val (.int .i64))), (6, .one (.val (.int .u32))), (7, .one (.val (.int .i64)))], objs := [(188, .buf (.int .u32)), (204, .buf (.int .u32))] }
def l_nat_N_plus__nat_N_Div_2X : Ann := { slots := [], objs := [(188, .buf (.int .u32)), (204, .buf (.int .u32))] }
def l_nat_N_plus__nat_N_Div_2R : Ann := { slots := [], objs := [] }
def l_nat_N_Div_12H : Ann := { slots := [(7, .one (.own 188 (.int .u32))), (8, .one (.own 204 (.int .u32))), (9, .one (.val (.int .i64))), (10, .one (.own 264 (.int .u32))), (11, .one (.val (.int .i64)))], objs := [(188, .buf (.int .u32)), (204, .buf (.int .u32)), (264, .buf (.int .u32))] }
def l_nat_N_Div_12X : Ann := { slots := [(7, .one (.own 188 (.int .u32))), (10, .one (.own 264 (.int .u32)))], objs := [(188, .buf (.int .u32)), (264, .buf (.int .u32)), (204, .buf (.int .u32))] }
def l_nat_N_Div_12R : Ann := { slots := [], objs := [] }
def l_nat_N_Div_7 : Nat → List Int → List Int → Option (LR l_nat_N_Div_7X l_nat_N_Div_7R)
  | 0, _, _ => none
  | m + 1, s0, b188 =>
    if decide ((b188.length : Int) ≤ (s0.length : Int)) = true then
      if (b188.length + 1) * 4 ≤ 140737488355328 then
        l_nat_N_Div_7 m s0 (b188 ++ [0])
      else none
    else
      some (.exit (b188, ()))
def l_nat_N_Div_7L : LSpec := { h := l_nat_N_Div_7H, x := l_nat_N_Div_7X, r := l_nat_N_Div_7R, xid := 0, rt := false, pins := [], f := fun k d => l_nat_N_Div_7 k d.1 d.2.1 }
def l_nat_N_Div_16 : Nat → Int → Int → Int → Int → List Int → List Int → Option (LR l_nat_N_Div_16X l_nat_N_Div_16R)
  | 0, _, _, _, _, _, _ => none
  | m + 1, s9, s11, s13, s14, b188, b204 =>
    if decide (s13 ≥ 1000000000) = false then
      if (0 : Int) ≤ IntKind.i64.wrap (s9 - 2) then
        if IntKind.i64.wrap (s9 - 2) < b204.length then
          if (0 : Int) ≤ IntKind.i64.wrap ((IntKind.i64.wrap (s11 + s9)) - 2) then
            if IntKind.i64.wrap ((IntKind.i64.wrap (s11 + s9)) - 2) < b188.length then
              if decide (IntKind.u64.wrap (s13 * (IntKind.u64.wrap (b204.getD ((IntKind.i64.wrap (s9 - 2)).toNat) 0))) > IntKind.u64.wrap ((IntKind.u64.wrap (s14 * 1000000000)) + (IntKind.u64.wrap (b188.getD ((IntKind.i64.wrap ((IntKind.i64.wrap (s11 + s9)) - 2)).toNat) 0)))) = true then
                if (0 : Int) ≤ IntKind.i64.wrap (s9 - 1) then
                  if IntKind.i64.wrap (s9 - 1) < b204.length then
                    if decide (IntKind.u64.wrap (s14 + (IntKind.u64.wrap (b204.getD ((IntKind.i64.wrap (s9 - 1)).toNat) 0))) ≥ 1000000000) = true then
                      some (.exit (IntKind.u64.wrap (s13 - 1), b188, b204, ()))
                    else
                      l_nat_N_Div_16 m s9 s11 (IntKind.u64.wrap (s13 - 1)) (IntKind.u64.wrap (s14 + (IntKind.u64.wrap (b204.getD ((IntKind.i64.wrap (s9 - 1)).toNat) 0)))) b188 b204
                  else none
                else none
              else
                some (.exit (s13, b188, b204, ()))
            else none
          else none
        else none
      else none
    else
      if (0 : Int) ≤ IntKind.i64.wrap (s9 - 1) then
        if IntKind.i64.wrap (s9 - 1) < b204.length then
          if decide (IntKind.u64.wrap (s14 + (IntKind.u64.wrap (b204.getD ((IntKind.i64.wrap (s9 - 1)).toNat) 0))) ≥ 1000000000) = true then
            some (.exit (IntKind.u64.wrap (s13 - 1), b188, b204, ()))
          else
            l_nat_N_Div_16 m s9 s11 (IntKind.u64.wrap (s13 - 1)) (IntKind.u64.wrap (s14 + (IntKind.u64.wrap (b204.getD ((IntKind.i64.wrap (s9 - 1)).toNat) 0)))) b188 b204
        else none
      else none
def l_nat_N_Div_16L : LSpec := { h := l_nat_N_Div_16H, x := l_nat_N_Div_16X, r := l_nat_N_Div_16R, xid := 4, rt := false, pins := [188, 204], f := fun k d => l_nat_N_Div_16 k d.1 d.2.1 d.2.2.1 d.2.2.2.1 d.2.2.2.2.1 d.2.2.2.2.2.1 }
def l_nat_N_minus__nat_N_Div_4 : Nat → Int → Int → Int → Int → Int → List Int → List Int → Option (LR l_nat_N_minus__nat_N_Div_4X l_nat_N_minus__nat_N_Div_4R)
  | 0, _, _, _, _, _, _, _ => none
  | m + 1, s2, s3, s9, s10, s11, b188, b204 =>
    if decide (s11 ≤ (b204.length : Int)) = true then
      if decide (s11 < (b204.length : Int)) = true then
        if (0 : Int) ≤ s11 then
          if s11 < b204.length then
            if (0 : Int) ≤ IntKind.i64.wrap (s2 + s11) then
              if IntKind.i64.wrap (s2 + s11) < b188.length then
                if decide (IntKind.i64.wrap ((IntKind.i64.wrap ((IntKind.i64.wrap (b188.getD ((IntKind.i64.wrap (s2 + s11)).toNat) 0)) - (IntKind.i64.wrap ((IntKind.u64.wrap (s10 + (IntKind.u64.wrap (s3 * (IntKind.u64.wrap (b204.getD s11.toNat 0)))))).tmod 1000000000)))) - s9) < 0) = true then
                  if (0 : Int) ≤ IntKind.i64.wrap (s2 + s11) then
                    if IntKind.i64.wrap (s2 + s11) < b188.length then
                      l_nat_N_minus__nat_N_Div_4 m s2 s3 1 (IntKind.u64.wrap ((IntKind.u64.wrap (s10 + (IntKind.u64.wrap (s3 * (IntKind.u64.wrap (b204.getD s11.toNat 0)))))).tdiv 1000000000)) (IntKind.i64.wrap (s11 + 1)) (b188.set ((IntKind.i64.wrap (s2 + s11)).toNat) (IntKind.u32.wrap (IntKind.i64.wrap ((IntKind.i64.wrap ((IntKind.i64.wrap ((IntKind.i64.wrap (b188.getD ((IntKind.i64.wrap (s2 + s11)).toNat) 0)) - (IntKind.i64.wrap ((IntKind.u64.wrap (s10 + (IntKind.u64.wrap (s3 * (IntKind.u64.wrap (b204.getD s11.toNat 0)))))).tmod 1000000000)))) - s9)) + 1000000000)))) b204
                    else none
                  else none
                else
                  if (0 : Int) ≤ IntKind.i64.wrap (s2 + s11) then
                    if IntKind.i64.wrap (s2 + s11) < b188.length then
                      l_nat_N_minus__nat_N_Div_4 m s2 s3 0 (IntKind.u64.wrap ((IntKind.u64.wrap (s10 + (IntKind.u64.wrap (s3 * (IntKind.u64.wrap (b204.getD s11.toNat 0)))))).tdiv 1000000000)) (IntKind.i64.wrap (s11 + 1)) (b188.set ((IntKind.i64.wrap (s2 + s11)).toNat) (IntKind.u32.wrap (IntKind.i64.wrap ((IntKind.i64.wrap ((IntKind.i64.wrap (b188.getD ((IntKind.i64.wrap (s2 + s11)).toNat) 0)) - (IntKind.i64.wrap ((IntKind.u64.wrap (s10 + (IntKind.u64.wrap (s3 * (IntKind.u64.wrap (b204.getD s11.toNat 0)))))).tmod 1000000000)))) - s9)))) b204
                    else none
                  else none
              else none
            else none
          else none
        else none
      else
        if (0 : Int) ≤ IntKind.i64.wrap (s2 + s11) then
          if IntKind.i64.wrap (s2 + s11) < b188.length then
            if decide (IntKind.i64.wrap ((IntKind.i64.wrap ((IntKind.i64.wrap (b188.getD ((IntKind.i64.wrap (s2 + s11)).toNat) 0)) - (IntKind.i64.wrap (s10.tmod 1000000000)))) - s9) < 0) = true then
              if (0 : Int) ≤ IntKind.i64.wrap (s2 + s11) then
                if IntKind.i64.wrap (s2 + s11) < b188.length then
                  l_nat_N_minus__nat_N_Div_4 m s2 s3 1 (IntKind.u64.wrap (s10.tdiv 1000000000)) (IntKind.i64.wrap (s11 + 1)) (b188.set ((IntKind.i64.wrap (s2 + s11)).toNat) (IntKind.u32.wrap (IntKind.i64.wrap ((IntKind.i64.wrap ((IntKind.i64.wrap ((IntKind.i64.wrap (b188.getD ((IntKind.i64.wrap (s2 + s11)).toNat) 0)) - (IntKind.i64.wrap (s10.tmod 1000000000)))) - s9)) + 1000000000)))) b204
                else none
              else none
            else
              if (0 : Int) ≤ IntKind.i64.wrap (s2 + s11) then
                if IntKind.i64.wrap (s2 + s11) < b188.length then
                  l_nat_N_minus__nat_N_Div_4 m s2 s3 0 (IntKind.u64.wrap (s10.tdiv 1000000000)) (IntKind.i64.wrap (s11 + 1)) (b188.set ((IntKind.i64.wrap (s2 + s11)).toNat) (IntKind.u32.wrap (IntKind.i64.wrap ((IntKind.i64.wrap ((IntKind.i64.wrap (b188.getD ((IntKind.i64.wrap (s2 + s11)).toNat) 0)) - (IntKind.i64.wrap (s10.tmod 1000000000)))) - s9)))) b204
                else none
              else none
          else none
        else none
    else
      some (.exit (s9, b188, b204, ()))
def l_nat_N_minus__nat_N_Div_4L : LSpec := { h := l_nat_N_minus__nat_N_Div_4H, x := l_nat_N_minus__nat_N_Div_4X, r := l_nat_N_minus__nat_N_Div_4R, xid := 0, rt := false, pins := [188, 204], f := fun k d => l_nat_N_minus__nat_N_Div_4 k d.1 d.2.1 d.2.2.1 d.2.2.2.1 d.2.2.2.2.1 d.2.2.2.2.2.1 d.2.2.2.2.2.2.1 }
def l_nat_N_plus__nat_N_Div_2 : Nat → Int → Int → Int → List Int → List Int → Option (LR l_nat_N_plus__nat_N_Div_2X l_nat_N_plus__nat_N_Div_2R)
  | 0, _, _, _, _, _ => none
  | m + 1, s2, s6, s7, b188, b204 =>
    if decide (s7 ≤ (b204.length : Int)) = true then
      if (0 : Int) ≤ IntKind.i64.wrap (s2 + s7) then
        if IntKind.i64.wrap (s2 + s7) < b188.length then
          if decide (s7 < (b204.length : Int)) = true then
            if (0 : Int) ≤ s7 then
              if s7 < b204.length then
                if (0 : Int) ≤ IntKind.i64.wrap (s2 + s7) then
                  if IntKind.i64.wrap (s2 + s7) < b188.length then
                    l_nat_N_plus__nat_N_Div_2 m s2 (IntKind.u32.wrap ((IntKind.u32.wrap ((IntKind.u32.wrap ((b188.getD ((IntKind.i64.wrap (s2 + s7)).toNat) 0) + s6)) + (b204.getD s7.toNat 0))).tdiv 1000000000)) (IntKind.i64.wrap (s7 + 1)) (b188.set ((IntKind.i64.wrap (s2 + s7)).toNat) ((IntKind.u32.wrap ((IntKind.u32.wrap ((b188.getD ((IntKind.i64.wrap (s2 + s7)).toNat) 0) + s6)) + (b204.getD s7.toNat 0))).tmod 1000000000)) b204
                  else none
                else none
              else none
            else none
          else
            if (0 : Int) ≤ IntKind.i64.wrap (s2 + s7) then
              if IntKind.i64.wrap (s2 + s7) < b188.length then
                l_nat_N_plus__nat_N_Div_2 m s2 (IntKind.u32.wrap ((IntKind.u32.wrap ((b188.getD ((IntKind.i64.wrap (s2 + s7)).toNat) 0) + s6)).tdiv 1000000000)) (IntKind.i64.wrap (s7 + 1)) (b188.set ((IntKind.i64.wrap (s2 + s7)).toNat) ((IntKind.u32.wrap ((b188.getD ((IntKind.i64.wrap (s2 + s7)).toNat) 0) + s6)).tmod 1000000000)) b204
              else none
            else none
        else none
      else none
    else
      some (.exit (b188, b204, ()))
def l_nat_N_plus__nat_N_Div_2L : LSpec := { h := l_nat_N_plus__nat_N_Div_2H, x := l_nat_N_plus__nat_N_Div_2X, r := l_nat_N_plus__nat_N_Div_2R, xid := 0, rt := false, pins := [188, 204], f := fun k d => l_nat_N_plus__nat_N_Div_2 k d.1 d.2.1 d.2.2.1 d.2.2.2.1 d.2.2.2.2.1 }
def l_nat_N_Div_12 : Nat → Int → Int → List Int → List Int → List Int → Option (LR l_nat_N_Div_12X l_nat_N_Div_12R)
  | 0, _, _, _, _, _ => none
  | m + 1, s9, s11, b188, b204, b264 =>
    if decide (s11 ≥ 0) = true then
      if (0 : Int) ≤ IntKind.i64.wrap (s11 + s9) then
        if IntKind.i64.wrap (s11 + s9) < b188.length then
          if (0 : Int) ≤ IntKind.i64.wrap ((IntKind.i64.wrap (s11 + s9)) - 1) then
            if IntKind.i64.wrap ((IntKind.i64.wrap (s11 + s9)) - 1) < b188.length then
              if (0 : Int) ≤ IntKind.i64.wrap (s9 - 1) then
                if IntKind.i64.wrap (s9 - 1) < b204.length then
                  if IntKind.u64.wrap (b204.getD ((IntKind.i64.wrap (s9 - 1)).toNat) 0) = 0 then
                    none
                  else
                    if (0 : Int) ≤ IntKind.i64.wrap (s9 - 1) then
                      if IntKind.i64.wrap (s9 - 1) < b204.length then
                        if IntKind.u64.wrap (b204.getD ((IntKind.i64.wrap (s9 - 1)).toNat) 0) = 0 then
                          none
                        else
                          match l_nat_N_Div_16 m s9 s11 (IntKind.u64.wrap ((IntKind.u64.wrap ((IntKind.u64.wrap ((IntKind.u64.wrap (b188.getD ((IntKind.i64.wrap (s11 + s9)).toNat) 0)) * 1000000000)) + (IntKind.u64.wrap (b188.getD ((IntKind.i64.wrap ((IntKind.i64.wrap (s11 + s9)) - 1)).toNat) 0)))).tdiv (IntKind.u64.wrap (b204.getD ((IntKind.i64.wrap (s9 - 1)).toNat) 0)))) ((IntKind.u64.wrap ((IntKind.u64.wrap ((IntKind.u64.wrap (b188.getD ((IntKind.i64.wrap (s11 + s9)).toNat) 0)) * 1000000000)) + (IntKind.u64.wrap (b188.getD ((IntKind.i64.wrap ((IntKind.i64.wrap (s11 + s9)) - 1)).toNat) 0)))).tmod (IntKind.u64.wrap (b204.getD ((IntKind.i64.wrap (s9 - 1)).toNat) 0))) b188 b204 with
                          | none => none
                          | some (.exit d1) =>
                            match l_nat_N_minus__nat_N_Div_4 m s11 d1.1 0 0 0 d1.2.1 d1.2.2.1 with
                            | none => none
                            | some (.exit d2) =>
                              if decide (d2.1 > 0) = true then
                                match l_nat_N_plus__nat_N_Div_2 m s11 0 0 d2.2.1 d2.2.2.1 with
                                | none => none
                                | some (.exit d3) =>
                                  if (0 : Int) ≤ s11 then
                                    if s11 < b264.length then
                                      l_nat_N_Div_12 m s9 (IntKind.i64.wrap (s11 - 1)) d3.1 d3.2.1 (b264.set s11.toNat (IntKind.u32.wrap (IntKind.u64.wrap (d1.1 - 1))))
                                    else none
                                  else none
                                | some (.ret d3) =>
                                  none
                              else
                                if (0 : Int) ≤ s11 then
                                  if s11 < b264.length then
                                    l_nat_N_Div_12 m s9 (IntKind.i64.wrap (s11 - 1)) d2.2.1 d2.2.2.1 (b264.set s11.toNat (IntKind.u32.wrap (d1.1)))
                                  else none
                                else none
                            | some (.ret d2) =>
                              none
                          | some (.ret d1) =>
                            none
                      else none
                    else none
                else none
              else none
            else none
          else none
        else none
      else none
    else
      some (.exit (b188, b264, b204, ()))
def l_nat_N_Div_12L : LSpec := { h := l_nat_N_Div_12H, x := l_nat_N_Div_12X, r := l_nat_N_Div_12R, xid := 2, rt := false, pins := [188, 204, 264], f := fun k d => l_nat_N_Div_12 k d.1 d.2.1 d.2.2.1 d.2.2.2.1 d.2.2.2.2.1 }
def LL_nat_N_Div : Loops := [([27], [(7, l_nat_N_Div_7L), (12, l_nat_N_Div_12L), (16, l_nat_N_Div_16L)]), ([36, 27], [(4, l_nat_N_minus__nat_N_Div_4L)]), ([37, 27], [(2, l_nat_N_plus__nat_N_Div_2L)])]
def f_nat_N_Div (k : Nat) (a0 : List Int) (a1 : List Int) : Option ((List Int) × (List Int)) :=
  (f_nat_N_Cmp fuel a0 a1).bind fun r1 =>
  if decide (r1 < 0) = true then
    some ([], a0)
  else
    if ((a1.length : Int) == 1) = true then
      if (0 : Int) < a1.length then
        (f_nat_N_short fuel a0 (a1.getD 0 0)).bind fun r2 =>
        some (r2.1, r2.2)
      else none
    else
      if (0 : Int) ≤ IntKind.i64.wrap ((a1.length : Int) - 1) then
        if IntKind.i64.wrap ((a1.length : Int) - 1) < a1.length then
          if IntKind.u64.wrap ((IntKind.u64.wrap (a1.getD ((IntKind.i64.wrap ((a1.length : Int) - 1)).toNat) 0)) + 1) = 0 then
            none
          else
            (f_nat_N_Mul fuel a0 [IntKind.u32.wrap (IntKind.u64.wrap ((1000000000 : Int).tdiv (IntKind.u64.wrap ((IntKind.u64.wrap (a1.getD ((IntKind.i64.wrap ((a1.length : Int) - 1)).toNat) 0)) + 1))))]).bind fun r3 =>
            if (r3.length + 1) * 4 ≤ 140737488355328 then
              (f_nat_N_Mul fuel a1 [IntKind.u32.wrap (IntKind.u64.wrap ((1000000000 : Int).tdiv (IntKind.u64.wrap ((IntKind.u64.wrap (a1.getD ((IntKind.i64.wrap ((a1.length : Int) - 1)).toNat) 0)) + 1))))]).bind fun r4 =>
              match l_nat_N_Div_7 k a0 (r3 ++ [0]) with
              | none => none
              | some (.exit d5) =>
                if (0 : Int) ≤ IntKind.i64.wrap ((d5.1.length : Int) - (r4.length : Int)) then
                  if IntKind.i64.wrap ((d5.1.length : Int) - (r4.length : Int)) ≤ IntKind.i64.wrap ((d5.1.length : Int) - (r4.length : Int)) then
                    if (IntKind.i64.wrap ((d5.1.length : Int) - (r4.length : Int))) * 4 ≤ 281474976710656 then
                      match l_nat_N_Div_12 k (r4.length : Int) (IntKind.i64.wrap ((IntKind.i64.wrap ((d5.1.length : Int) - (r4.length : Int))) - 1)) d5.1 r4 (List.replicate ((IntKind.i64.wrap ((d5.1.length : Int) - (r4.length : Int))).toNat) 0) with
                      | none => none
                      | some (.exit d6) =>
                        (f_nat_N_trim fuel d6.1).bind fun r7 =>
                        (f_nat_N_short fuel r7 (IntKind.u32.wrap (IntKind.u64.wrap ((1000000000 : Int).tdiv (IntKind.u64.wrap ((IntKind.u64.wrap (a1.getD ((IntKind.i64.wrap ((a1.length : Int) - 1)).toNat) 0)) + 1)))))).bind fun r8 =>
                        (f_nat_N_trim fuel d6.2.1).bind fun r9 =>
                        some (r9, r8.1)
                      | some (.ret d6) =>
                        none
                    else none
                  else none
                else none
              | some (.ret d5) =>
                none
            else none
        else none
      else none
theorem l_nat_N_Div_7_step (m : Nat) (d : dens l_nat_N_Div_7H.tys) : l_nat_N_Div_7L.f (m + 1) d = round E_nat_N_Div LL_nat_N_Div m [27] 171 (loopN (bodyOf Tryd.f27) 0) l_nat_N_Div_7L (l_nat_N_Div_7L.f m) d := by kernel_rfl
theorem l_nat_N_Div_16_step (m : Nat) (d : dens l_nat_N_Div_16H.tys) : l_nat_N_Div_16L.f (m + 1) d = round E_nat_N_Div LL_nat_N_Div m [27] 171 (loopN (bodyOf Tryd.f27) 2) l_nat_N_Div_16L (l_nat_N_Div_16L.f m) d := by kernel_rfl
theorem l_nat_N_minus__nat_N_Div_4_step (m : Nat) (d : dens l_nat_N_minus__nat_N_Div_4H.tys) : l_nat_N_minus__nat_N_Div_4L.f (m + 1) d = round E_nat_N_Div LL_nat_N_Div m [36, 27] 62 (loopN (bodyOf Tryd.f36) 0) l_nat_N_minus__nat_N_Div_4L (l_nat_N_minus__nat_N_Div_4L.f m) d := by kernel_rfl
theorem l_nat_N_plus__nat_N_Div_2_step (m : Nat) (d : dens l_nat_N_plus__nat_N_Div_2H.tys) : l_nat_N_plus__nat_N_Div_2L.f (m + 1) d = round E_nat_N_Div LL_nat_N_Div m [37, 27] 42 (loopN (bodyOf Tryd.f37) 0) l_nat_N_plus__nat_N_Div_2L (l_nat_N_plus__nat_N_Div_2L.f m) d := by kernel_rfl
theorem l_nat_N_Div_12_step (m : Nat) (d : dens l_nat_N_Div_12H.tys) : l_nat_N_Div_12L.f (m + 1) d = round E_nat_N_Div LL_nat_N_Div m [27] 171 (loopN (bodyOf Tryd.f27) 1) l_nat_N_Div_12L (l_nat_N_Div_12L.f m) d := by kernel_rfl
theorem f_nat_N_Div_run (k : Nat) (x : denL [.slice (.int .u32), .slice (.int .u32)]) : runFn E_nat_N_Div LL_nat_N_Div k 27 Tryd.f27 [.slice (.int .u32), .slice (.int .u32)] [.imm (.slice (.int .u32)), .imm (.slice (.int .u32))] x = f_nat_N_Div k x.1 x.2 := by kernel_rfl
noncomputable def S_nat_N_Div : Vm.Spec := { ps := [.slice (.int .u32), .slice (.int .u32)], rs := [.imm (.slice (.int .u32)), .imm (.slice (.int .u32))], f := fun x => f_nat_N_Div fuel x.1 x.2 }
theorem f_nat_N_Div_holds : Vm.Spec.holds Tryd.prog 27 S_nat_N_Div := by
  have hB : BodiesOk Tryd.prog E_nat_N_Div := bodies_ok (by exact ⟨by kernel_rfl, by kernel_rfl, by kernel_rfl, by kernel_rfl, trivial⟩)
  have hBS : BodiesStepped E_nat_N_Div LL_nat_N_Div := by
    refine bodies_stepped ?_
    exact ⟨(stepped_paths [[27]] (by exact ⟨stepped_of (ls := [(4, l_nat_N_minus__nat_N_Div_4L)]) rfl rfl ⟨by kernel_rfl, fun _ => rfl, l_nat_N_minus__nat_N_Div_4_step, stepsI_end (by kernel_rfl)⟩,  trivial⟩) rfl), (stepped_paths [[27]] (by exact ⟨stepped_of (ls := [(2, l_nat_N_plus__nat_N_Div_2L)]) rfl rfl ⟨by kernel_rfl, fun _ => rfl, l_nat_N_plus__nat_N_Div_2_step, stepsI_end (by kernel_rfl)⟩,  trivial⟩) rfl),  trivial⟩
  have hS : SpecsOk Tryd.prog E_nat_N_Div := specs_ok (by exact ⟨⟨by kernel_rfl, f_nat_N_Mul_holds⟩, ⟨by kernel_rfl, f_nat_N_Cmp_holds⟩, ⟨by kernel_rfl, f_nat_N_trim_holds⟩, ⟨by kernel_rfl, f_nat_N_short_holds⟩, trivial⟩)
  have hE : EOk Tryd.prog E_nat_N_Div := eok_te ok
  exact fn_sound (L := LL_nat_N_Div) hE hS hB (draws_ok hE hS (by kernel_rfl)) hBS (fn := Tryd.f27) (by kernel_rfl) (c := bodyOf Tryd.f27) (by kernel_rfl) (stepped_of (ls := [(7, l_nat_N_Div_7L), (12, l_nat_N_Div_12L), (16, l_nat_N_Div_16L)]) rfl rfl ⟨by kernel_rfl, fun _ => rfl, l_nat_N_Div_7_step, by kernel_rfl, fun _ => rfl, l_nat_N_Div_12_step, by kernel_rfl, fun _ => rfl, l_nat_N_Div_16_step, stepsI_end (by kernel_rfl)⟩) fun x r h => ⟨fuel, (f_nat_N_Div_run fuel x).trans h⟩

/-! (gamehall/nat.N).Gcd -/
noncomputable def E_nat_N_Gcd : Env := { te := te, spec := [(27, S_nat_N_Div)], body := [] }
def l_nat_N_Gcd_1H : Ann := { slots := [(0, .one (.val (.slice (.int .u32)))), (1, .one (.val (.slice (.int .u32))))], objs := [] }
def l_nat_N_Gcd_1X : Ann := { slots := [(0, .one (.val (.slice (.int .u32))))], objs := [] }
def l_nat_N_Gcd_1R : Ann := { slots := [], objs := [] }
def l_nat_N_Gcd_1 : Nat → List Int → List Int → Option (LR l_nat_N_Gcd_1X l_nat_N_Gcd_1R)
  | 0, _, _ => none
  | m + 1, s0, s1 =>
    if decide ((s1.length : Int) > 0) = true then
      (f_nat_N_Div fuel s0 s1).bind fun r1 =>
      l_nat_N_Gcd_1 m s1 r1.2
    else
      some (.exit (s0, ()))
def l_nat_N_Gcd_1L : LSpec := { h := l_nat_N_Gcd_1H, x := l_nat_N_Gcd_1X, r := l_nat_N_Gcd_1R, xid := 0, rt := false, pins := [], f := fun k d => l_nat_N_Gcd_1 k d.1 d.2.1 }
def LL_nat_N_Gcd : Loops := [([29], [(1, l_nat_N_Gcd_1L)])]
def f_nat_N_Gcd (k : Nat) (a0 : List Int) (a1 : List Int) : Option (List Int) :=
  match l_nat_N_Gcd_1 k a0 a1 with
  | none => none
  | some (.exit d1) =>
    some d1.1
  | some (.ret d1) =>
    none
theorem l_nat_N_Gcd_1_step (m : Nat) (d : dens l_nat_N_Gcd_1H.tys) : l_nat_N_Gcd_1L.f (m + 1) d = round E_nat_N_Gcd LL_nat_N_Gcd m [29] 19 (loopN (bodyOf Tryd.f29) 0) l_nat_N_Gcd_1L (l_nat_N_Gcd_1L.f m) d := by kernel_rfl
theorem f_nat_N_Gcd_run (k : Nat) (x : denL [.slice (.int .u32), .slice (.int .u32)]) : runFn E_nat_N_Gcd LL_nat_N_Gcd k 29 Tryd.f29 [.slice (.int .u32), .slice (.int .u32)] [.imm (.slice (.int .u32))] x = f_nat_N_Gcd k x.1 x.2 := by kernel_rfl
noncomputable def S_nat_N_Gcd : Vm.Spec := { ps := [.slice (.int .u32), .slice (.int .u32)], rs := [.imm (.slice (.int .u32))], f := fun x => f_nat_N_Gcd fuel x.1 x.2 }
theorem f_nat_N_Gcd_holds : Vm.Spec.holds Tryd.prog 29 S_nat_N_Gcd := by
  have hB : BodiesOk Tryd.prog E_nat_N_Gcd := bodies_none rfl
  have hBS : BodiesStepped E_nat_N_Gcd LL_nat_N_Gcd := bodies_stepped_none rfl
  have hS : SpecsOk Tryd.prog E_nat_N_Gcd := specs_ok (by exact ⟨⟨by kernel_rfl, f_nat_N_Div_holds⟩, trivial⟩)
  have hE : EOk Tryd.prog E_nat_N_Gcd := eok_te ok
  exact fn_sound (L := LL_nat_N_Gcd) hE hS hB (draws_ok hE hS (by kernel_rfl)) hBS (fn := Tryd.f29) (by kernel_rfl) (c := bodyOf Tryd.f29) (by kernel_rfl) (stepped_of (ls := [(1, l_nat_N_Gcd_1L)]) rfl rfl ⟨by kernel_rfl, fun _ => rfl, l_nat_N_Gcd_1_step, stepsI_end (by kernel_rfl)⟩) fun x r h => ⟨fuel, (f_nat_N_Gcd_run fuel x).trans h⟩

/-! gamehall/nat.both -/
noncomputable def E_nat_both : Env := { te := te, spec := [(8, S_nat_Check), (32, S_nat_Read)], body := [] }
def LL_nat_both : Loops := []
def f_nat_both (k : Nat) (a0 : ByteArray) (a1 : ByteArray) : Option (List Int × List Int × Int) :=
  (f_nat_Check fuel a0).bind fun r1 =>
  if (r1 != 0) = true then
    some ([], [], r1)
  else
    (f_nat_Check fuel a1).bind fun r2 =>
    if (r2 != 0) = true then
      some ([], [], r2)
    else
      (f_nat_Read fuel a0).bind fun r3 =>
      (f_nat_Read fuel a1).bind fun r4 =>
      some (r3, r4, 0)
theorem f_nat_both_run (k : Nat) (x : denL [.str, .str]) : runFn E_nat_both LL_nat_both k 19 Tryd.f19 [.str, .str] [.fresh (.int .u32), .fresh (.int .u32), .imm (.int .i64)] x = f_nat_both k x.1 x.2 := by kernel_rfl
noncomputable def S_nat_both : Vm.Spec := { ps := [.str, .str], rs := [.fresh (.int .u32), .fresh (.int .u32), .imm (.int .i64)], f := fun x => f_nat_both fuel x.1 x.2 }
theorem f_nat_both_holds : Vm.Spec.holds Tryd.prog 19 S_nat_both := by
  have hB : BodiesOk Tryd.prog E_nat_both := bodies_none rfl
  have hBS : BodiesStepped E_nat_both LL_nat_both := bodies_stepped_none rfl
  have hS : SpecsOk Tryd.prog E_nat_both := specs_ok (by exact ⟨⟨by kernel_rfl, f_nat_Check_holds⟩, ⟨by kernel_rfl, f_nat_Read_holds⟩, trivial⟩)
  have hE : EOk Tryd.prog E_nat_both := eok_te ok
  exact fn_sound (L := LL_nat_both) hE hS hB (draws_ok hE hS (by kernel_rfl)) hBS (fn := Tryd.f19) (by kernel_rfl) (c := bodyOf Tryd.f19) (by kernel_rfl) (stepped_none rfl) fun x r h => ⟨fuel, (f_nat_both_run fuel x).trans h⟩

/-! gamehall/nat.told -/
noncomputable def E_nat_told : Env := { te := te, spec := [(28, S_nat_N_Text)], body := [] }
def LL_nat_told : Loops := []
def f_nat_told (k : Nat) (a0 : List Int) : Option (ByteArray × Int) :=
  (f_nat_N_Text fuel a0).bind fun r1 =>
  if decide ((r1.size : Int) > 2000) = true then
    some ((⟨#[]⟩ : ByteArray), 2)
  else
    some (r1, 0)
theorem f_nat_told_run (k : Nat) (x : denL [.slice (.int .u32)]) : runFn E_nat_told LL_nat_told k 20 Tryd.f20 [.slice (.int .u32)] [.imm .str, .imm (.int .i64)] x = f_nat_told k x := by kernel_rfl
noncomputable def S_nat_told : Vm.Spec := { ps := [.slice (.int .u32)], rs := [.imm .str, .imm (.int .i64)], f := fun x => f_nat_told fuel x }
theorem f_nat_told_holds : Vm.Spec.holds Tryd.prog 20 S_nat_told := by
  have hB : BodiesOk Tryd.prog E_nat_told := bodies_none rfl
  have hBS : BodiesStepped E_nat_told LL_nat_told := bodies_stepped_none rfl
  have hS : SpecsOk Tryd.prog E_nat_told := specs_ok (by exact ⟨⟨by kernel_rfl, f_nat_N_Text_holds⟩, trivial⟩)
  have hE : EOk Tryd.prog E_nat_told := eok_te ok
  exact fn_sound (L := LL_nat_told) hE hS hB (draws_ok hE hS (by kernel_rfl)) hBS (fn := Tryd.f20) (by kernel_rfl) (c := bodyOf Tryd.f20) (by kernel_rfl) (stepped_none rfl) fun x r h => ⟨fuel, (f_nat_told_run fuel x).trans h⟩

/-! gamehall/nat.Add -/
noncomputable def E_nat_Add : Env := { te := te, spec := [(19, S_nat_both), (20, S_nat_told), (21, S_nat_N_Add)], body := [] }
def LL_nat_Add : Loops := []
def f_nat_Add (k : Nat) (a0 : ByteArray) (a1 : ByteArray) : Option (ByteArray × Int) :=
  (f_nat_both fuel a0 a1).bind fun r1 =>
  if (r1.2.2 != 0) = true then
    some ((⟨#[]⟩ : ByteArray), r1.2.2)
  else
    (f_nat_N_Add fuel r1.1 r1.2.1).bind fun r2 =>
    (f_nat_told fuel r2).bind fun r3 =>
    some (r3.1, r3.2)
theorem f_nat_Add_run (k : Nat) (x : denL [.str, .str]) : runFn E_nat_Add LL_nat_Add k 9 Tryd.f9 [.str, .str] [.imm .str, .imm (.int .i64)] x = f_nat_Add k x.1 x.2 := by kernel_rfl
noncomputable def S_nat_Add : Vm.Spec := { ps := [.str, .str], rs := [.imm .str, .imm (.int .i64)], f := fun x => f_nat_Add fuel x.1 x.2 }
theorem f_nat_Add_holds : Vm.Spec.holds Tryd.prog 9 S_nat_Add := by
  have hB : BodiesOk Tryd.prog E_nat_Add := bodies_none rfl
  have hBS : BodiesStepped E_nat_Add LL_nat_Add := bodies_stepped_none rfl
  have hS : SpecsOk Tryd.prog E_nat_Add := specs_ok (by exact ⟨⟨by kernel_rfl, f_nat_both_holds⟩, ⟨by kernel_rfl, f_nat_told_holds⟩, ⟨by kernel_rfl, f_nat_N_Add_holds⟩, trivial⟩)
  have hE : EOk Tryd.prog E_nat_Add := eok_te ok
  exact fn_sound (L := LL_nat_Add) hE hS hB (draws_ok hE hS (by kernel_rfl)) hBS (fn := Tryd.f9) (by kernel_rfl) (c := bodyOf Tryd.f9) (by kernel_rfl) (stepped_none rfl) fun x r h => ⟨fuel, (f_nat_Add_run fuel x).trans h⟩

/-! gamehall/nat.Mul -/
noncomputable def E_nat_Mul : Env := { te := te, spec := [(19, S_nat_both), (20, S_nat_told), (22, S_nat_N_Mul)], body := [] }
def LL_nat_Mul : Loops := []
def f_nat_Mul (k : Nat) (a0 : ByteArray) (a1 : ByteArray) : Option (ByteArray × Int) :=
  (f_nat_both fuel a0 a1).bind fun r1 =>
  if (r1.2.2 != 0) = true then
    some ((⟨#[]⟩ : ByteArray), r1.2.2)
  else
    (f_nat_N_Mul fuel r1.1 r1.2.1).bind fun r2 =>
    (f_nat_told fuel r2).bind fun r3 =>
    some (r3.1, r3.2)
theorem f_nat_Mul_run (k : Nat) (x : denL [.str, .str]) : runFn E_nat_Mul LL_nat_Mul k 10 Tryd.f10 [.str, .str] [.imm .str, .imm (.int .i64)] x = f_nat_Mul k x.1 x.2 := by kernel_rfl
noncomputable def S_nat_Mul : Vm.Spec := { ps := [.str, .str], rs := [.imm .str, .imm (.int .i64)], f := fun x => f_nat_Mul fuel x.1 x.2 }
theorem f_nat_Mul_holds : Vm.Spec.holds Tryd.prog 10 S_nat_Mul := by
  have hB : BodiesOk Tryd.prog E_nat_Mul := bodies_none rfl
  have hBS : BodiesStepped E_nat_Mul LL_nat_Mul := bodies_stepped_none rfl
  have hS : SpecsOk Tryd.prog E_nat_Mul := specs_ok (by exact ⟨⟨by kernel_rfl, f_nat_both_holds⟩, ⟨by kernel_rfl, f_nat_told_holds⟩, ⟨by kernel_rfl, f_nat_N_Mul_holds⟩, trivial⟩)
  have hE : EOk Tryd.prog E_nat_Mul := eok_te ok
  exact fn_sound (L := LL_nat_Mul) hE hS hB (draws_ok hE hS (by kernel_rfl)) hBS (fn := Tryd.f10) (by kernel_rfl) (c := bodyOf Tryd.f10) (by kernel_rfl) (stepped_none rfl) fun x r h => ⟨fuel, (f_nat_Mul_run fuel x).trans h⟩

/-! gamehall/nat.Sub -/
noncomputable def E_nat_Sub : Env := { te := te, spec := [(19, S_nat_both), (20, S_nat_told), (23, S_nat_N_Cmp), (24, S_nat_N_Sub)], body := [] }
def LL_nat_Sub : Loops := []
def f_nat_Sub (k : Nat) (a0 : ByteArray) (a1 : ByteArray) : Option (ByteArray × Int) :=
  (f_nat_both fuel a0 a1).bind fun r1 =>
  if (r1.2.2 != 0) = true then
    some ((⟨#[]⟩ : ByteArray), r1.2.2)
  else
    (f_nat_N_Cmp fuel r1.1 r1.2.1).bind fun r2 =>
    if decide (r2 < 0) = true then
      some ((⟨#[]⟩ : ByteArray), 4)
    else
      (f_nat_N_Sub fuel r1.1 r1.2.1).bind fun r3 =>
      (f_nat_told fuel r3).bind fun r4 =>
      some (r4.1, r4.2)
theorem f_nat_Sub_run (k : Nat) (x : denL [.str, .str]) : runFn E_nat_Sub LL_nat_Sub k 11 Tryd.f11 [.str, .str] [.imm .str, .imm (.int .i64)] x = f_nat_Sub k x.1 x.2 := by kernel_rfl
noncomputable def S_nat_Sub : Vm.Spec := { ps := [.str, .str], rs := [.imm .str, .imm (.int .i64)], f := fun x => f_nat_Sub fuel x.1 x.2 }
theorem f_nat_Sub_holds : Vm.Spec.holds Tryd.prog 11 S_nat_Sub := by
  have hB : BodiesOk Tryd.prog E_nat_Sub := bodies_none rfl
  have hBS : BodiesStepped E_nat_Sub LL_nat_Sub := bodies_stepped_none rfl
  have hS : SpecsOk Tryd.prog E_nat_Sub := specs_ok (by exact ⟨⟨by kernel_rfl, f_nat_both_holds⟩, ⟨by kernel_rfl, f_nat_told_holds⟩, ⟨by kernel_rfl, f_nat_N_Cmp_holds⟩, ⟨by kernel_rfl, f_nat_N_Sub_holds⟩, trivial⟩)
  have hE : EOk Tryd.prog E_nat_Sub := eok_te ok
  exact fn_sound (L := LL_nat_Sub) hE hS hB (draws_ok hE hS (by kernel_rfl)) hBS (fn := Tryd.f11) (by kernel_rfl) (c := bodyOf Tryd.f11) (by kernel_rfl) (stepped_none rfl) fun x r h => ⟨fuel, (f_nat_Sub_run fuel x).trans h⟩

/-! gamehall/nat.Divide -/
noncomputable def E_nat_Divide : Env := { te := te, spec := [(19, S_nat_both), (27, S_nat_N_Div), (28, S_nat_N_Text)], body := [] }
def LL_nat_Divide : Loops := []
def f_nat_Divide (k : Nat) (a0 : ByteArray) (a1 : ByteArray) : Option (ByteArray × ByteArray × Int) :=
  (f_nat_both fuel a0 a1).bind fun r1 =>
  if (r1.2.2 != 0) = true then
    some ((⟨#[]⟩ : ByteArray), (⟨#[]⟩ : ByteArray), r1.2.2)
  else
    if ((r1.2.1.length : Int) == 0) = true then
      some ((⟨#[]⟩ : ByteArray), (⟨#[]⟩ : ByteArray), 18)
    else
      (f_nat_N_Div fuel r1.1 r1.2.1).bind fun r2 =>
      (f_nat_N_Text fuel r2.1).bind fun r3 =>
      (f_nat_N_Text fuel r2.2).bind fun r4 =>
      some (r3, r4, 0)
theorem f_nat_Divide_run (k : Nat) (x : denL [.str, .str]) : runFn E_nat_Divide LL_nat_Divide k 13 Tryd.f13 [.str, .str] [.imm .str, .imm .str, .imm (.int .i64)] x = f_nat_Divide k x.1 x.2 := by kernel_rfl
noncomputable def S_nat_Divide : Vm.Spec := { ps := [.str, .str], rs := [.imm .str, .imm .str, .imm (.int .i64)], f := fun x => f_nat_Divide fuel x.1 x.2 }
theorem f_nat_Divide_holds : Vm.Spec.holds Tryd.prog 13 S_nat_Divide := by
  have hB : BodiesOk Tryd.prog E_nat_Divide := bodies_none rfl
  have hBS : BodiesStepped E_nat_Divide LL_nat_Divide := bodies_stepped_none rfl
  have hS : SpecsOk Tryd.prog E_nat_Divide := specs_ok (by exact ⟨⟨by kernel_rfl, f_nat_both_holds⟩, ⟨by kernel_rfl, f_nat_N_Div_holds⟩, ⟨by kernel_rfl, f_nat_N_Text_holds⟩, trivial⟩)
  have hE : EOk Tryd.prog E_nat_Divide := eok_te ok
  exact fn_sound (L := LL_nat_Divide) hE hS hB (draws_ok hE hS (by kernel_rfl)) hBS (fn := Tryd.f13) (by kernel_rfl) (c := bodyOf Tryd.f13) (by kernel_rfl) (stepped_none rfl) fun x r h => ⟨fuel, (f_nat_Divide_run fuel x).trans h⟩

/-! gamehall/nat.Compare -/
noncomputable def E_nat_Compare : Env := { te := te, spec := [(19, S_nat_both), (23, S_nat_N_Cmp)], body := [] }
def LL_nat_Compare : Loops := []
def f_nat_Compare (k : Nat) (a0 : ByteArray) (a1 : ByteArray) : Option (Int × Int) :=
  (f_nat_both fuel a0 a1).bind fun r1 =>
  if (r1.2.2 != 0) = true then
    some (0, r1.2.2)
  else
    (f_nat_N_Cmp fuel r1.1 r1.2.1).bind fun r2 =>
    some (r2, 0)
theorem f_nat_Compare_run (k : Nat) (x : denL [.str, .str]) : runFn E_nat_Compare LL_nat_Compare k 14 Tryd.f14 [.str, .str] [.imm (.int .i64), .imm (.int .i64)] x = f_nat_Compare k x.1 x.2 := by kernel_rfl
noncomputable def S_nat_Compare : Vm.Spec := { ps := [.str, .str], rs := [.imm (.int .i64), .imm (.int .i64)], f := fun x => f_nat_Compare fuel x.1 x.2 }
theorem f_nat_Compare_holds : Vm.Spec.holds Tryd.prog 14 S_nat_Compare := by
  have hB : BodiesOk Tryd.prog E_nat_Compare := bodies_none rfl
  have hBS : BodiesStepped E_nat_Compare LL_nat_Compare := bodies_stepped_none rfl
  have hS : SpecsOk Tryd.prog E_nat_Compare := specs_ok (by exact ⟨⟨by kernel_rfl, f_nat_both_holds⟩, ⟨by kernel_rfl, f_nat_N_Cmp_holds⟩, trivial⟩)
  have hE : EOk Tryd.prog E_nat_Compare := eok_te ok
  exact fn_sound (L := LL_nat_Compare) hE hS hB (draws_ok hE hS (by kernel_rfl)) hBS (fn := Tryd.f14) (by kernel_rfl) (c := bodyOf Tryd.f14) (by kernel_rfl) (stepped_none rfl) fun x r h => ⟨fuel, (f_nat_Compare_run fuel x).trans h⟩

/-! gamehall/nat.Gcd -/
noncomputable def E_nat_Gcd : Env := { te := te, spec := [(19, S_nat_both), (20, S_nat_told), (29, S_nat_N_Gcd)], body := [] }
def LL_nat_Gcd : Loops := []
def f_nat_Gcd (k : Nat) (a0 : ByteArray) (a1 : ByteArray) : Option (ByteArray × Int) :=
  (f_nat_both fuel a0 a1).bind fun r1 =>
  if (r1.2.2 != 0) = true then
    some ((⟨#[]⟩ : ByteArray), r1.2.2)
  else
    (f_nat_N_Gcd fuel r1.1 r1.2.1).bind fun r2 =>
    (f_nat_told fuel r2).bind fun r3 =>
    some (r3.1, r3.2)
theorem f_nat_Gcd_run (k : Nat) (x : denL [.str, .str]) : runFn E_nat_Gcd LL_nat_Gcd k 15 Tryd.f15 [.str, .str] [.imm .str, .imm (.int .i64)] x = f_nat_Gcd k x.1 x.2 := by kernel_rfl
noncomputable def S_nat_Gcd : Vm.Spec := { ps := [.str, .str], rs := [.imm .str, .imm (.int .i64)], f := fun x => f_nat_Gcd fuel x.1 x.2 }
theorem f_nat_Gcd_holds : Vm.Spec.holds Tryd.prog 15 S_nat_Gcd := by
  have hB : BodiesOk Tryd.prog E_nat_Gcd := bodies_none rfl
  have hBS : BodiesStepped E_nat_Gcd LL_nat_Gcd := bodies_stepped_none rfl
  have hS : SpecsOk Tryd.prog E_nat_Gcd := specs_ok (by exact ⟨⟨by kernel_rfl, f_nat_both_holds⟩, ⟨by kernel_rfl, f_nat_told_holds⟩, ⟨by kernel_rfl, f_nat_N_Gcd_holds⟩, trivial⟩)
  have hE : EOk Tryd.prog E_nat_Gcd := eok_te ok
  exact fn_sound (L := LL_nat_Gcd) hE hS hB (draws_ok hE hS (by kernel_rfl)) hBS (fn := Tryd.f15) (by kernel_rfl) (c := bodyOf Tryd.f15) (by kernel_rfl) (stepped_none rfl) fun x r h => ⟨fuel, (f_nat_Gcd_run fuel x).trans h⟩

/-! gamehall/gamehallkeep2.pick -/
noncomputable def E_gamehallkeep2_pick : Env := { te := te, spec := [], body := [] }
def LL_gamehallkeep2_pick : Loops := []
def f_gamehallkeep2_pick (k : Nat) (a0 : Int) (a1 : Int) : Option (Int) :=
  if IntKind.u64.wrap (a1) = 0 then
    none
  else
    some (IntKind.i64.wrap ((IntKind.u64.wrap (a0)).tmod (IntKind.u64.wrap (a1))))
theorem f_gamehallkeep2_pick_run (k : Nat) (x : denL [.int .i64, .int .i64]) : runFn E_gamehallkeep2_pick LL_gamehallkeep2_pick k 16 Tryd.f16 [.int .i64, .int .i64] [.imm (.int .i64)] x = f_gamehallkeep2_pick k x.1 x.2 := by kernel_rfl
noncomputable def S_gamehallkeep2_pick : Vm.Spec := { ps := [.int .i64, .int .i64], rs := [.imm (.int .i64)], f := fun x => f_gamehallkeep2_pick fuel x.1 x.2 }
theorem f_gamehallkeep2_pick_holds : Vm.Spec.holds Tryd.prog 16 S_gamehallkeep2_pick := by
  have hB : BodiesOk Tryd.prog E_gamehallkeep2_pick := bodies_none rfl
  have hBS : BodiesStepped E_gamehallkeep2_pick LL_gamehallkeep2_pick := bodies_stepped_none rfl
  have hS : SpecsOk Tryd.prog E_gamehallkeep2_pick := specs_ok (by exact trivial)
  have hE : EOk Tryd.prog E_gamehallkeep2_pick := eok_te ok
  exact fn_sound (L := LL_gamehallkeep2_pick) hE hS hB (draws_ok hE hS (by kernel_rfl)) hBS (fn := Tryd.f16) (by kernel_rfl) (c := bodyOf Tryd.f16) (by kernel_rfl) (stepped_none rfl) fun x r h => ⟨fuel, (f_gamehallkeep2_pick_run fuel x).trans h⟩

/-! gamehall/nat.Binomial -/
noncomputable def E_nat_Binomial : Env := { te := te, spec := [(20, S_nat_told), (22, S_nat_N_Mul), (27, S_nat_N_Div), (30, S_nat_Of)], body := [] }
def l_nat_Binomial_5H : Ann := { slots := [(0, .one (.val (.int .i64))), (1, .one (.val (.int .i64))), (6, .one (.val (.slice (.int .u32)))), (7, .one (.val (.int .i64)))], objs := [] }
def l_nat_Binomial_5X : Ann := { slots := [(6, .one (.val (.slice (.int .u32))))], objs := [] }
def l_nat_Binomial_5R : Ann := { slots := [], objs := [] }
def l_nat_Binomial_5 : Nat → Int → Int → List Int → Int → Option (LR l_nat_Binomial_5X l_nat_Binomial_5R)
  | 0, _, _, _, _ => none
  | m + 1, s0, s1, s6, s7 =>
    if decide (s7 ≤ (if IntKind.i64.wrap (s0 - s1) < s1 then IntKind.i64.wrap (s0 - s1) else s1)) = true then
      (f_nat_Of fuel (IntKind.i64.wrap ((IntKind.i64.wrap (s0 - s7)) + 1))).bind fun r1 =>
      (f_nat_N_Mul fuel s6 r1).bind fun r2 =>
      (f_nat_Of fuel s7).bind fun r3 =>
      (f_nat_N_Div fuel r2 r3).bind fun r4 =>
      l_nat_Binomial_5 m s0 s1 r4.1 (IntKind.i64.wrap (s7 + 1))
    else
      some (.exit (s6, ()))
def l_nat_Binomial_5L : LSpec := { h := l_nat_Binomial_5H, x := l_nat_Binomial_5X, r := l_nat_Binomial_5R, xid := 0, rt := false, pins := [], f := fun k d => l_nat_Binomial_5 k d.1 d.2.1 d.2.2.1 d.2.2.2.1 }
def LL_nat_Binomial : Loops := [([17], [(5, l_nat_Binomial_5L)])]
def f_nat_Binomial (k : Nat) (a0 : Int) (a1 : Int) : Option (ByteArray × Int) :=
  if decide (a0 < 0) = false then
    if decide (a0 > 1000) = false then
      if decide (a1 < 0) = false then
        if decide (a1 > a0) = true then
          some ((⟨#[]⟩ : ByteArray), 4)
        else
          (f_nat_Of fuel 1).bind fun r1 =>
          match l_nat_Binomial_5 k a0 a1 r1 1 with
          | none => none
          | some (.exit d2) =>
            (f_nat_told fuel d2.1).bind fun r3 =>
            some (r3.1, r3.2)
          | some (.ret d2) =>
            none
      else
        some ((⟨#[]⟩ : ByteArray), 4)
    else
      some ((⟨#[]⟩ : ByteArray), 4)
  else
    some ((⟨#[]⟩ : ByteArray), 4)
theorem l_nat_Binomial_5_step (m : Nat) (d : dens l_nat_Binomial_5H.tys) : l_nat_Binomial_5L.f (m + 1) d = round E_nat_Binomial LL_nat_Binomial m [17] 50 (loopN (bodyOf Tryd.f17) 0) l_nat_Binomial_5L (l_nat_Binomial_5L.f m) d := by kernel_rfl
theorem f_nat_Binomial_run (k : Nat) (x : denL [.int .i64, .int .i64]) : runFn E_nat_Binomial LL_nat_Binomial k 17 Tryd.f17 [.int .i64, .int .i64] [.imm .str, .imm (.int .i64)] x = f_nat_Binomial k x.1 x.2 := by kernel_rfl
noncomputable def S_nat_Binomial : Vm.Spec := { ps := [.int .i64, .int .i64], rs := [.imm .str, .imm (.int .i64)], f := fun x => f_nat_Binomial fuel x.1 x.2 }
theorem f_nat_Binomial_holds : Vm.Spec.holds Tryd.prog 17 S_nat_Binomial := by
  have hB : BodiesOk Tryd.prog E_nat_Binomial := bodies_none rfl
  have hBS : BodiesStepped E_nat_Binomial LL_nat_Binomial := bodies_stepped_none rfl
  have hS : SpecsOk Tryd.prog E_nat_Binomial := specs_ok (by exact ⟨⟨by kernel_rfl, f_nat_told_holds⟩, ⟨by kernel_rfl, f_nat_N_Mul_holds⟩, ⟨by kernel_rfl, f_nat_N_Div_holds⟩, ⟨by kernel_rfl, f_nat_Of_holds⟩, trivial⟩)
  have hE : EOk Tryd.prog E_nat_Binomial := eok_te ok
  exact fn_sound (L := LL_nat_Binomial) hE hS hB (draws_ok hE hS (by kernel_rfl)) hBS (fn := Tryd.f17) (by kernel_rfl) (c := bodyOf Tryd.f17) (by kernel_rfl) (stepped_of (ls := [(5, l_nat_Binomial_5L)]) rfl rfl ⟨by kernel_rfl, fun _ => rfl, l_nat_Binomial_5_step, stepsI_end (by kernel_rfl)⟩) fun x r h => ⟨fuel, (f_nat_Binomial_run fuel x).trans h⟩

/-! gamehall/nat.Factorial -/
noncomputable def E_nat_Factorial : Env := { te := te, spec := [(20, S_nat_told), (22, S_nat_N_Mul), (30, S_nat_Of), (31, S_nat_N_Digits)], body := [] }
def l_nat_Factorial_5H : Ann := { slots := [(0, .one (.val (.int .i64))), (4, .one (.own 48 (.int .u32))), (5, .one (.val (.int .i64)))], objs := [(48, .buf (.int .u32))] }
def l_nat_Factorial_5X : Ann := { slots := [(4, .one (.own 48 (.int .u32)))], objs := [(48, .buf (.int .u32))] }
def l_nat_Factorial_5R : Ann := { slots := [(2, .one (.val .str)), (3, .one (.val (.int .i64)))], objs := [] }
def l_nat_Factorial_5 : Nat → Int → Int → List Int → Option (LR l_nat_Factorial_5X l_nat_Factorial_5R)
  | 0, _, _, _ => none
  | m + 1, s0, s5, b48 =>
    if decide (s5 ≤ s0) = true then
      (f_nat_Of fuel s5).bind fun r1 =>
      (f_nat_N_Mul fuel b48 r1).bind fun r2 =>
      (f_nat_N_Digits fuel r2).bind fun r3 =>
      if decide (r3 > 2000) = true then
        some (.ret ((⟨#[]⟩ : ByteArray), 2, ()))
      else
        l_nat_Factorial_5 m s0 (IntKind.i64.wrap (s5 + 1)) r2
    else
      some (.exit (b48, ()))
def l_nat_Factorial_5L : LSpec := { h := l_nat_Factorial_5H, x := l_nat_Factorial_5X, r := l_nat_Factorial_5R, xid := 0, rt := true, pins := [], f := fun k d => l_nat_Factorial_5 k d.1 d.2.1 d.2.2.1 }
def LL_nat_Factorial : Loops := [([18], [(5, l_nat_Factorial_5L)])]
def f_nat_Factorial (k : Nat) (a0 : Int) : Option (ByteArray × Int) :=
  if decide (a0 < 0) = false then
    if decide (a0 > 1000) = true then
      some ((⟨#[]⟩ : ByteArray), 4)
    else
      (f_nat_Of fuel 1).bind fun r1 =>
      match l_nat_Factorial_5 k a0 2 r1 with
      | none => none
      | some (.exit d2) =>
        (f_nat_told fuel d2.1).bind fun r3 =>
        some (r3.1, r3.2)
      | some (.ret d2) =>
        some (d2.1, d2.2.1)
  else
    some ((⟨#[]⟩ : ByteArray), 4)
theorem l_nat_Factorial_5_step (m : Nat) (d : dens l_nat_Factorial_5H.tys) : l_nat_Factorial_5L.f (m + 1) d = round E_nat_Factorial LL_nat_Factorial m [18] 29 (loopN (bodyOf Tryd.f18) 0) l_nat_Factorial_5L (l_nat_Factorial_5L.f m) d := by kernel_rfl
theorem f_nat_Factorial_run (k : Nat) (x : denL [.int .i64]) : runFn E_nat_Factorial LL_nat_Factorial k 18 Tryd.f18 [.int .i64] [.imm .str, .imm (.int .i64)] x = f_nat_Factorial k x := by kernel_rfl
noncomputable def S_nat_Factorial : Vm.Spec := { ps := [.int .i64], rs := [.imm .str, .imm (.int .i64)], f := fun x => f_nat_Factorial fuel x }
theorem f_nat_Factorial_holds : Vm.Spec.holds Tryd.prog 18 S_nat_Factorial := by
  have hB : BodiesOk Tryd.prog E_nat_Factorial := bodies_none rfl
  have hBS : BodiesStepped E_nat_Factorial LL_nat_Factorial := bodies_stepped_none rfl
  have hS : SpecsOk Tryd.prog E_nat_Factorial := specs_ok (by exact ⟨⟨by kernel_rfl, f_nat_told_holds⟩, ⟨by kernel_rfl, f_nat_N_Mul_holds⟩, ⟨by kernel_rfl, f_nat_Of_holds⟩, ⟨by kernel_rfl, f_nat_N_Digits_holds⟩, trivial⟩)
  have hE : EOk Tryd.prog E_nat_Factorial := eok_te ok
  exact fn_sound (L := LL_nat_Factorial) hE hS hB (draws_ok hE hS (by kernel_rfl)) hBS (fn := Tryd.f18) (by kernel_rfl) (c := bodyOf Tryd.f18) (by kernel_rfl) (stepped_of (ls := [(5, l_nat_Factorial_5L)]) rfl rfl ⟨by kernel_rfl, fun _ => rfl, l_nat_Factorial_5_step, stepsI_end (by kernel_rfl)⟩) fun x r h => ⟨fuel, (f_nat_Factorial_run fuel x).trans h⟩

/-! gamehall/gamehallkeep2.natFact -/
noncomputable def E_gamehallkeep2_natFact : Env := { te := te, spec := [(8, S_nat_Check), (9, S_nat_Add), (10, S_nat_Mul), (11, S_nat_Sub), (12, S_gamehallkeep2_fine), (13, S_nat_Divide), (14, S_nat_Compare), (15, S_nat_Gcd), (17, S_nat_Binomial), (18, S_nat_Factorial)], body := [] }
def LL_gamehallkeep2_natFact : Loops := []
def f_gamehallkeep2_natFact (k : Nat) : Option (Bool) :=
  (f_nat_Add fuel (⟨#[57, 57, 57, 57, 57, 57, 57, 57, 57]⟩ : ByteArray) (⟨#[49]⟩ : ByteArray)).bind fun r1 =>
  (f_nat_Sub fuel (⟨#[49, 48, 48, 48, 48, 48, 48, 48, 48, 48]⟩ : ByteArray) (⟨#[49]⟩ : ByteArray)).bind fun r2 =>
  (f_nat_Mul fuel (⟨#[49, 48, 48, 48, 48, 48, 48, 48, 48, 48]⟩ : ByteArray) (⟨#[49, 48, 48, 48, 48, 48, 48, 48, 48, 48]⟩ : ByteArray)).bind fun r3 =>
  (f_nat_Divide fuel (⟨#[49, 55]⟩ : ByteArray) (⟨#[53]⟩ : ByteArray)).bind fun r4 =>
  (f_nat_Gcd fuel (⟨#[49, 50]⟩ : ByteArray) (⟨#[49, 56]⟩ : ByteArray)).bind fun r5 =>
  (f_nat_Compare fuel (⟨#[57]⟩ : ByteArray) (⟨#[49, 48]⟩ : ByteArray)).bind fun r6 =>
  (f_nat_Factorial fuel 5).bind fun r7 =>
  (f_nat_Binomial fuel 5 2).bind fun r8 =>
  (f_gamehallkeep2_fine fuel [r1.2, r2.2, r3.2, r4.2.2, r5.2, r6.2, r7.2, r8.2]).bind fun r9 =>
  if r9 = true then
    if ((r1.1.toList == (⟨#[49, 48, 48, 48, 48, 48, 48, 48, 48, 48]⟩ : ByteArray).toList)) = true then
      if ((r2.1.toList == (⟨#[57, 57, 57, 57, 57, 57, 57, 57, 57]⟩ : ByteArray).toList)) = true then
        if ((r3.1.toList == (⟨#[49, 48, 48, 48, 48, 48, 48, 48, 48, 48, 48, 48, 48, 48, 48, 48, 48, 48, 48]⟩ : ByteArray).toList)) = true then
          if ((r4.1.toList == (⟨#[51]⟩ : ByteArray).toList)) = true then
            if ((r4.2.1.toList == (⟨#[50]⟩ : ByteArray).toList)) = true then
              if ((r5.1.toList == (⟨#[54]⟩ : ByteArray).toList)) = true then
                if (r6.1 == (-1)) = true then
                  if ((r7.1.toList == (⟨#[49, 50, 48]⟩ : ByteArray).toList)) = true then
                    if ((r8.1.toList == (⟨#[49, 48]⟩ : ByteArray).toList)) = true then
                      (f_nat_Check fuel (⟨#[48, 48, 55]⟩ : ByteArray)).bind fun r10 =>
                      some (r10 == 5)
                    else
                      some false
                  else
                    some false
                else
                  some false
              else
                some false
            else
              some false
          else
            some false
        else
          some false
      else
        some false
    else
      some false
  else
    some false
theorem f_gamehallkeep2_natFact_run (k : Nat) (x : denL []) : runFn E_gamehallkeep2_natFact LL_gamehallkeep2_natFact k 7 Tryd.f7 [] [.imm .bool] x = f_gamehallkeep2_natFact k := by kernel_rfl
noncomputable def S_gamehallkeep2_natFact : Vm.Spec := { ps := [], rs := [.imm .bool], f := fun x => f_gamehallkeep2_natFact fuel }
theorem f_gamehallkeep2_natFact_holds : Vm.Spec.holds Tryd.prog 7 S_gamehallkeep2_natFact := by
  have hB : BodiesOk Tryd.prog E_gamehallkeep2_natFact := bodies_none rfl
  have hBS : BodiesStepped E_gamehallkeep2_natFact LL_gamehallkeep2_natFact := bodies_stepped_none rfl
  have hS : SpecsOk Tryd.prog E_gamehallkeep2_natFact := specs_ok (by exact ⟨⟨by kernel_rfl, f_nat_Check_holds⟩, ⟨by kernel_rfl, f_nat_Add_holds⟩, ⟨by kernel_rfl, f_nat_Mul_holds⟩, ⟨by kernel_rfl, f_nat_Sub_holds⟩, ⟨by kernel_rfl, f_gamehallkeep2_fine_holds⟩, ⟨by kernel_rfl, f_nat_Divide_holds⟩, ⟨by kernel_rfl, f_nat_Compare_holds⟩, ⟨by kernel_rfl, f_nat_Gcd_holds⟩, ⟨by kernel_rfl, f_nat_Binomial_holds⟩, ⟨by kernel_rfl, f_nat_Factorial_holds⟩, trivial⟩)
  have hE : EOk Tryd.prog E_gamehallkeep2_natFact := eok_te ok
  exact fn_sound (L := LL_gamehallkeep2_natFact) hE hS hB (draws_ok hE hS (by kernel_rfl)) hBS (fn := Tryd.f7) (by kernel_rfl) (c := bodyOf Tryd.f7) (by kernel_rfl) (stepped_none rfl) fun x r h => ⟨fuel, (f_gamehallkeep2_natFact_run fuel x).trans h⟩

/-! gamehall/gamehallkeep2.NatRing -/
noncomputable def E_gamehallkeep2_NatRing : Env := { te := te, spec := [(7, S_gamehallkeep2_natFact), (8, S_nat_Check), (9, S_nat_Add), (10, S_nat_Mul), (11, S_nat_Sub), (12, S_gamehallkeep2_fine)], body := [] }
def LL_gamehallkeep2_NatRing : Loops := []
def f_gamehallkeep2_NatRing (k : Nat) (a0 : ByteArray) (a1 : ByteArray) (a2 : ByteArray) : Option (Bool) :=
  (f_gamehallkeep2_natFact fuel).bind fun r1 =>
  if (!r1) = true then
    some false
  else
    if decide ((a0.size : Int) > 300) = false then
      if decide ((a1.size : Int) > 300) = false then
        if decide ((a2.size : Int) > 300) = false then
          (f_nat_Check fuel a0).bind fun r2 =>
          if (r2 != 0) = false then
            (f_nat_Check fuel a1).bind fun r3 =>
            if (r3 != 0) = false then
              (f_nat_Check fuel a2).bind fun r4 =>
              if (r4 != 0) = true then
                some true
              else
                (f_nat_Add fuel a1 a2).bind fun r5 =>
                (f_nat_Mul fuel a0 r5.1).bind fun r6 =>
                (f_nat_Mul fuel a0 a1).bind fun r7 =>
                (f_nat_Mul fuel a0 a2).bind fun r8 =>
                (f_nat_Add fuel r7.1 r8.1).bind fun r9 =>
                (f_nat_Sub fuel r5.1 a2).bind fun r10 =>
                (f_gamehallkeep2_fine fuel [r5.2, r6.2, r7.2, r8.2, r9.2, r10.2]).bind fun r11 =>
                if r11 = true then
                  if ((r6.1.toList == r9.1.toList)) = true then
                    some ((r10.1.toList == a1.toList))
                  else
                    some false
                else
                  some false
            else
              some true
          else
            some true
        else
          some true
      else
        some true
    else
      some true
theorem f_gamehallkeep2_NatRing_run (k : Nat) (x : denL [.str, .str, .str]) : runFn E_gamehallkeep2_NatRing LL_gamehallkeep2_NatRing k 3 Tryd.f3 [.str, .str, .str] [.imm .bool] x = f_gamehallkeep2_NatRing k x.1 x.2.1 x.2.2 := by kernel_rfl
noncomputable def S_gamehallkeep2_NatRing : Vm.Spec := { ps := [.str, .str, .str], rs := [.imm .bool], f := fun x => f_gamehallkeep2_NatRing fuel x.1 x.2.1 x.2.2 }
theorem f_gamehallkeep2_NatRing_holds : Vm.Spec.holds Tryd.prog 3 S_gamehallkeep2_NatRing := by
  have hB : BodiesOk Tryd.prog E_gamehallkeep2_NatRing := bodies_none rfl
  have hBS : BodiesStepped E_gamehallkeep2_NatRing LL_gamehallkeep2_NatRing := bodies_stepped_none rfl
  have hS : SpecsOk Tryd.prog E_gamehallkeep2_NatRing := specs_ok (by exact ⟨⟨by kernel_rfl, f_gamehallkeep2_natFact_holds⟩, ⟨by kernel_rfl, f_nat_Check_holds⟩, ⟨by kernel_rfl, f_nat_Add_holds⟩, ⟨by kernel_rfl, f_nat_Mul_holds⟩, ⟨by kernel_rfl, f_nat_Sub_holds⟩, ⟨by kernel_rfl, f_gamehallkeep2_fine_holds⟩, trivial⟩)
  have hE : EOk Tryd.prog E_gamehallkeep2_NatRing := eok_te ok
  exact fn_sound (L := LL_gamehallkeep2_NatRing) hE hS hB (draws_ok hE hS (by kernel_rfl)) hBS (fn := Tryd.f3) (by kernel_rfl) (c := bodyOf Tryd.f3) (by kernel_rfl) (stepped_none rfl) fun x r h => ⟨fuel, (f_gamehallkeep2_NatRing_run fuel x).trans h⟩

/-! gamehall/gamehallkeep2.NatEuclid -/
noncomputable def E_gamehallkeep2_NatEuclid : Env := { te := te, spec := [(7, S_gamehallkeep2_natFact), (9, S_nat_Add), (10, S_nat_Mul), (12, S_gamehallkeep2_fine), (13, S_nat_Divide), (14, S_nat_Compare), (15, S_nat_Gcd)], body := [] }
def LL_gamehallkeep2_NatEuclid : Loops := []
def f_gamehallkeep2_NatEuclid (k : Nat) (a0 : ByteArray) (a1 : ByteArray) : Option (Bool) :=
  (f_gamehallkeep2_natFact fuel).bind fun r1 =>
  if (!r1) = true then
    some false
  else
    (f_nat_Divide fuel a0 a1).bind fun r2 =>
    if (r2.2.2 != 0) = true then
      if ((r2.1.toList == (⟨#[]⟩ : ByteArray).toList)) = true then
        some ((r2.2.1.toList == (⟨#[]⟩ : ByteArray).toList))
      else
        some false
    else
      (f_nat_Mul fuel r2.1 a1).bind fun r3 =>
      (f_nat_Add fuel r3.1 r2.2.1).bind fun r4 =>
      (f_nat_Compare fuel r2.2.1 a1).bind fun r5 =>
      (f_gamehallkeep2_fine fuel [r3.2, r4.2, r5.2]).bind fun r6 =>
      if (!r6) = false then
        if (!(r4.1.toList == a0.toList)) = false then
          if (r5.1 != (-1)) = false then
            if decide ((a0.size : Int) > 200) = true then
              (f_gamehallkeep2_fine fuel [r3.2, r4.2, r5.2]).bind fun r7 =>
              if r7 = true then
                if ((r4.1.toList == a0.toList)) = true then
                  some (r5.1 == (-1))
                else
                  some false
              else
                some false
            else
              (f_nat_Gcd fuel a0 a1).bind fun r8 =>
              (f_nat_Divide fuel a0 r8.1).bind fun r9 =>
              (f_nat_Divide fuel a1 r8.1).bind fun r10 =>
              (f_gamehallkeep2_fine fuel [r8.2, r9.2.2, r10.2.2]).bind fun r11 =>
              if r11 = true then
                if ((r9.2.1.toList == (⟨#[48]⟩ : ByteArray).toList)) = true then
                  some ((r10.2.1.toList == (⟨#[48]⟩ : ByteArray).toList))
                else
                  some false
              else
                some false
          else
            (f_gamehallkeep2_fine fuel [r3.2, r4.2, r5.2]).bind fun r12 =>
            if r12 = true then
              if ((r4.1.toList == a0.toList)) = true then
                some (r5.1 == (-1))
              else
                some false
            else
              some false
        else
          (f_gamehallkeep2_fine fuel [r3.2, r4.2, r5.2]).bind fun r13 =>
          if r13 = true then
            if ((r4.1.toList == a0.toList)) = true then
              some (r5.1 == (-1))
            else
              some false
          else
            some false
      else
        (f_gamehallkeep2_fine fuel [r3.2, r4.2, r5.2]).bind fun r14 =>
        if r14 = true then
          if ((r4.1.toList == a0.toList)) = true then
            some (r5.1 == (-1))
          else
            some false
        else
          some false
theorem f_gamehallkeep2_NatEuclid_run (k : Nat) (x : denL [.str, .str]) : runFn E_gamehallkeep2_NatEuclid LL_gamehallkeep2_NatEuclid k 4 Tryd.f4 [.str, .str] [.imm .bool] x = f_gamehallkeep2_NatEuclid k x.1 x.2 := by kernel_rfl
noncomputable def S_gamehallkeep2_NatEuclid : Vm.Spec := { ps := [.str, .str], rs := [.imm .bool], f := fun x => f_gamehallkeep2_NatEuclid fuel x.1 x.2 }
theorem f_gamehallkeep2_NatEuclid_holds : Vm.Spec.holds Tryd.prog 4 S_gamehallkeep2_NatEuclid := by
  have hB : BodiesOk Tryd.prog E_gamehallkeep2_NatEuclid := bodies_none rfl
  have hBS : BodiesStepped E_gamehallkeep2_NatEuclid LL_gamehallkeep2_NatEuclid := bodies_stepped_none rfl
  have hS : SpecsOk Tryd.prog E_gamehallkeep2_NatEuclid := specs_ok (by exact ⟨⟨by kernel_rfl, f_gamehallkeep2_natFact_holds⟩, ⟨by kernel_rfl, f_nat_Add_holds⟩, ⟨by kernel_rfl, f_nat_Mul_holds⟩, ⟨by kernel_rfl, f_gamehallkeep2_fine_holds⟩, ⟨by kernel_rfl, f_nat_Divide_holds⟩, ⟨by kernel_rfl, f_nat_Compare_holds⟩, ⟨by kernel_rfl, f_nat_Gcd_holds⟩, trivial⟩)
  have hE : EOk Tryd.prog E_gamehallkeep2_NatEuclid := eok_te ok
  exact fn_sound (L := LL_gamehallkeep2_NatEuclid) hE hS hB (draws_ok hE hS (by kernel_rfl)) hBS (fn := Tryd.f4) (by kernel_rfl) (c := bodyOf Tryd.f4) (by kernel_rfl) (stepped_none rfl) fun x r h => ⟨fuel, (f_gamehallkeep2_NatEuclid_run fuel x).trans h⟩

/-! gamehall/gamehallkeep2.NatOrders -/
noncomputable def E_gamehallkeep2_NatOrders : Env := { te := te, spec := [(7, S_gamehallkeep2_natFact), (11, S_nat_Sub), (14, S_nat_Compare)], body := [] }
def LL_gamehallkeep2_NatOrders : Loops := []
def f_gamehallkeep2_NatOrders (k : Nat) (a0 : ByteArray) (a1 : ByteArray) : Option (Bool) :=
  (f_gamehallkeep2_natFact fuel).bind fun r1 =>
  if (!r1) = true then
    some false
  else
    (f_nat_Compare fuel a0 a1).bind fun r2 =>
    if (r2.2 != 0) = true then
      some (r2.1 == 0)
    else
      (f_nat_Compare fuel a1 a0).bind fun r3 =>
      (f_nat_Sub fuel a0 a1).bind fun r4 =>
      if (r3.2 != 0) = false then
        if (r3.1 != IntKind.i64.wrap (0 - r2.1)) = false then
          if decide (r2.1 < (-1)) = false then
            if decide (r2.1 > 1) = false then
              if (!((r2.1 == 0) == ((a0.toList == a1.toList)))) = true then
                some false
              else
                if decide (r2.1 < 0) = true then
                  if (r4.2 == 4) = false then
                    if decide (r2.1 ≥ 0) = true then
                      if (r4.2 == 0) = true then
                        some (((r4.1.toList == (⟨#[48]⟩ : ByteArray).toList)) == (r2.1 == 0))
                      else
                        some false
                    else
                      some false
                  else
                    some true
                else
                  if decide (r2.1 ≥ 0) = true then
                    if (r4.2 == 0) = true then
                      some (((r4.1.toList == (⟨#[48]⟩ : ByteArray).toList)) == (r2.1 == 0))
                    else
                      some false
                  else
                    some false
            else
              some false
          else
            some false
        else
          some false
      else
        some false
theorem f_gamehallkeep2_NatOrders_run (k : Nat) (x : denL [.str, .str]) : runFn E_gamehallkeep2_NatOrders LL_gamehallkeep2_NatOrders k 5 Tryd.f5 [.str, .str] [.imm .bool] x = f_gamehallkeep2_NatOrders k x.1 x.2 := by kernel_rfl
noncomputable def S_gamehallkeep2_NatOrders : Vm.Spec := { ps := [.str, .str], rs := [.imm .bool], f := fun x => f_gamehallkeep2_NatOrders fuel x.1 x.2 }
theorem f_gamehallkeep2_NatOrders_holds : Vm.Spec.holds Tryd.prog 5 S_gamehallkeep2_NatOrders := by
  have hB : BodiesOk Tryd.prog E_gamehallkeep2_NatOrders := bodies_none rfl
  have hBS : BodiesStepped E_gamehallkeep2_NatOrders LL_gamehallkeep2_NatOrders := bodies_stepped_none rfl
  have hS : SpecsOk Tryd.prog E_gamehallkeep2_NatOrders := specs_ok (by exact ⟨⟨by kernel_rfl, f_gamehallkeep2_natFact_holds⟩, ⟨by kernel_rfl, f_nat_Sub_holds⟩, ⟨by kernel_rfl, f_nat_Compare_holds⟩, trivial⟩)
  have hE : EOk Tryd.prog E_gamehallkeep2_NatOrders := eok_te ok
  exact fn_sound (L := LL_gamehallkeep2_NatOrders) hE hS hB (draws_ok hE hS (by kernel_rfl)) hBS (fn := Tryd.f5) (by kernel_rfl) (c := bodyOf Tryd.f5) (by kernel_rfl) (stepped_none rfl) fun x r h => ⟨fuel, (f_gamehallkeep2_NatOrders_run fuel x).trans h⟩

/-! gamehall/gamehallkeep2.NatPascal -/
noncomputable def E_gamehallkeep2_NatPascal : Env := { te := te, spec := [(7, S_gamehallkeep2_natFact), (9, S_nat_Add), (10, S_nat_Mul), (12, S_gamehallkeep2_fine), (13, S_nat_Divide), (16, S_gamehallkeep2_pick), (17, S_nat_Binomial), (18, S_nat_Factorial)], body := [] }
def LL_gamehallkeep2_NatPascal : Loops := []
def f_gamehallkeep2_NatPascal (k : Nat) (a0 : Int) (a1 : Int) : Option (Bool) :=
  (f_gamehallkeep2_natFact fuel).bind fun r1 =>
  if (!r1) = true then
    some false
  else
    (f_gamehallkeep2_pick fuel a0 200).bind fun r2 =>
    (f_gamehallkeep2_pick fuel a1 (IntKind.i64.wrap (1 + r2))).bind fun r3 =>
    (f_nat_Binomial fuel (IntKind.i64.wrap (1 + r2)) (IntKind.i64.wrap (1 + r3))).bind fun r4 =>
    (f_nat_Binomial fuel (IntKind.i64.wrap ((IntKind.i64.wrap (1 + r2)) - 1)) (IntKind.i64.wrap ((IntKind.i64.wrap (1 + r3)) - 1))).bind fun r5 =>
    if decide (IntKind.i64.wrap (1 + r3) < IntKind.i64.wrap (1 + r2)) = true then
      (f_nat_Binomial fuel (IntKind.i64.wrap ((IntKind.i64.wrap (1 + r2)) - 1)) (IntKind.i64.wrap (1 + r3))).bind fun r6 =>
      (f_nat_Add fuel r5.1 r6.1).bind fun r7 =>
      (f_nat_Factorial fuel (IntKind.i64.wrap (1 + r2))).bind fun r8 =>
      (f_nat_Factorial fuel (IntKind.i64.wrap (1 + r3))).bind fun r9 =>
      (f_nat_Factorial fuel (IntKind.i64.wrap ((IntKind.i64.wrap (1 + r2)) - (IntKind.i64.wrap (1 + r3))))).bind fun r10 =>
      (f_nat_Mul fuel r9.1 r10.1).bind fun r11 =>
      (f_nat_Divide fuel r8.1 r11.1).bind fun r12 =>
      (f_gamehallkeep2_fine fuel [r4.2, r5.2, r6.2, r7.2, r8.2, r9.2, r10.2, r11.2, r12.2.2]).bind fun r13 =>
      if r13 = true then
        if ((r4.1.toList == r7.1.toList)) = true then
          if ((r12.1.toList == r4.1.toList)) = true then
            some ((r12.2.1.toList == (⟨#[48]⟩ : ByteArray).toList))
          else
            some false
        else
          some false
      else
        some false
    else
      (f_nat_Add fuel r5.1 (⟨#[48]⟩ : ByteArray)).bind fun r14 =>
      (f_nat_Factorial fuel (IntKind.i64.wrap (1 + r2))).bind fun r15 =>
      (f_nat_Factorial fuel (IntKind.i64.wrap (1 + r3))).bind fun r16 =>
      (f_nat_Factorial fuel (IntKind.i64.wrap ((IntKind.i64.wrap (1 + r2)) - (IntKind.i64.wrap (1 + r3))))).bind fun r17 =>
      (f_nat_Mul fuel r16.1 r17.1).bind fun r18 =>
      (f_nat_Divide fuel r15.1 r18.1).bind fun r19 =>
      (f_gamehallkeep2_fine fuel [r4.2, r5.2, 0, r14.2, r15.2, r16.2, r17.2, r18.2, r19.2.2]).bind fun r20 =>
      if r20 = true then
        if ((r4.1.toList == r14.1.toList)) = true then
          if ((r19.1.toList == r4.1.toList)) = true then
            some ((r19.2.1.toList == (⟨#[48]⟩ : ByteArray).toList))
          else
            some false
        else
          some false
      else
        some false
theorem f_gamehallkeep2_NatPascal_run (k : Nat) (x : denL [.int .i64, .int .i64]) : runFn E_gamehallkeep2_NatPascal LL_gamehallkeep2_NatPascal k 6 Tryd.f6 [.int .i64, .int .i64] [.imm .bool] x = f_gamehallkeep2_NatPascal k x.1 x.2 := by kernel_rfl
noncomputable def S_gamehallkeep2_NatPascal : Vm.Spec := { ps := [.int .i64, .int .i64], rs := [.imm .bool], f := fun x => f_gamehallkeep2_NatPascal fuel x.1 x.2 }
theorem f_gamehallkeep2_NatPascal_holds : Vm.Spec.holds Tryd.prog 6 S_gamehallkeep2_NatPascal := by
  have hB : BodiesOk Tryd.prog E_gamehallkeep2_NatPascal := bodies_none rfl
  have hBS : BodiesStepped E_gamehallkeep2_NatPascal LL_gamehallkeep2_NatPascal := bodies_stepped_none rfl
  have hS : SpecsOk Tryd.prog E_gamehallkeep2_NatPascal := specs_ok (by exact ⟨⟨by kernel_rfl, f_gamehallkeep2_natFact_holds⟩, ⟨by kernel_rfl, f_nat_Add_holds⟩, ⟨by kernel_rfl, f_nat_Mul_holds⟩, ⟨by kernel_rfl, f_gamehallkeep2_fine_holds⟩, ⟨by kernel_rfl, f_nat_Divide_holds⟩, ⟨by kernel_rfl, f_gamehallkeep2_pick_holds⟩, ⟨by kernel_rfl, f_nat_Binomial_holds⟩, ⟨by kernel_rfl, f_nat_Factorial_holds⟩, trivial⟩)
  have hE : EOk Tryd.prog E_gamehallkeep2_NatPascal := eok_te ok
  exact fn_sound (L := LL_gamehallkeep2_NatPascal) hE hS hB (draws_ok hE hS (by kernel_rfl)) hBS (fn := Tryd.f6) (by kernel_rfl) (c := bodyOf Tryd.f6) (by kernel_rfl) (stepped_none rfl) fun x r h => ⟨fuel, (f_gamehallkeep2_NatPascal_run fuel x).trans h⟩

end Go.Proofs.YtkdikllfbklhcaaDoor
