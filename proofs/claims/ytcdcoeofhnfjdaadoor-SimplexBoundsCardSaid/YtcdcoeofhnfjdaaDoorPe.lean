/- Pure functions, printed by a program of this session out of the program. -/
import Derived.Test.YtcdcoeofhnfjdaaDoorVmD
import Derived.Test.YtcdcoeofhnfjdaaDoorSh
set_option linter.unusedVariables false
namespace Go.Proofs.YtcdcoeofhnfjdaaDoor
open Go Vm Go.Proofs
abbrev qT : Ty := .pair .bool (.pair (.slice (.int .u32)) (.slice (.int .u32)))
def te : TE := [(2, ⟨.int .i64, .sc, 8⟩),
  (3, ⟨.int .i64, .sc, 8⟩),
  (4, ⟨.bool, .sc, 1⟩),
  (5, ⟨.int .u8, .sc, 1⟩),
  (9, ⟨.str, .sc, 16⟩),
  (22, ⟨.slice (.slice .str), .slice 25, 24⟩),
  (23, ⟨.slice (.slice .str), .slice 25, 24⟩),
  (24, ⟨.slice .str, .slice 30, 24⟩),
  (25, ⟨.slice .str, .slice 30, 24⟩),
  (27, ⟨.pair (.slice (.slice .str)) (.pair (.slice .str) (.slice .str)), .st [23, 25, 25], 72⟩),
  (30, ⟨.str, .sc, 16⟩),
  (32, ⟨.pair (.int .i64) (.pair (.slice .str) (.pair (.slice .str) (.pair (.slice .str) .str))), .st [3, 25, 25, 25, 30], 96⟩),
  (33, ⟨.int .i64, .sc, 8⟩),
  (60, ⟨.slice (.slice (.slice .str)), .slice 23, 24⟩),
  (65, ⟨.opq, .ptr 73, 8⟩),
  (68, ⟨.slice qT, .slice 77, 24⟩),
  (70, ⟨.slice (.slice qT), .slice 68, 24⟩),
  (71, ⟨.slice (.int .i64), .slice 3, 24⟩),
  (73, ⟨.pair (.slice (.slice qT)) (.pair (.slice (.int .i64)) (.pair (.int .i64) (.int .i64))), .st [70, 71, 3, 3], 64⟩),
  (75, ⟨.slice (.int .u32), .slice 125, 24⟩),
  (77, ⟨qT, .st [4, 75, 75], 56⟩),
  (94, ⟨.slice (.int .i64), .slice 33, 24⟩),
  (99, ⟨.int .u64, .sc, 8⟩),
  (110, ⟨.arr 3 (.int .i64), .ar 3 3, 24⟩),
  (111, ⟨.arr 3 (.arr 3 (.int .i64)), .ar 3 110, 72⟩),
  (125, ⟨.int .u32, .sc, 4⟩),
  (126, ⟨.slice (.int .u8), .slice 5, 24⟩),
  (129, ⟨.arr 9 (.int .u8), .ar 9 5, 9⟩),
  (131, ⟨.int .u64, .sc, 8⟩)]
theorem ok : EOk Tryd.prog { te := te, spec := [], body := [] } := wg6 (by kernel_rfl)
theorem z17 : Tryd.prog.follows .mixedOrders = true := by kernel_rfl
noncomputable def w05 : Env := { te := te, spec := [], body := [] }
def l_nat_Of_2H : Ann := { slots := [(0, .one (.val (.int .i64))), (3, .one (.own 44 (.int .u32)))], objs := [(44, .buf (.int .u32))] }
def y99 : Ann := { slots := [(3, .one (.own 44 (.int .u32)))], objs := [(44, .buf (.int .u32))] }
def y98 : Ann := { slots := [], objs := [] }
def zh8 : Nat → Int → List Int → Option (LR y99 y98)
 | 0, _, _ => none
 | m + 1, s0, b44 =>
  if decide (s0 > 0) = true then
  if (b44.length + 1) * 4 ≤ 140737488355328 then
  zh8 m (IntKind.i64.wrap (s0.tdiv 1000000000)) (b44 ++ [IntKind.u32.wrap (s0.tmod 1000000000)])
  else none
  else
  some (.exit (b44, ()))
def l_nat_Of_2L : LSpec := { h := l_nat_Of_2H, x := y99, r := y98, xid := 0, rt := false, pins := [], f := fun k d => zh8 k d.1 d.2.1 }
def yk1 : z29 := [([66], [(2, l_nat_Of_2L)])]
def z65 (k : Nat) (a0 : Int) : Option (List Int) :=
 match zh8 k a0 [] with
 | none => none
 | some (.exit d1) =>
  some d1.1
 | some (.ret d1) =>
  none
theorem y9a (m : Nat) (d : dens l_nat_Of_2H.tys) : l_nat_Of_2L.f (m + 1) d = round w05 yk1 m [66] 15 (z2w (z1j Tryd.f66) 0) l_nat_Of_2L (l_nat_Of_2L.f m) d := by kernel_rfl
def yl1 (k : Nat) : Vm.Spec := { ps := [.int .i64], rs := [.fresh (.int .u32)], f := fun x => z65 k x }
noncomputable def y13 : Vm.Spec := yl1 fuel
theorem z8e : Vm.Spec.holds Tryd.prog 66 y13 := z16 (E := w05) (L := yk1) (fn := Tryd.f66) (Z := yl1) (z1u ok) (z0s (by exact trivial)) z17 (z0a rfl) (z01 rfl) (by kernel_rfl) (by kernel_rfl) (z0o (ls := [(2, l_nat_Of_2L)]) rfl rfl ⟨by kernel_rfl, fun _ => rfl, y9a, z0p (by kernel_rfl)⟩) fun k x => by kernel_rfl
noncomputable def zs9 : Env := { te := te, spec := [], body := [] }
def zp5 : z29 := []
def z4x (k : Nat) (a0 : ByteArray) (a1 : ByteArray) : Option (Bool) :=
 if decide ((a0.size : Int) ≥ (a1.size : Int)) = true then
 if (0 : Int) ≤ (a1.size : Int) then
 if (a1.size : Int) ≤ a0.size then
 some (((a0.extract 0 (a1.size : Int).toNat).toList == a1.toList))
 else none
 else none
 else
 some false
def z8z (k : Nat) : Vm.Spec := { ps := [.str, .str], rs := [.imm .bool], f := fun x => z4x k x.1 x.2 }
noncomputable def z9f : Vm.Spec := z8z fuel
theorem zf6 : Vm.Spec.holds Tryd.prog 88 z9f := z16 (E := zs9) (L := zp5) (fn := Tryd.f88) (Z := z8z) (z1u ok) (z0s (by exact trivial)) z17 (z0a rfl) (z01 rfl) (by kernel_rfl) (by kernel_rfl) (z0t rfl) fun k x => by kernel_rfl
noncomputable def zs8 : Env := { te := te, spec := [(88, z9f)], body := [] }
def zp4 : z29 := []
def z4w (k : Nat) (a0 : ByteArray) (a1 : ByteArray) : Option (ByteArray × Bool) :=
 (z4x fuel a0 a1).bind fun r1 =>
 if (!r1) = true then
 some (a0, false)
 else
 if (0 : Int) ≤ (a1.size : Int) then
 if (a1.size : Int) ≤ a0.size then
 some (a0.extract (a1.size : Int).toNat a0.size, true)
 else none
 else none
def z8y (k : Nat) : Vm.Spec := { ps := [.str, .str], rs := [.imm .str, .imm .bool], f := fun x => z4w k x.1 x.2 }
noncomputable def z9e : Vm.Spec := z8y fuel
theorem zf5 : Vm.Spec.holds Tryd.prog 83 z9e := z16 (E := zs8) (L := zp4) (fn := Tryd.f83) (Z := z8y) (z1u ok) (z0s (by exact ⟨⟨by kernel_rfl, zf6⟩, trivial⟩)) z17 (z0a rfl) (z01 rfl) (by kernel_rfl) (by kernel_rfl) (z0t rfl) fun k x => by kernel_rfl
noncomputable def y2s : Env := { te := te, spec := [(83, z9e)], body := [] }
def y1k : z29 := []
def z2n (k : Nat) (a0 : ByteArray) (a1 : ByteArray) : Option (ByteArray × Bool) :=
 (z4w fuel a0 a1).bind fun r1 =>
 some (r1.1, r1.2)
def zg4 (k : Nat) : Vm.Spec := { ps := [.str, .str], rs := [.imm .str, .imm .bool], f := fun x => z2n k x.1 x.2 }
noncomputable def z8m : Vm.Spec := zg4 fuel
theorem z8f : Vm.Spec.holds Tryd.prog 67 z8m := z16 (E := y2s) (L := y1k) (fn := Tryd.f67) (Z := zg4) (z1u ok) (z0s (by exact ⟨⟨by kernel_rfl, zf5⟩, trivial⟩)) z17 (z0a rfl) (z01 rfl) (by kernel_rfl) (by kernel_rfl) (z0t rfl) fun k x => by kernel_rfl
noncomputable def y5g : Env := { te := te, spec := [(89, Vm.sIndex)], body := [] }
def y3t : z29 := []
def z7n (k : Nat) (a0 : ByteArray) (a1 : ByteArray) : Option (ByteArray × ByteArray × Bool) :=
 (Vm.stdIndex a0 a1).bind fun r1 =>
 if decide (r1 ≥ 0) = true then
 if (0 : Int) ≤ r1 then
 if r1 ≤ a0.size then
 if (0 : Int) ≤ IntKind.i64.wrap (r1 + (a1.size : Int)) then
 if IntKind.i64.wrap (r1 + (a1.size : Int)) ≤ a0.size then
 some (a0.extract 0 r1.toNat, a0.extract (IntKind.i64.wrap (r1 + (a1.size : Int))).toNat a0.size, true)
 else none
 else none
 else none
 else none
 else
 some (a0, (⟨#[]⟩ : ByteArray), false)
def zm3 (k : Nat) : Vm.Spec := { ps := [.str, .str], rs := [.imm .str, .imm .str, .imm .bool], f := fun x => z7n k x.1 x.2 }
noncomputable def zp6 : Vm.Spec := zm3 fuel
theorem zu6 : Vm.Spec.holds Tryd.prog 84 zp6 := z16 (E := y5g) (L := y3t) (fn := Tryd.f84) (Z := zm3) (z1u ok) (z0s (by exact ⟨⟨by kernel_rfl, w4u⟩, trivial⟩)) z17 (z0a rfl) (z01 rfl) (by kernel_rfl) (by kernel_rfl) (z0t rfl) fun k x => by kernel_rfl
noncomputable def yf3 : Env := { te := te, spec := [(84, zp6)], body := [] }
def ya5 : z29 := []
def z5l (k : Nat) (a0 : ByteArray) (a1 : ByteArray) : Option (ByteArray × ByteArray × Bool) :=
 (z7n fuel a0 a1).bind fun r1 =>
 some (r1.1, r1.2.1, r1.2.2)
def y1z (k : Nat) : Vm.Spec := { ps := [.str, .str], rs := [.imm .str, .imm .str, .imm .bool], f := fun x => z5l k x.1 x.2 }
noncomputable def zt7 : Vm.Spec := y1z fuel
theorem zj9 : Vm.Spec.holds Tryd.prog 68 zt7 := z16 (E := yf3) (L := ya5) (fn := Tryd.f68) (Z := y1z) (z1u ok) (z0s (by exact ⟨⟨by kernel_rfl, zu6⟩, trivial⟩)) z17 (z0a rfl) (z01 rfl) (by kernel_rfl) (by kernel_rfl) (z0t rfl) fun k x => by kernel_rfl
noncomputable def y12 : Env := { te := te, spec := [], body := [(85, Tryd.f85)] }
def l_nat_Read_7H : Ann := { slots := [(5, .one (.val (.int .u32))), (20, .one (.val (.slice (.int .u8)))), (21, .one (.val (.int .i64))), (22, .one (.val (.int .i64)))], objs := [] }
def y4w : Ann := { slots := [(5, .one (.val (.int .u32)))], objs := [] }
def y4v : Ann := { slots := [], objs := [] }
def l_nat_Read_3H : Ann := { slots := [(0, .one (.val .str)), (3, .one (.own 144 (.int .u32))), (4, .one (.val (.int .i64)))], objs := [(144, .buf (.int .u32))] }
def y4u : Ann := { slots := [(3, .one (.own 144 (.int .u32)))], objs := [(144, .buf (.int .u32))] }
def y4t : Ann := { slots := [], objs := [] }
def l_nat_N_trim__nat_Read_1H : Ann := { slots := [(0, .one (.pre 148 (.int .u32)))], objs := [(148, .buf (.int .u32))] }
def z8h : Ann := { slots := [(0, .one (.pre 148 (.int .u32)))], objs := [(148, .buf (.int .u32))] }
def z8g : Ann := { slots := [], objs := [] }
def z95 : Nat → Int → List Int → Int → Int → Option (LR y4w y4v)
 | 0, _, _, _, _ => none
 | m + 1, s5, s20, s21, s22 =>
  if decide (s22 < s21) = true then
  if (0 : Int) ≤ s22 then
  if s22 < s20.length then
  z95 m (IntKind.u32.wrap ((IntKind.u32.wrap (s5 * 10)) + (IntKind.u32.wrap (IntKind.u8.wrap ((s20.getD s22.toNat 0) - 48))))) s20 s21 (IntKind.i64.wrap (s22 + 1))
  else none
  else none
  else
  some (.exit (s5, ()))
def l_nat_Read_7L : LSpec := { h := l_nat_Read_7H, x := y4w, r := y4v, xid := 2, rt := false, pins := [], f := fun k d => z95 k d.1 d.2.1 d.2.2.1 d.2.2.2.1 }
def z94 : Nat → ByteArray → Int → List Int → Option (LR y4u y4t)
 | 0, _, _, _ => none
 | m + 1, s0, s4, b144 =>
  if decide (s4 > 0) = true then
  if (0 : Int) ≤ s4 then
  if s4 ≤ s0.size then
  if (0 : Int) ≤ (if IntKind.i64.wrap (s4 - 9) > 0 then IntKind.i64.wrap (s4 - 9) else 0) then
  if (if IntKind.i64.wrap (s4 - 9) > 0 then IntKind.i64.wrap (s4 - 9) else 0) ≤ s4 then
  match z95 m 0 ((s0.extract (if IntKind.i64.wrap (s4 - 9) > 0 then IntKind.i64.wrap (s4 - 9) else 0).toNat s4.toNat).data.toList.map fun c => (c.toNat : Int)) (((s0.extract (if IntKind.i64.wrap (s4 - 9) > 0 then IntKind.i64.wrap (s4 - 9) else 0).toNat s4.toNat).data.toList.map fun c => (c.toNat : Int)).length : Int) 0 with
  | none => none
  | some (.exit d1) =>
   if (b144.length + 1) * 4 ≤ 140737488355328 then
   z94 m s0 (IntKind.i64.wrap (s4 - 9)) (b144 ++ [d1.1])
   else none
  | some (.ret d1) =>
   none
  else none
  else none
  else none
  else none
  else
  some (.exit (b144, ()))
def l_nat_Read_3L : LSpec := { h := l_nat_Read_3H, x := y4u, r := y4t, xid := 0, rt := false, pins := [], f := fun k d => z94 k d.1 d.2.1 d.2.2.1 }
def z2y : Nat → Nat → List Int → Option (LR z8h z8g)
 | 0, _, _ => none
 | m + 1, s0, b148 =>
  if decide ((s0 : Int) > 0) = true then
  if (0 : Int) ≤ IntKind.i64.wrap ((s0 : Int) - 1) then
  if IntKind.i64.wrap ((s0 : Int) - 1) < s0 then
  if (b148.getD ((IntKind.i64.wrap ((s0 : Int) - 1)).toNat) 0 == 0) = true then
  if (0 : Int) ≤ IntKind.i64.wrap ((s0 : Int) - 1) then
  if IntKind.i64.wrap ((s0 : Int) - 1) ≤ s0 then
  z2y m ((IntKind.i64.wrap ((s0 : Int) - 1)).toNat) b148
  else none
  else none
  else
  some (.exit (s0, b148, ()))
  else none
  else none
  else
  some (.exit (s0, b148, ()))
def l_nat_N_trim__nat_Read_1L : LSpec := { h := l_nat_N_trim__nat_Read_1H, x := z8h, r := z8g, xid := 0, rt := false, pins := [148], f := fun k d => z2y k d.1 d.2.1 }
def zt2 : z29 := [([69], [(3, l_nat_Read_3L), (7, l_nat_Read_7L)]), ([85, 69], [(1, l_nat_N_trim__nat_Read_1L)])]
def z3r (k : Nat) (a0 : ByteArray) : Option (List Int) :=
 match z94 k a0 (a0.size : Int) [] with
 | none => none
 | some (.exit d1) =>
  match z2y k d1.1.length d1.1 with
  | none => none
  | some (.exit d2) =>
   some (d2.2.1.take d2.1)
  | some (.ret d2) =>
   none
 | some (.ret d1) =>
  none
theorem y61 (m : Nat) (d : dens l_nat_Read_7H.tys) : l_nat_Read_7L.f (m + 1) d = round y12 zt2 m [69] 39 (z2w (z1j Tryd.f69) 1) l_nat_Read_7L (l_nat_Read_7L.f m) d := by kernel_rfl
theorem y60 (m : Nat) (d : dens l_nat_Read_3H.tys) : l_nat_Read_3L.f (m + 1) d = round y12 zt2 m [69] 39 (z2w (z1j Tryd.f69) 0) l_nat_Read_3L (l_nat_Read_3L.f m) d := by kernel_rfl
theorem zf8 (m : Nat) (d : dens l_nat_N_trim__nat_Read_1H.tys) : l_nat_N_trim__nat_Read_1L.f (m + 1) d = round y12 zt2 m [85, 69] 21 (z2w (z1j Tryd.f85) 0) l_nat_N_trim__nat_Read_1L (l_nat_N_trim__nat_Read_1L.f m) d := by kernel_rfl
def y8f (k : Nat) : Vm.Spec := { ps := [.str], rs := [.fresh (.int .u32)], f := fun x => z3r k x }
noncomputable def y5j : Vm.Spec := y8f fuel
theorem zx1 : Vm.Spec.holds Tryd.prog 69 y5j := z16 (E := y12) (L := zt2) (fn := Tryd.f69) (Z := y8f) (z1u ok) (z0s (by exact trivial)) z17 (zd1 (by exact ⟨by kernel_rfl, by kernel_rfl, trivial⟩)) (z4z (by exact ⟨(z2x [[69]] (by exact ⟨z0o (ls := [(1, l_nat_N_trim__nat_Read_1L)]) rfl rfl ⟨by kernel_rfl, fun _ => rfl, zf8, z0p (by kernel_rfl)⟩,  trivial⟩) rfl),  trivial⟩)) (by kernel_rfl) (by kernel_rfl) (z0o (ls := [(3, l_nat_Read_3L), (7, l_nat_Read_7L)]) rfl rfl ⟨by kernel_rfl, fun _ => rfl, y60, by kernel_rfl, fun _ => rfl, y61, z0p (by kernel_rfl)⟩) fun k x => by kernel_rfl
noncomputable def y85 : Env := { te := te, spec := [], body := [] }
def l_nat_Check_4H : Ann := { slots := [(18, .one (.val (.slice (.int .u8)))), (19, .one (.val (.int .i64))), (20, .one (.val (.int .i64)))], objs := [] }
def y28 : Ann := { slots := [], objs := [] }
def y27 : Ann := { slots := [(2, .one (.val (.int .i64)))], objs := [] }
def z6e : Nat → List Int → Int → Int → Option (LR y28 y27)
 | 0, _, _, _ => none
 | m + 1, s18, s19, s20 =>
  if decide (s20 < s19) = true then
  if (0 : Int) ≤ s20 then
  if s20 < s18.length then
  if decide (s18.getD s20.toNat 0 < 48) = false then
  if decide (s18.getD s20.toNat 0 > 57) = true then
  some (.ret (5, ()))
  else
  z6e m s18 s19 (IntKind.i64.wrap (s20 + 1))
  else
  some (.ret (5, ()))
  else none
  else none
  else
  some (.exit ())
def l_nat_Check_4L : LSpec := { h := l_nat_Check_4H, x := y28, r := y27, xid := 0, rt := true, pins := [], f := fun k d => z6e k d.1 d.2.1 d.2.2.1 }
def y6l : z29 := [([71], [(4, l_nat_Check_4L)])]
def z68 (k : Nat) (a0 : ByteArray) : Option (Int) :=
 if ((a0.toList == (⟨#[]⟩ : ByteArray).toList)) = false then
 if (0 : Int) < (a0.size : Int) then
 if (((a0.data.getD 0 0).toNat : Int) == 48) = true then
 if decide ((a0.size : Int) > 1) = true then
 some 5
 else
 match z6e k (a0.data.toList.map fun c => (c.toNat : Int)) ((a0.data.toList.map fun c => (c.toNat : Int)).length : Int) 0 with
 | none => none
 | some (.exit d1) =>
  if decide ((a0.size : Int) > 2000) = true then
  some 2
  else
  some 0
 | some (.ret d1) =>
  some d1.1
 else
 match z6e k (a0.data.toList.map fun c => (c.toNat : Int)) ((a0.data.toList.map fun c => (c.toNat : Int)).length : Int) 0 with
 | none => none
 | some (.exit d2) =>
  if decide ((a0.size : Int) > 2000) = true then
  some 2
  else
  some 0
 | some (.ret d2) =>
  some d2.1
 else none
 else
 some 5
theorem y4l (m : Nat) (d : dens l_nat_Check_4H.tys) : l_nat_Check_4L.f (m + 1) d = round y85 y6l m [71] 34 (z2w (z1j Tryd.f71) 0) l_nat_Check_4L (l_nat_Check_4L.f m) d := by kernel_rfl
def y6r (k : Nat) : Vm.Spec := { ps := [.str], rs := [.imm (.int .i64)], f := fun x => z68 k x }
noncomputable def y8c : Vm.Spec := y6r fuel
theorem y5s : Vm.Spec.holds Tryd.prog 71 y8c := z16 (E := y85) (L := y6l) (fn := Tryd.f71) (Z := y6r) (z1u ok) (z0s (by exact trivial)) z17 (z0a rfl) (z01 rfl) (by kernel_rfl) (by kernel_rfl) (z0o (ls := [(4, l_nat_Check_4L)]) rfl rfl ⟨by kernel_rfl, fun _ => rfl, y4l, z0p (by kernel_rfl)⟩) fun k x => by kernel_rfl
noncomputable def y87 : Env := { te := te, spec := [], body := [] }
def l_nat_N_Cmp_6H : Ann := { slots := [(0, .one (.val (.slice (.int .u32)))), (1, .one (.val (.slice (.int .u32)))), (5, .one (.val (.int .i64)))], objs := [] }
def y2c : Ann := { slots := [], objs := [] }
def y2b : Ann := { slots := [(4, .one (.val (.int .i64)))], objs := [] }
def z7p : Nat → List Int → List Int → Int → Option (LR y2c y2b)
 | 0, _, _, _ => none
 | m + 1, s0, s1, s5 =>
  if decide (s5 ≥ 0) = true then
  if (0 : Int) ≤ s5 then
  if s5 < s0.length then
  if (0 : Int) ≤ s5 then
  if s5 < s1.length then
  if decide (s0.getD s5.toNat 0 < s1.getD s5.toNat 0) = true then
  some (.ret ((-1), ()))
  else
  if (0 : Int) ≤ s5 then
  if s5 < s0.length then
  if (0 : Int) ≤ s5 then
  if s5 < s1.length then
  if decide (s0.getD s5.toNat 0 > s1.getD s5.toNat 0) = true then
  some (.ret (1, ()))
  else
  z7p m s0 s1 (IntKind.i64.wrap (s5 - 1))
  else none
  else none
  else none
  else none
  else none
  else none
  else none
  else none
  else
  some (.exit ())
def l_nat_N_Cmp_6L : LSpec := { h := l_nat_N_Cmp_6H, x := y2c, r := y2b, xid := 0, rt := true, pins := [], f := fun k d => z7p k d.1 d.2.1 d.2.2.1 }
def y6n : z29 := [([73], [(6, l_nat_N_Cmp_6L)])]
def z4n (k : Nat) (a0 : List Int) (a1 : List Int) : Option (Int) :=
 if ((a0.length : Int) != (a1.length : Int)) = true then
 if decide ((a0.length : Int) < (a1.length : Int)) = true then
 some (-1)
 else
 some 1
 else
 match z7p k a0 a1 (IntKind.i64.wrap ((a0.length : Int) - 1)) with
 | none => none
 | some (.exit d1) =>
  some 0
 | some (.ret d1) =>
  some d1.1
theorem y4n (m : Nat) (d : dens l_nat_N_Cmp_6H.tys) : l_nat_N_Cmp_6L.f (m + 1) d = round y87 y6n m [73] 43 (z2w (z1j Tryd.f73) 0) l_nat_N_Cmp_6L (l_nat_N_Cmp_6L.f m) d := by kernel_rfl
def y6t (k : Nat) : Vm.Spec := { ps := [.slice (.int .u32), .slice (.int .u32)], rs := [.imm (.int .i64)], f := fun x => z4n k x.1 x.2 }
noncomputable def zi4 : Vm.Spec := y6t fuel
theorem z7h : Vm.Spec.holds Tryd.prog 73 zi4 := z16 (E := y87) (L := y6n) (fn := Tryd.f73) (Z := y6t) (z1u ok) (z0s (by exact trivial)) z17 (z0a rfl) (z01 rfl) (by kernel_rfl) (by kernel_rfl) (z0o (ls := [(6, l_nat_N_Cmp_6L)]) rfl rfl ⟨by kernel_rfl, fun _ => rfl, y4n, z0p (by kernel_rfl)⟩) fun k x => by kernel_rfl
noncomputable def zs7 : Env := { te := te, spec := [], body := [(85, Tryd.f85)] }
def l_nat_N_Mul_7H : Ann := { slots := [(5, .one (.own 68 (.int .u32))), (6, .one (.val (.int .i64))), (7, .one (.val (.int .u32))), (8, .one (.val (.int .u64))), (25, .one (.val (.slice (.int .u32)))), (26, .one (.val (.int .i64))), (27, .one (.val (.int .i64)))], objs := [(68, .buf (.int .u32))] }
def y2k : Ann := { slots := [(5, .one (.own 68 (.int .u32))), (8, .one (.val (.int .u64)))], objs := [(68, .buf (.int .u32))] }
def y2j : Ann := { slots := [], objs := [] }
def l_nat_N_Mul_3H : Ann := { slots := [(1, .one (.val (.slice (.int .u32)))), (5, .one (.own 68 (.int .u32))), (18, .one (.val (.slice (.int .u32)))), (19, .one (.val (.int .i64))), (20, .one (.val (.int .i64)))], objs := [(68, .buf (.int .u32))] }
def y2i : Ann := { slots := [(5, .one (.own 68 (.int .u32)))], objs := [(68, .buf (.int .u32))] }
def y2h : Ann := { slots := [], objs := [] }
def l_nat_N_trim__nat_N_Mul_1H : Ann := { slots := [(0, .one (.pre 68 (.int .u32)))], objs := [(68, .buf (.int .u32))] }
def z82 : Ann := { slots := [(0, .one (.pre 68 (.int .u32)))], objs := [(68, .buf (.int .u32))] }
def z81 : Ann := { slots := [], objs := [] }
def z7s : Nat → Int → Int → Int → List Int → Int → Int → List Int → Option (LR y2k y2j)
 | 0, _, _, _, _, _, _, _ => none
 | m + 1, s6, s7, s8, s25, s26, s27, b68 =>
  if decide (s27 < s26) = true then
  if (0 : Int) ≤ s27 then
  if s27 < s25.length then
  if (0 : Int) ≤ IntKind.i64.wrap (s6 + s27) then
  if IntKind.i64.wrap (s6 + s27) < b68.length then
  if (0 : Int) ≤ IntKind.i64.wrap (s6 + s27) then
  if IntKind.i64.wrap (s6 + s27) < b68.length then
  z7s m s6 s7 (IntKind.u64.wrap ((IntKind.u64.wrap ((IntKind.u64.wrap ((IntKind.u64.wrap ((IntKind.u64.wrap (s7)) * (IntKind.u64.wrap (s25.getD s27.toNat 0)))) + (IntKind.u64.wrap (b68.getD ((IntKind.i64.wrap (s6 + s27)).toNat) 0)))) + s8)).tdiv 1000000000)) s25 s26 (IntKind.i64.wrap (s27 + 1)) (b68.set ((IntKind.i64.wrap (s6 + s27)).toNat) (IntKind.u32.wrap ((IntKind.u64.wrap ((IntKind.u64.wrap ((IntKind.u64.wrap ((IntKind.u64.wrap (s7)) * (IntKind.u64.wrap (s25.getD s27.toNat 0)))) + (IntKind.u64.wrap (b68.getD ((IntKind.i64.wrap (s6 + s27)).toNat) 0)))) + s8)).tmod 1000000000)))
  else none
  else none
  else none
  else none
  else none
  else none
  else
  some (.exit (s8, b68, ()))
def l_nat_N_Mul_7L : LSpec := { h := l_nat_N_Mul_7H, x := y2k, r := y2j, xid := 2, rt := false, pins := [68], f := fun k d => z7s k d.1 d.2.1 d.2.2.1 d.2.2.2.1 d.2.2.2.2.1 d.2.2.2.2.2.1 d.2.2.2.2.2.2.1 }
def z7r : Nat → List Int → List Int → Int → Int → List Int → Option (LR y2i y2h)
 | 0, _, _, _, _, _ => none
 | m + 1, s1, s18, s19, s20, b68 =>
  if decide (s20 < s19) = true then
  if (0 : Int) ≤ s20 then
  if s20 < s18.length then
  match z7s m s20 (s18.getD s20.toNat 0) 0 s1 (s1.length : Int) 0 b68 with
  | none => none
  | some (.exit d1) =>
   if (0 : Int) ≤ IntKind.i64.wrap (s20 + (s1.length : Int)) then
   if IntKind.i64.wrap (s20 + (s1.length : Int)) < d1.2.1.length then
   z7r m s1 s18 s19 (IntKind.i64.wrap (s20 + 1)) (d1.2.1.set ((IntKind.i64.wrap (s20 + (s1.length : Int))).toNat) (IntKind.u32.wrap (d1.1)))
   else none
   else none
  | some (.ret d1) =>
   none
  else none
  else none
  else
  some (.exit (b68, ()))
def l_nat_N_Mul_3L : LSpec := { h := l_nat_N_Mul_3H, x := y2i, r := y2h, xid := 0, rt := false, pins := [68], f := fun k d => z7r k d.1 d.2.1 d.2.2.1 d.2.2.2.1 d.2.2.2.2.1 }
def z2t : Nat → Nat → List Int → Option (LR z82 z81)
 | 0, _, _ => none
 | m + 1, s0, b68 =>
  if decide ((s0 : Int) > 0) = true then
  if (0 : Int) ≤ IntKind.i64.wrap ((s0 : Int) - 1) then
  if IntKind.i64.wrap ((s0 : Int) - 1) < s0 then
  if (b68.getD ((IntKind.i64.wrap ((s0 : Int) - 1)).toNat) 0 == 0) = true then
  if (0 : Int) ≤ IntKind.i64.wrap ((s0 : Int) - 1) then
  if IntKind.i64.wrap ((s0 : Int) - 1) ≤ s0 then
  z2t m ((IntKind.i64.wrap ((s0 : Int) - 1)).toNat) b68
  else none
  else none
  else
  some (.exit (s0, b68, ()))
  else none
  else none
  else
  some (.exit (s0, b68, ()))
def l_nat_N_trim__nat_N_Mul_1L : LSpec := { h := l_nat_N_trim__nat_N_Mul_1H, x := z82, r := z81, xid := 0, rt := false, pins := [68], f := fun k d => z2t k d.1 d.2.1 }
def zl9 : z29 := [([77], [(3, l_nat_N_Mul_3L), (7, l_nat_N_Mul_7L)]), ([85, 77], [(1, l_nat_N_trim__nat_N_Mul_1L)])]
def z4o (k : Nat) (a0 : List Int) (a1 : List Int) : Option (List Int) :=
 if (0 : Int) ≤ IntKind.i64.wrap ((a0.length : Int) + (a1.length : Int)) then
 if IntKind.i64.wrap ((a0.length : Int) + (a1.length : Int)) ≤ IntKind.i64.wrap ((a0.length : Int) + (a1.length : Int)) then
 if (IntKind.i64.wrap ((a0.length : Int) + (a1.length : Int))) * 4 ≤ 281474976710656 then
 match z7r k a1 a0 (a0.length : Int) 0 (List.replicate ((IntKind.i64.wrap ((a0.length : Int) + (a1.length : Int))).toNat) 0) with
 | none => none
 | some (.exit d1) =>
  match z2t k d1.1.length d1.1 with
  | none => none
  | some (.exit d2) =>
   some (d2.2.1.take d2.1)
  | some (.ret d2) =>
   none
 | some (.ret d1) =>
  none
 else none
 else none
 else none
theorem y4r (m : Nat) (d : dens l_nat_N_Mul_7H.tys) : l_nat_N_Mul_7L.f (m + 1) d = round zs7 zl9 m [77] 69 (z2w (z1j Tryd.f77) 1) l_nat_N_Mul_7L (l_nat_N_Mul_7L.f m) d := by kernel_rfl
theorem y4q (m : Nat) (d : dens l_nat_N_Mul_3H.tys) : l_nat_N_Mul_3L.f (m + 1) d = round zs7 zl9 m [77] 69 (z2w (z1j Tryd.f77) 0) l_nat_N_Mul_3L (l_nat_N_Mul_3L.f m) d := by kernel_rfl
theorem zd9 (m : Nat) (d : dens l_nat_N_trim__nat_N_Mul_1H.tys) : l_nat_N_trim__nat_N_Mul_1L.f (m + 1) d = round zs7 zl9 m [85, 77] 21 (z2w (z1j Tryd.f85) 0) l_nat_N_trim__nat_N_Mul_1L (l_nat_N_trim__nat_N_Mul_1L.f m) d := by kernel_rfl
def y6w (k : Nat) : Vm.Spec := { ps := [.slice (.int .u32), .slice (.int .u32)], rs := [.fresh (.int .u32)], f := fun x => z4o k x.1 x.2 }
noncomputable def zi5 : Vm.Spec := y6w fuel
theorem z7i : Vm.Spec.holds Tryd.prog 77 zi5 := z16 (E := zs7) (L := zl9) (fn := Tryd.f77) (Z := y6w) (z1u ok) (z0s (by exact trivial)) z17 (zd1 (by exact ⟨by kernel_rfl, by kernel_rfl, trivial⟩)) (z4z (by exact ⟨(z2x [[77]] (by exact ⟨z0o (ls := [(1, l_nat_N_trim__nat_N_Mul_1L)]) rfl rfl ⟨by kernel_rfl, fun _ => rfl, zd9, z0p (by kernel_rfl)⟩,  trivial⟩) rfl),  trivial⟩)) (by kernel_rfl) (by kernel_rfl) (z0o (ls := [(3, l_nat_N_Mul_3L), (7, l_nat_N_Mul_7L)]) rfl rfl ⟨by kernel_rfl, fun _ => rfl, y4q, by kernel_rfl, fun _ => rfl, y4r, z0p (by kernel_rfl)⟩) fun k x => by kernel_rfl
noncomputable def y2r : Env := { te := te, spec := [], body := [(85, Tryd.f85)] }
def l_nat_N_Sub_4H : Ann := { slots := [(0, .one (.val (.slice (.int .u32)))), (1, .one (.val (.slice (.int .u32)))), (5, .one (.own 44 (.int .u32))), (6, .one (.val (.int .i64))), (13, .one (.val (.int .i64))), (14, .one (.val (.int .i64)))], objs := [(44, .buf (.int .u32))] }
def y2m : Ann := { slots := [(5, .one (.own 44 (.int .u32)))], objs := [(44, .buf (.int .u32))] }
def y2l : Ann := { slots := [], objs := [] }
def l_nat_N_trim__nat_N_Sub_1H : Ann := { slots := [(0, .one (.pre 44 (.int .u32)))], objs := [(44, .buf (.int .u32))] }
def z84 : Ann := { slots := [(0, .one (.pre 44 (.int .u32)))], objs := [(44, .buf (.int .u32))] }
def z83 : Ann := { slots := [], objs := [] }
def z47 : Nat → List Int → List Int → Int → Int → Int → List Int → Option (LR y2m y2l)
 | 0, _, _, _, _, _, _ => none
 | m + 1, s0, s1, s6, s13, s14, b44 =>
  if decide (s14 < s13) = true then
  if (0 : Int) ≤ s14 then
  if s14 < s0.length then
  if decide (s14 < (s1.length : Int)) = true then
  if (0 : Int) ≤ s14 then
  if s14 < s1.length then
  if decide (IntKind.i64.wrap ((IntKind.i64.wrap ((IntKind.i64.wrap (s0.getD s14.toNat 0)) - s6)) - (IntKind.i64.wrap (s1.getD s14.toNat 0))) < 0) = true then
  if (0 : Int) ≤ s14 then
  if s14 < b44.length then
  z47 m s0 s1 1 s13 (IntKind.i64.wrap (s14 + 1)) (b44.set s14.toNat (IntKind.u32.wrap (IntKind.i64.wrap ((IntKind.i64.wrap ((IntKind.i64.wrap ((IntKind.i64.wrap (s0.getD s14.toNat 0)) - s6)) - (IntKind.i64.wrap (s1.getD s14.toNat 0)))) + 1000000000))))
  else none
  else none
  else
  if (0 : Int) ≤ s14 then
  if s14 < b44.length then
  z47 m s0 s1 0 s13 (IntKind.i64.wrap (s14 + 1)) (b44.set s14.toNat (IntKind.u32.wrap (IntKind.i64.wrap ((IntKind.i64.wrap ((IntKind.i64.wrap (s0.getD s14.toNat 0)) - s6)) - (IntKind.i64.wrap (s1.getD s14.toNat 0))))))
  else none
  else none
  else none
  else none
  else
  if decide (IntKind.i64.wrap ((IntKind.i64.wrap (s0.getD s14.toNat 0)) - s6) < 0) = true then
  if (0 : Int) ≤ s14 then
  if s14 < b44.length then
  z47 m s0 s1 1 s13 (IntKind.i64.wrap (s14 + 1)) (b44.set s14.toNat (IntKind.u32.wrap (IntKind.i64.wrap ((IntKind.i64.wrap ((IntKind.i64.wrap (s0.getD s14.toNat 0)) - s6)) + 1000000000))))
  else none
  else none
  else
  if (0 : Int) ≤ s14 then
  if s14 < b44.length then
  z47 m s0 s1 0 s13 (IntKind.i64.wrap (s14 + 1)) (b44.set s14.toNat (IntKind.u32.wrap (IntKind.i64.wrap ((IntKind.i64.wrap (s0.getD s14.toNat 0)) - s6))))
  else none
  else none
  else none
  else none
  else
  some (.exit (b44, ()))
def l_nat_N_Sub_4L : LSpec := { h := l_nat_N_Sub_4H, x := y2m, r := y2l, xid := 0, rt := false, pins := [44], f := fun k d => z47 k d.1 d.2.1 d.2.2.1 d.2.2.2.1 d.2.2.2.2.1 d.2.2.2.2.2.1 }
def z2u : Nat → Nat → List Int → Option (LR z84 z83)
 | 0, _, _ => none
 | m + 1, s0, b44 =>
  if decide ((s0 : Int) > 0) = true then
  if (0 : Int) ≤ IntKind.i64.wrap ((s0 : Int) - 1) then
  if IntKind.i64.wrap ((s0 : Int) - 1) < s0 then
  if (b44.getD ((IntKind.i64.wrap ((s0 : Int) - 1)).toNat) 0 == 0) = true then
  if (0 : Int) ≤ IntKind.i64.wrap ((s0 : Int) - 1) then
  if IntKind.i64.wrap ((s0 : Int) - 1) ≤ s0 then
  z2u m ((IntKind.i64.wrap ((s0 : Int) - 1)).toNat) b44
  else none
  else none
  else
  some (.exit (s0, b44, ()))
  else none
  else none
  else
  some (.exit (s0, b44, ()))
def l_nat_N_trim__nat_N_Sub_1L : LSpec := { h := l_nat_N_trim__nat_N_Sub_1H, x := z84, r := z83, xid := 0, rt := false, pins := [44], f := fun k d => z2u k d.1 d.2.1 }
def zz5 : z29 := [([80], [(4, l_nat_N_Sub_4L)]), ([85, 80], [(1, l_nat_N_trim__nat_N_Sub_1L)])]
def zj7 (k : Nat) (a0 : List Int) (a1 : List Int) : Option (List Int) :=
 if (0 : Int) ≤ (a0.length : Int) then
 if (a0.length : Int) ≤ (a0.length : Int) then
 if (a0.length : Int) * 4 ≤ 281474976710656 then
 match z47 k a0 a1 0 (a0.length : Int) 0 (List.replicate ((a0.length : Int).toNat) 0) with
 | none => none
 | some (.exit d1) =>
  match z2u k d1.1.length d1.1 with
  | none => none
  | some (.exit d2) =>
   some (d2.2.1.take d2.1)
  | some (.ret d2) =>
   none
 | some (.ret d1) =>
  none
 else none
 else none
 else none
theorem y4s (m : Nat) (d : dens l_nat_N_Sub_4H.tys) : l_nat_N_Sub_4L.f (m + 1) d = round y2r zz5 m [80] 47 (z2w (z1j Tryd.f80) 0) l_nat_N_Sub_4L (l_nat_N_Sub_4L.f m) d := by kernel_rfl
theorem ze0 (m : Nat) (d : dens l_nat_N_trim__nat_N_Sub_1H.tys) : l_nat_N_trim__nat_N_Sub_1L.f (m + 1) d = round y2r zz5 m [85, 80] 21 (z2w (z1j Tryd.f85) 0) l_nat_N_trim__nat_N_Sub_1L (l_nat_N_trim__nat_N_Sub_1L.f m) d := by kernel_rfl
def y6x (k : Nat) : Vm.Spec := { ps := [.slice (.int .u32), .slice (.int .u32)], rs := [.fresh (.int .u32)], f := fun x => zj7 k x.1 x.2 }
noncomputable def y8e : Vm.Spec := y6x fuel
theorem y5u : Vm.Spec.holds Tryd.prog 80 y8e := z16 (E := y2r) (L := zz5) (fn := Tryd.f80) (Z := y6x) (z1u ok) (z0s (by exact trivial)) z17 (zd1 (by exact ⟨by kernel_rfl, by kernel_rfl, trivial⟩)) (z4z (by exact ⟨(z2x [[80]] (by exact ⟨z0o (ls := [(1, l_nat_N_trim__nat_N_Sub_1L)]) rfl rfl ⟨by kernel_rfl, fun _ => rfl, ze0, z0p (by kernel_rfl)⟩,  trivial⟩) rfl),  trivial⟩)) (by kernel_rfl) (by kernel_rfl) (z0o (ls := [(4, l_nat_N_Sub_4L)]) rfl rfl ⟨by kernel_rfl, fun _ => rfl, y4s, z0p (by kernel_rfl)⟩) fun k x => by kernel_rfl
noncomputable def y6j : Env := { te := te, spec := [], body := [] }
def l_nat_N_trim_1H : Ann := { slots := [(0, .one (.val (.slice (.int .u32))))], objs := [] }
def y0r : Ann := { slots := [(0, .one (.val (.slice (.int .u32))))], objs := [] }
def y0q : Ann := { slots := [], objs := [] }
def z6p : Nat → List Int → Option (LR y0r y0q)
 | 0, _ => none
 | m + 1, s0 =>
  if decide ((s0.length : Int) > 0) = true then
  if (0 : Int) ≤ IntKind.i64.wrap ((s0.length : Int) - 1) then
  if IntKind.i64.wrap ((s0.length : Int) - 1) < s0.length then
  if (s0.getD ((IntKind.i64.wrap ((s0.length : Int) - 1)).toNat) 0 == 0) = true then
  if (0 : Int) ≤ IntKind.i64.wrap ((s0.length : Int) - 1) then
  if IntKind.i64.wrap ((s0.length : Int) - 1) ≤ s0.length then
  z6p m ((s0.take (IntKind.i64.wrap ((s0.length : Int) - 1)).toNat).drop 0)
  else none
  else none
  else
  some (.exit (s0, ()))
  else none
  else none
  else
  some (.exit (s0, ()))
def l_nat_N_trim_1L : LSpec := { h := l_nat_N_trim_1H, x := y0r, r := y0q, xid := 0, rt := false, pins := [], f := fun k d => z6p k d.1 }
def y3s : z29 := [([85], [(1, l_nat_N_trim_1L)])]
def z73 (k : Nat) (a0 : List Int) : Option (List Int) :=
 match z6p k a0 with
 | none => none
 | some (.exit d1) =>
  some d1.1
 | some (.ret d1) =>
  none
theorem y3c (m : Nat) (d : dens l_nat_N_trim_1H.tys) : l_nat_N_trim_1L.f (m + 1) d = round y6j y3s m [85] 21 (z2w (z1j Tryd.f85) 0) l_nat_N_trim_1L (l_nat_N_trim_1L.f m) d := by kernel_rfl
def y43 (k : Nat) : Vm.Spec := { ps := [.slice (.int .u32)], rs := [.imm (.slice (.int .u32))], f := fun x => z73 k x }
noncomputable def y00 : Vm.Spec := y43 fuel
theorem zm7 : Vm.Spec.holds Tryd.prog 85 y00 := z16 (E := y6j) (L := y3s) (fn := Tryd.f85) (Z := y43) (z1u ok) (z0s (by exact trivial)) z17 (z0a rfl) (z01 rfl) (by kernel_rfl) (by kernel_rfl) (z0o (ls := [(1, l_nat_N_trim_1L)]) rfl rfl ⟨by kernel_rfl, fun _ => rfl, y3c, z0p (by kernel_rfl)⟩) fun k x => by kernel_rfl
noncomputable def y3n : Env := { te := te, spec := [(85, y00)], body := [] }
def l_nat_N_short_4H : Ann := { slots := [(0, .one (.val (.slice (.int .u32)))), (1, .one (.val (.int .u32))), (6, .one (.own 44 (.int .u32))), (7, .one (.val (.int .u64))), (8, .one (.val (.int .i64)))], objs := [(44, .buf (.int .u32))] }
def zx7 : Ann := { slots := [(6, .one (.own 44 (.int .u32))), (7, .one (.val (.int .u64)))], objs := [(44, .buf (.int .u32))] }
def zx6 : Ann := { slots := [], objs := [] }
def z5a : Nat → List Int → Int → Int → Int → List Int → Option (LR zx7 zx6)
 | 0, _, _, _, _, _ => none
 | m + 1, s0, s1, s7, s8, b44 =>
  if decide (s8 ≥ 0) = true then
  if (0 : Int) ≤ s8 then
  if s8 < s0.length then
  if IntKind.u64.wrap (s1) = 0 then
  none
  else
  if (0 : Int) ≤ s8 then
  if s8 < b44.length then
  if IntKind.u64.wrap (s1) = 0 then
  none
  else
  z5a m s0 s1 ((IntKind.u64.wrap ((IntKind.u64.wrap (s7 * 1000000000)) + (IntKind.u64.wrap (s0.getD s8.toNat 0)))).tmod (IntKind.u64.wrap (s1))) (IntKind.i64.wrap (s8 - 1)) (b44.set s8.toNat (IntKind.u32.wrap (IntKind.u64.wrap ((IntKind.u64.wrap ((IntKind.u64.wrap (s7 * 1000000000)) + (IntKind.u64.wrap (s0.getD s8.toNat 0)))).tdiv (IntKind.u64.wrap (s1))))))
  else none
  else none
  else none
  else none
  else
  some (.exit (s7, b44, ()))
def l_nat_N_short_4L : LSpec := { h := l_nat_N_short_4H, x := zx7, r := zx6, xid := 0, rt := false, pins := [44], f := fun k d => z5a k d.1 d.2.1 d.2.2.1 d.2.2.2.1 d.2.2.2.2.1 }
def y1t : z29 := [([90], [(4, l_nat_N_short_4L)])]
def z9l (k : Nat) (a0 : List Int) (a1 : Int) : Option ((List Int) × (List Int)) :=
 if (0 : Int) ≤ (a0.length : Int) then
 if (a0.length : Int) ≤ (a0.length : Int) then
 if (a0.length : Int) * 4 ≤ 281474976710656 then
 match z5a k a0 a1 0 (IntKind.i64.wrap ((a0.length : Int) - 1)) (List.replicate ((a0.length : Int).toNat) 0) with
 | none => none
 | some (.exit d1) =>
  (z73 fuel d1.2.1).bind fun r2 =>
  (z73 fuel [IntKind.u32.wrap (d1.1)]).bind fun r3 =>
  some (r2, r3)
 | some (.ret d1) =>
  none
 else none
 else none
 else none
theorem y1p (m : Nat) (d : dens l_nat_N_short_4H.tys) : l_nat_N_short_4L.f (m + 1) d = round y3n y1t m [90] 45 (z2w (z1j Tryd.f90) 0) l_nat_N_short_4L (l_nat_N_short_4L.f m) d := by kernel_rfl
def y1w (k : Nat) : Vm.Spec := { ps := [.slice (.int .u32), .int .u32], rs := [.imm (.slice (.int .u32)), .imm (.slice (.int .u32))], f := fun x => z9l k x.1 x.2 }
noncomputable def y3v : Vm.Spec := y1w fuel
theorem y33 : Vm.Spec.holds Tryd.prog 90 y3v := z16 (E := y3n) (L := y1t) (fn := Tryd.f90) (Z := y1w) (z1u ok) (z0s (by exact ⟨⟨by kernel_rfl, zm7⟩, trivial⟩)) z17 (z0a rfl) (z01 rfl) (by kernel_rfl) (by kernel_rfl) (z0o (ls := [(4, l_nat_N_short_4L)]) rfl rfl ⟨by kernel_rfl, fun _ => rfl, y1p, z0p (by kernel_rfl)⟩) fun k x => by kernel_rfl
noncomputable def za3 : Env := { te := te, spec := [(73, zi4), (77, zi5), (85, y00), (90, y3v)], body := [(91, Tryd.f91), (92, Tryd.f92)] }
def l_nat_N_Div_7H : Ann := { slots := [(0, .one (.val (.slice (.int .u32)))), (7, .one (.own 188 (.int .u32)))], objs := [(188, .buf (.int .u32))] }
def y2e : Ann := { slots := [(7, .one (.own 188 (.int .u32)))], objs := [(188, .buf (.int .u32))] }
def y2d : Ann := { slots := [], objs := [] }
def l_nat_N_Div_16H : Ann := { slots := [(7, .one (.own 188 (.int .u32))), (8, .one (.own 204 (.int .u32))), (9, .one (.val (.int .i64))), (11, .one (.val (.int .i64))), (13, .one (.val (.int .u64))), (14, .one (.val (.int .u64)))], objs := [(188, .buf (.int .u32)), (204, .buf (.int .u32))] }
def zk5 : Ann := { slots := [(7, .one (.own 188 (.int .u32))), (8, .one (.own 204 (.int .u32))), (13, .one (.val (.int .u64)))], objs := [(188, .buf (.int .u32)), (204, .buf (.int .u32))] }
def zk4 : Ann := { slots := [], objs := [] }
def l_nat_N_minus__nat_N_Div_4H : Ann := { slots := [(0, .one (.own 188 (.int .u32))), (1, .one (.own 204 (.int .u32))), (2, .one (.val (.int .i64))), (3, .one (.val (.int .u64))), (9, .one (.val (.int .i64))), (10, .one (.val (.int .u64))), (11, .one (.val (.int .i64)))], objs := [(188, .buf (.int .u32)), (204, .buf (.int .u32))] }
def z7b : Ann := { slots := [(9, .one (.val (.int .i64)))], objs := [(188, .buf (.int .u32)), (204, .buf (.int .u32))] }
def z7a : Ann := { slots := [], objs := [] }
def l_nat_N_plus__nat_N_Div_2H : Ann := { slots := [(0, .one (.own 188 (.int .u32))), (1, .one (.own 204 (.int .u32))), (2, .one (.val (.int .i64))), (6, .one (.val (.int .u32))), (7, .one (.val (.int .i64)))], objs := [(188, .buf (.int .u32)), (204, .buf (.int .u32))] }
def z80 : Ann := { slots := [], objs := [(188, .buf (.int .u32)), (204, .buf (.int .u32))] }
def z7z : Ann := { slots := [], objs := [] }
def l_nat_N_Div_12H : Ann := { slots := [(7, .one (.own 188 (.int .u32))), (8, .one (.own 204 (.int .u32))), (9, .one (.val (.int .i64))), (10, .one (.own 264 (.int .u32))), (11, .one (.val (.int .i64)))], objs := [(188, .buf (.int .u32)), (204, .buf (.int .u32)), (264, .buf (.int .u32))] }
def y0n : Ann := { slots := [(7, .one (.own 188 (.int .u32))), (10, .one (.own 264 (.int .u32)))], objs := [(188, .buf (.int .u32)), (264, .buf (.int .u32)), (204, .buf (.int .u32))] }
def y0m : Ann := { slots := [], objs := [] }
def z9r : Nat → List Int → List Int → Option (LR y2e y2d)
 | 0, _, _ => none
 | m + 1, s0, b188 =>
  if decide ((b188.length : Int) ≤ (s0.length : Int)) = true then
  if (b188.length + 1) * 4 ≤ 140737488355328 then
  z9r m s0 (b188 ++ [0])
  else none
  else
  some (.exit (b188, ()))
def l_nat_N_Div_7L : LSpec := { h := l_nat_N_Div_7H, x := y2e, r := y2d, xid := 0, rt := false, pins := [], f := fun k d => z9r k d.1 d.2.1 }
def z5z : Nat → Int → Int → Int → Int → List Int → List Int → Option (LR zk5 zk4)
 | 0, _, _, _, _, _, _ => none
 | m + 1, s9, s11, s13, s14, b188, b204 =>
  if decide (s13 ≥ 1000000000) = false then
  if (0 : Int) ≤ IntKind.i64.wrap (s9 - 2) then
  if IntKind.i64.wrap (s9 - 2) < b204.length then
  if (0 : Int) ≤ IntKind.i64.wrap ((IntKind.i64.wrap (s11 + s9)) - 2) then
  if IntKind.i64.wrap ((IntKind.i64.wrap (s11 + s9)) - 2) < b188.length then
  if decide (IntKind.u64.wrap (s13 * (IntKind.u64.wrap (b204.getD ((IntKind.i64.wrap (s9 - 2)).toNat) 0))) > IntKind.u64.wrap ((IntKind.u64.wrap (s14 * 1000000000)) + (IntKind.u64.wrap (b188.getD ((IntKind.i64.wrap ((IntKind.i64.wrap (s11 + s9)) - 2)).toNat) 0)))) = true then
  if (0 : Int) ≤ IntKind.i64.wrap (s9 - 1) then
  if IntKind.i64.wrap (s9 - 1) < b204.length then
  if decide (IntKind.u64.wrap (s14 + (IntKind.u64.wrap (b204.getD ((IntKind.i64.wrap (s9 - 1)).toNat) 0))) ≥ 1000000000) = true then
  some (.exit (IntKind.u64.wrap (s13 - 1), b188, b204, ()))
  else
  z5z m s9 s11 (IntKind.u64.wrap (s13 - 1)) (IntKind.u64.wrap (s14 + (IntKind.u64.wrap (b204.getD ((IntKind.i64.wrap (s9 - 1)).toNat) 0)))) b188 b204
  else none
  else none
  else
  some (.exit (s13, b188, b204, ()))
  else none
  else none
  else none
  else none
  else
  if (0 : Int) ≤ IntKind.i64.wrap (s9 - 1) then
  if IntKind.i64.wrap (s9 - 1) < b204.length then
  if decide (IntKind.u64.wrap (s14 + (IntKind.u64.wrap (b204.getD ((IntKind.i64.wrap (s9 - 1)).toNat) 0))) ≥ 1000000000) = true then
  some (.exit (IntKind.u64.wrap (s13 - 1), b188, b204, ()))
  else
  z5z m s9 s11 (IntKind.u64.wrap (s13 - 1)) (IntKind.u64.wrap (s14 + (IntKind.u64.wrap (b204.getD ((IntKind.i64.wrap (s9 - 1)).toNat) 0)))) b188 b204
  else none
  else none
def l_nat_N_Div_16L : LSpec := { h := l_nat_N_Div_16H, x := zk5, r := zk4, xid := 4, rt := false, pins := [188, 204], f := fun k d => z5z k d.1 d.2.1 d.2.2.1 d.2.2.2.1 d.2.2.2.2.1 d.2.2.2.2.2.1 }
def z14 : Nat → Int → Int → Int → Int → Int → List Int → List Int → Option (LR z7b z7a)
 | 0, _, _, _, _, _, _, _ => none
 | m + 1, s2, s3, s9, s10, s11, b188, b204 =>
  if decide (s11 ≤ (b204.length : Int)) = true then
  if decide (s11 < (b204.length : Int)) = true then
  if (0 : Int) ≤ s11 then
  if s11 < b204.length then
  if (0 : Int) ≤ IntKind.i64.wrap (s2 + s11) then
  if IntKind.i64.wrap (s2 + s11) < b188.length then
  if decide (IntKind.i64.wrap ((IntKind.i64.wrap ((IntKind.i64.wrap (b188.getD ((IntKind.i64.wrap (s2 + s11)).toNat) 0)) - (IntKind.i64.wrap ((IntKind.u64.wrap (s10 + (IntKind.u64.wrap (s3 * (IntKind.u64.wrap (b204.getD s11.toNat 0)))))).tmod 1000000000)))) - s9) < 0) = true then
  if (0 : Int) ≤ IntKind.i64.wrap (s2 + s11) then
  if IntKind.i64.wrap (s2 + s11) < b188.length then
  z14 m s2 s3 1 (IntKind.u64.wrap ((IntKind.u64.wrap (s10 + (IntKind.u64.wrap (s3 * (IntKind.u64.wrap (b204.getD s11.toNat 0)))))).tdiv 1000000000)) (IntKind.i64.wrap (s11 + 1)) (b188.set ((IntKind.i64.wrap (s2 + s11)).toNat) (IntKind.u32.wrap (IntKind.i64.wrap ((IntKind.i64.wrap ((IntKind.i64.wrap ((IntKind.i64.wrap (b188.getD ((IntKind.i64.wrap (s2 + s11)).toNat) 0)) - (IntKind.i64.wrap ((IntKind.u64.wrap (s10 + (IntKind.u64.wrap (s3 * (IntKind.u64.wrap (b204.getD s11.toNat 0)))))).tmod 1000000000)))) - s9)) + 1000000000)))) b204
  else none
  else none
  else
  if (0 : Int) ≤ IntKind.i64.wrap (s2 + s11) then
  if IntKind.i64.wrap (s2 + s11) < b188.length then
  z14 m s2 s3 0 (IntKind.u64.wrap ((IntKind.u64.wrap (s10 + (IntKind.u64.wrap (s3 * (IntKind.u64.wrap (b204.getD s11.toNat 0)))))).tdiv 1000000000)) (IntKind.i64.wrap (s11 + 1)) (b188.set ((IntKind.i64.wrap (s2 + s11)).toNat) (IntKind.u32.wrap (IntKind.i64.wrap ((IntKind.i64.wrap ((IntKind.i64.wrap (b188.getD ((IntKind.i64.wrap (s2 + s11)).toNat) 0)) - (IntKind.i64.wrap ((IntKind.u64.wrap (s10 + (IntKind.u64.wrap (s3 * (IntKind.u64.wrap (b204.getD s11.toNat 0)))))).tmod 1000000000)))) - s9)))) b204
  else none
  else none
  else none
  else none
  else none
  else none
  else
  if (0 : Int) ≤ IntKind.i64.wrap (s2 + s11) then
  if IntKind.i64.wrap (s2 + s11) < b188.length then
  if decide (IntKind.i64.wrap ((IntKind.i64.wrap ((IntKind.i64.wrap (b188.getD ((IntKind.i64.wrap (s2 + s11)).toNat) 0)) - (IntKind.i64.wrap (s10.tmod 1000000000)))) - s9) < 0) = true then
  if (0 : Int) ≤ IntKind.i64.wrap (s2 + s11) then
  if IntKind.i64.wrap (s2 + s11) < b188.length then
  z14 m s2 s3 1 (IntKind.u64.wrap (s10.tdiv 1000000000)) (IntKind.i64.wrap (s11 + 1)) (b188.set ((IntKind.i64.wrap (s2 + s11)).toNat) (IntKind.u32.wrap (IntKind.i64.wrap ((IntKind.i64.wrap ((IntKind.i64.wrap ((IntKind.i64.wrap (b188.getD ((IntKind.i64.wrap (s2 + s11)).toNat) 0)) - (IntKind.i64.wrap (s10.tmod 1000000000)))) - s9)) + 1000000000)))) b204
  else none
  else none
  else
  if (0 : Int) ≤ IntKind.i64.wrap (s2 + s11) then
  if IntKind.i64.wrap (s2 + s11) < b188.length then
  z14 m s2 s3 0 (IntKind.u64.wrap (s10.tdiv 1000000000)) (IntKind.i64.wrap (s11 + 1)) (b188.set ((IntKind.i64.wrap (s2 + s11)).toNat) (IntKind.u32.wrap (IntKind.i64.wrap ((IntKind.i64.wrap ((IntKind.i64.wrap (b188.getD ((IntKind.i64.wrap (s2 + s11)).toNat) 0)) - (IntKind.i64.wrap (s10.tmod 1000000000)))) - s9)))) b204
  else none
  else none
  else none
  else none
  else
  some (.exit (s9, b188, b204, ()))
def l_nat_N_minus__nat_N_Div_4L : LSpec := { h := l_nat_N_minus__nat_N_Div_4H, x := z7b, r := z7a, xid := 0, rt := false, pins := [188, 204], f := fun k d => z14 k d.1 d.2.1 d.2.2.1 d.2.2.2.1 d.2.2.2.2.1 d.2.2.2.2.2.1 d.2.2.2.2.2.2.1 }
def z1t : Nat → Int → Int → Int → List Int → List Int → Option (LR z80 z7z)
 | 0, _, _, _, _, _ => none
 | m + 1, s2, s6, s7, b188, b204 =>
  if decide (s7 ≤ (b204.length : Int)) = true then
  if (0 : Int) ≤ IntKind.i64.wrap (s2 + s7) then
  if IntKind.i64.wrap (s2 + s7) < b188.length then
  if decide (s7 < (b204.length : Int)) = true then
  if (0 : Int) ≤ s7 then
  if s7 < b204.length then
  if (0 : Int) ≤ IntKind.i64.wrap (s2 + s7) then
  if IntKind.i64.wrap (s2 + s7) < b188.length then
  z1t m s2 (IntKind.u32.wrap ((IntKind.u32.wrap ((IntKind.u32.wrap ((b188.getD ((IntKind.i64.wrap (s2 + s7)).toNat) 0) + s6)) + (b204.getD s7.toNat 0))).tdiv 1000000000)) (IntKind.i64.wrap (s7 + 1)) (b188.set ((IntKind.i64.wrap (s2 + s7)).toNat) ((IntKind.u32.wrap ((IntKind.u32.wrap ((b188.getD ((IntKind.i64.wrap (s2 + s7)).toNat) 0) + s6)) + (b204.getD s7.toNat 0))).tmod 1000000000)) b204
  else none
  else none
  else none
  else none
  else
  if (0 : Int) ≤ IntKind.i64.wrap (s2 + s7) then
  if IntKind.i64.wrap (s2 + s7) < b188.length then
  z1t m s2 (IntKind.u32.wrap ((IntKind.u32.wrap ((b188.getD ((IntKind.i64.wrap (s2 + s7)).toNat) 0) + s6)).tdiv 1000000000)) (IntKind.i64.wrap (s7 + 1)) (b188.set ((IntKind.i64.wrap (s2 + s7)).toNat) ((IntKind.u32.wrap ((b188.getD ((IntKind.i64.wrap (s2 + s7)).toNat) 0) + s6)).tmod 1000000000)) b204
  else none
  else none
  else none
  else none
  else
  some (.exit (b188, b204, ()))
def l_nat_N_plus__nat_N_Div_2L : LSpec := { h := l_nat_N_plus__nat_N_Div_2H, x := z80, r := z7z, xid := 0, rt := false, pins := [188, 204], f := fun k d => z1t k d.1 d.2.1 d.2.2.1 d.2.2.2.1 d.2.2.2.2.1 }
def z56 : Nat → Int → Int → List Int → List Int → List Int → Option (LR y0n y0m)
 | 0, _, _, _, _, _ => none
 | m + 1, s9, s11, b188, b204, b264 =>
  if decide (s11 ≥ 0) = true then
  if (0 : Int) ≤ IntKind.i64.wrap (s11 + s9) then
  if IntKind.i64.wrap (s11 + s9) < b188.length then
  if (0 : Int) ≤ IntKind.i64.wrap ((IntKind.i64.wrap (s11 + s9)) - 1) then
  if IntKind.i64.wrap ((IntKind.i64.wrap (s11 + s9)) - 1) < b188.length then
  if (0 : Int) ≤ IntKind.i64.wrap (s9 - 1) then
  if IntKind.i64.wrap (s9 - 1) < b204.length then
  if IntKind.u64.wrap (b204.getD ((IntKind.i64.wrap (s9 - 1)).toNat) 0) = 0 then
  none
  else
  if (0 : Int) ≤ IntKind.i64.wrap (s9 - 1) then
  if IntKind.i64.wrap (s9 - 1) < b204.length then
  if IntKind.u64.wrap (b204.getD ((IntKind.i64.wrap (s9 - 1)).toNat) 0) = 0 then
  none
  else
  match z5z m s9 s11 (IntKind.u64.wrap ((IntKind.u64.wrap ((IntKind.u64.wrap ((IntKind.u64.wrap (b188.getD ((IntKind.i64.wrap (s11 + s9)).toNat) 0)) * 1000000000)) + (IntKind.u64.wrap (b188.getD ((IntKind.i64.wrap ((IntKind.i64.wrap (s11 + s9)) - 1)).toNat) 0)))).tdiv (IntKind.u64.wrap (b204.getD ((IntKind.i64.wrap (s9 - 1)).toNat) 0)))) ((IntKind.u64.wrap ((IntKind.u64.wrap ((IntKind.u64.wrap (b188.getD ((IntKind.i64.wrap (s11 + s9)).toNat) 0)) * 1000000000)) + (IntKind.u64.wrap (b188.getD ((IntKind.i64.wrap ((IntKind.i64.wrap (s11 + s9)) - 1)).toNat) 0)))).tmod (IntKind.u64.wrap (b204.getD ((IntKind.i64.wrap (s9 - 1)).toNat) 0))) b188 b204 with
  | none => none
  | some (.exit d1) =>
   match z14 m s11 d1.1 0 0 0 d1.2.1 d1.2.2.1 with
   | none => none
   | some (.exit d2) =>
    if decide (d2.1 > 0) = true then
    match z1t m s11 0 0 d2.2.1 d2.2.2.1 with
    | none => none
    | some (.exit d3) =>
     if (0 : Int) ≤ s11 then
     if s11 < b264.length then
     z56 m s9 (IntKind.i64.wrap (s11 - 1)) d3.1 d3.2.1 (b264.set s11.toNat (IntKind.u32.wrap (IntKind.u64.wrap (d1.1 - 1))))
     else none
     else none
    | some (.ret d3) =>
     none
    else
    if (0 : Int) ≤ s11 then
    if s11 < b264.length then
    z56 m s9 (IntKind.i64.wrap (s11 - 1)) d2.2.1 d2.2.2.1 (b264.set s11.toNat (IntKind.u32.wrap (d1.1)))
    else none
    else none
   | some (.ret d2) =>
    none
  | some (.ret d1) =>
   none
  else none
  else none
  else none
  else none
  else none
  else none
  else none
  else none
  else
  some (.exit (b188, b264, b204, ()))
def l_nat_N_Div_12L : LSpec := { h := l_nat_N_Div_12H, x := y0n, r := y0m, xid := 2, rt := false, pins := [188, 204, 264], f := fun k d => z56 k d.1 d.2.1 d.2.2.1 d.2.2.2.1 d.2.2.2.2.1 }
def z8u : z29 := [([86], [(7, l_nat_N_Div_7L), (12, l_nat_N_Div_12L), (16, l_nat_N_Div_16L)]), ([91, 86], [(4, l_nat_N_minus__nat_N_Div_4L)]), ([92, 86], [(2, l_nat_N_plus__nat_N_Div_2L)])]
def za5 (k : Nat) (a0 : List Int) (a1 : List Int) : Option ((List Int) × (List Int)) :=
 (z4n fuel a0 a1).bind fun r1 =>
 if decide (r1 < 0) = true then
 some ([], a0)
 else
 if ((a1.length : Int) == 1) = true then
 if (0 : Int) < a1.length then
 (z9l fuel a0 (a1.getD 0 0)).bind fun r2 =>
 some (r2.1, r2.2)
 else none
 else
 if (0 : Int) ≤ IntKind.i64.wrap ((a1.length : Int) - 1) then
 if IntKind.i64.wrap ((a1.length : Int) - 1) < a1.length then
 if IntKind.u64.wrap ((IntKind.u64.wrap (a1.getD ((IntKind.i64.wrap ((a1.length : Int) - 1)).toNat) 0)) + 1) = 0 then
 none
 else
 (z4o fuel a0 [IntKind.u32.wrap (IntKind.u64.wrap ((1000000000 : Int).tdiv (IntKind.u64.wrap ((IntKind.u64.wrap (a1.getD ((IntKind.i64.wrap ((a1.length : Int) - 1)).toNat) 0)) + 1))))]).bind fun r3 =>
 if (r3.length + 1) * 4 ≤ 140737488355328 then
 (z4o fuel a1 [IntKind.u32.wrap (IntKind.u64.wrap ((1000000000 : Int).tdiv (IntKind.u64.wrap ((IntKind.u64.wrap (a1.getD ((IntKind.i64.wrap ((a1.length : Int) - 1)).toNat) 0)) + 1))))]).bind fun r4 =>
 match z9r k a0 (r3 ++ [0]) with
 | none => none
 | some (.exit d5) =>
  if (0 : Int) ≤ IntKind.i64.wrap ((d5.1.length : Int) - (r4.length : Int)) then
  if IntKind.i64.wrap ((d5.1.length : Int) - (r4.length : Int)) ≤ IntKind.i64.wrap ((d5.1.length : Int) - (r4.length : Int)) then
  if (IntKind.i64.wrap ((d5.1.length : Int) - (r4.length : Int))) * 4 ≤ 281474976710656 then
  match z56 k (r4.length : Int) (IntKind.i64.wrap ((IntKind.i64.wrap ((d5.1.length : Int) - (r4.length : Int))) - 1)) d5.1 r4 (List.replicate ((IntKind.i64.wrap ((d5.1.length : Int) - (r4.length : Int))).toNat) 0) with
  | none => none
  | some (.exit d6) =>
   (z73 fuel d6.1).bind fun r7 =>
   (z9l fuel r7 (IntKind.u32.wrap (IntKind.u64.wrap ((1000000000 : Int).tdiv (IntKind.u64.wrap ((IntKind.u64.wrap (a1.getD ((IntKind.i64.wrap ((a1.length : Int) - 1)).toNat) 0)) + 1)))))).bind fun r8 =>
   (z73 fuel d6.2.1).bind fun r9 =>
   some (r9, r8.1)
  | some (.ret d6) =>
   none
  else none
  else none
  else none
 | some (.ret d5) =>
  none
 else none
 else none
 else none
theorem y4o (m : Nat) (d : dens l_nat_N_Div_7H.tys) : l_nat_N_Div_7L.f (m + 1) d = round za3 z8u m [86] 171 (z2w (z1j Tryd.f86) 0) l_nat_N_Div_7L (l_nat_N_Div_7L.f m) d := by kernel_rfl
theorem y3a (m : Nat) (d : dens l_nat_N_Div_16H.tys) : l_nat_N_Div_16L.f (m + 1) d = round za3 z8u m [86] 171 (z2w (z1j Tryd.f86) 2) l_nat_N_Div_16L (l_nat_N_Div_16L.f m) d := by kernel_rfl
theorem zb0 (m : Nat) (d : dens l_nat_N_minus__nat_N_Div_4H.tys) : l_nat_N_minus__nat_N_Div_4L.f (m + 1) d = round za3 z8u m [91, 86] 62 (z2w (z1j Tryd.f91) 0) l_nat_N_minus__nat_N_Div_4L (l_nat_N_minus__nat_N_Div_4L.f m) d := by kernel_rfl
theorem zd8 (m : Nat) (d : dens l_nat_N_plus__nat_N_Div_2H.tys) : l_nat_N_plus__nat_N_Div_2L.f (m + 1) d = round za3 z8u m [92, 86] 42 (z2w (z1j Tryd.f92) 0) l_nat_N_plus__nat_N_Div_2L (l_nat_N_plus__nat_N_Div_2L.f m) d := by kernel_rfl
theorem y39 (m : Nat) (d : dens l_nat_N_Div_12H.tys) : l_nat_N_Div_12L.f (m + 1) d = round za3 z8u m [86] 171 (z2w (z1j Tryd.f86) 1) l_nat_N_Div_12L (l_nat_N_Div_12L.f m) d := by kernel_rfl
def y6u (k : Nat) : Vm.Spec := { ps := [.slice (.int .u32), .slice (.int .u32)], rs := [.imm (.slice (.int .u32)), .imm (.slice (.int .u32))], f := fun x => za5 k x.1 x.2 }
noncomputable def y2u : Vm.Spec := y6u fuel
theorem zq4 : Vm.Spec.holds Tryd.prog 86 y2u := z16 (E := za3) (L := z8u) (fn := Tryd.f86) (Z := y6u) (z1u ok) (z0s (by exact ⟨⟨by kernel_rfl, z7h⟩, ⟨by kernel_rfl, z7i⟩, ⟨by kernel_rfl, zm7⟩, ⟨by kernel_rfl, y33⟩, trivial⟩)) z17 (zd1 (by exact ⟨by kernel_rfl, by kernel_rfl, by kernel_rfl, by kernel_rfl, trivial⟩)) (z4z (by exact ⟨(z2x [[86]] (by exact ⟨z0o (ls := [(4, l_nat_N_minus__nat_N_Div_4L)]) rfl rfl ⟨by kernel_rfl, fun _ => rfl, zb0, z0p (by kernel_rfl)⟩,  trivial⟩) rfl), (z2x [[86]] (by exact ⟨z0o (ls := [(2, l_nat_N_plus__nat_N_Div_2L)]) rfl rfl ⟨by kernel_rfl, fun _ => rfl, zd8, z0p (by kernel_rfl)⟩,  trivial⟩) rfl),  trivial⟩)) (by kernel_rfl) (by kernel_rfl) (z0o (ls := [(7, l_nat_N_Div_7L), (12, l_nat_N_Div_12L), (16, l_nat_N_Div_16L)]) rfl rfl ⟨by kernel_rfl, fun _ => rfl, y4o, by kernel_rfl, fun _ => rfl, y39, by kernel_rfl, fun _ => rfl, y3a, z0p (by kernel_rfl)⟩) fun k x => by kernel_rfl
noncomputable def y88 : Env := { te := te, spec := [(86, y2u)], body := [] }
def l_nat_N_Gcd_1H : Ann := { slots := [(0, .one (.val (.slice (.int .u32)))), (1, .one (.val (.slice (.int .u32))))], objs := [] }
def y2g : Ann := { slots := [(0, .one (.val (.slice (.int .u32))))], objs := [] }
def y2f : Ann := { slots := [], objs := [] }
def z7q : Nat → List Int → List Int → Option (LR y2g y2f)
 | 0, _, _ => none
 | m + 1, s0, s1 =>
  if decide ((s1.length : Int) > 0) = true then
  (za5 fuel s0 s1).bind fun r1 =>
  z7q m s1 r1.2
  else
  some (.exit (s0, ()))
def l_nat_N_Gcd_1L : LSpec := { h := l_nat_N_Gcd_1H, x := y2g, r := y2f, xid := 0, rt := false, pins := [], f := fun k d => z7q k d.1 d.2.1 }
def y6o : z29 := [([72], [(1, l_nat_N_Gcd_1L)])]
def z69 (k : Nat) (a0 : List Int) (a1 : List Int) : Option (List Int) :=
 match z7q k a0 a1 with
 | none => none
 | some (.exit d1) =>
  some d1.1
 | some (.ret d1) =>
  none
theorem y4p (m : Nat) (d : dens l_nat_N_Gcd_1H.tys) : l_nat_N_Gcd_1L.f (m + 1) d = round y88 y6o m [72] 19 (z2w (z1j Tryd.f72) 0) l_nat_N_Gcd_1L (l_nat_N_Gcd_1L.f m) d := by kernel_rfl
def y6v (k : Nat) : Vm.Spec := { ps := [.slice (.int .u32), .slice (.int .u32)], rs := [.imm (.slice (.int .u32))], f := fun x => z69 k x.1 x.2 }
noncomputable def y2v : Vm.Spec := y6v fuel
theorem zq5 : Vm.Spec.holds Tryd.prog 72 y2v := z16 (E := y88) (L := y6o) (fn := Tryd.f72) (Z := y6v) (z1u ok) (z0s (by exact ⟨⟨by kernel_rfl, zq4⟩, trivial⟩)) z17 (z0a rfl) (z01 rfl) (by kernel_rfl) (by kernel_rfl) (z0o (ls := [(1, l_nat_N_Gcd_1L)]) rfl rfl ⟨by kernel_rfl, fun _ => rfl, y4p, z0p (by kernel_rfl)⟩) fun k x => by kernel_rfl
noncomputable def ys8 : Env := { te := te, spec := [(66, y13), (67, z8m), (68, zt7), (69, y5j), (71, y8c), (72, y2v), (73, zi4)], body := [] }
def yk2 : z29 := []
def z74 (k : Nat) (a0 : ByteArray) : Option (Int) :=
 (z2n fuel a0 (⟨#[45]⟩ : ByteArray)).bind fun r1 =>
 (z5l fuel r1.1 (⟨#[47]⟩ : ByteArray)).bind fun r2 =>
 (z68 fuel r2.1).bind fun r3 =>
 if r2.2.2 = true then
 (z68 fuel r2.2.1).bind fun r4 =>
 if (r3 == 5) = false then
 if (r4 == 5) = false then
 if r1.2 = true then
 if ((r2.1.toList == (⟨#[48]⟩ : ByteArray).toList)) = true then
 some 5
 else
 if (r3 != 0) = false then
 if (r4 != 0) = true then
 some 2
 else
 if r2.2.2 = true then
 if ((r2.2.1.toList == (⟨#[48]⟩ : ByteArray).toList)) = false then
 if ((r2.2.1.toList == (⟨#[49]⟩ : ByteArray).toList)) = false then
 (z3r fuel r2.1).bind fun r5 =>
 (z3r fuel r2.2.1).bind fun r6 =>
 (z69 fuel r5 r6).bind fun r7 =>
 (z65 fuel 1).bind fun r8 =>
 (z4n fuel r7 r8).bind fun r9 =>
 if (r9 != 0) = true then
 some 3
 else
 some 0
 else
 some 3
 else
 some 3
 else
 some 0
 else
 some 2
 else
 if (r3 != 0) = false then
 if (r4 != 0) = true then
 some 2
 else
 if r2.2.2 = true then
 if ((r2.2.1.toList == (⟨#[48]⟩ : ByteArray).toList)) = false then
 if ((r2.2.1.toList == (⟨#[49]⟩ : ByteArray).toList)) = false then
 (z3r fuel r2.1).bind fun r10 =>
 (z3r fuel r2.2.1).bind fun r11 =>
 (z69 fuel r10 r11).bind fun r12 =>
 (z65 fuel 1).bind fun r13 =>
 (z4n fuel r12 r13).bind fun r14 =>
 if (r14 != 0) = true then
 some 3
 else
 some 0
 else
 some 3
 else
 some 3
 else
 some 0
 else
 some 2
 else
 some 5
 else
 some 5
 else
 if (r3 == 5) = false then
 if r1.2 = true then
 if ((r2.1.toList == (⟨#[48]⟩ : ByteArray).toList)) = true then
 some 5
 else
 if (r3 != 0) = false then
 if r2.2.2 = true then
 if ((r2.2.1.toList == (⟨#[48]⟩ : ByteArray).toList)) = false then
 if ((r2.2.1.toList == (⟨#[49]⟩ : ByteArray).toList)) = false then
 (z3r fuel r2.1).bind fun r15 =>
 (z3r fuel r2.2.1).bind fun r16 =>
 (z69 fuel r15 r16).bind fun r17 =>
 (z65 fuel 1).bind fun r18 =>
 (z4n fuel r17 r18).bind fun r19 =>
 if (r19 != 0) = true then
 some 3
 else
 some 0
 else
 some 3
 else
 some 3
 else
 some 0
 else
 some 2
 else
 if (r3 != 0) = false then
 if r2.2.2 = true then
 if ((r2.2.1.toList == (⟨#[48]⟩ : ByteArray).toList)) = false then
 if ((r2.2.1.toList == (⟨#[49]⟩ : ByteArray).toList)) = false then
 (z3r fuel r2.1).bind fun r20 =>
 (z3r fuel r2.2.1).bind fun r21 =>
 (z69 fuel r20 r21).bind fun r22 =>
 (z65 fuel 1).bind fun r23 =>
 (z4n fuel r22 r23).bind fun r24 =>
 if (r24 != 0) = true then
 some 3
 else
 some 0
 else
 some 3
 else
 some 3
 else
 some 0
 else
 some 2
 else
 some 5
def y6y (k : Nat) : Vm.Spec := { ps := [.str], rs := [.imm (.int .i64)], f := fun x => z74 k x }
noncomputable def zt5 : Vm.Spec := y6y fuel
theorem za6 : Vm.Spec.holds Tryd.prog 52 zt5 := z16 (E := ys8) (L := yk2) (fn := Tryd.f52) (Z := y6y) (z1u ok) (z0s (by exact ⟨⟨by kernel_rfl, z8e⟩, ⟨by kernel_rfl, z8f⟩, ⟨by kernel_rfl, zj9⟩, ⟨by kernel_rfl, zx1⟩, ⟨by kernel_rfl, y5s⟩, ⟨by kernel_rfl, zq5⟩, ⟨by kernel_rfl, z7h⟩, trivial⟩)) z17 (z0a rfl) (z01 rfl) (by kernel_rfl) (by kernel_rfl) (z0t rfl) fun k x => by kernel_rfl
noncomputable def y1s : Env := { te := te, spec := [(52, zt5)], body := [] }
def l_rat_CheckAll_2H : Ann := { slots := [(6, .one (.val (.slice .str))), (7, .one (.val (.int .i64))), (8, .one (.val (.int .i64)))], objs := [] }
def zr6 : Ann := { slots := [], objs := [] }
def zr5 : Ann := { slots := [(2, .one (.val (.int .i64)))], objs := [] }
def z2r : Nat → List ByteArray → Int → Int → Option (LR zr6 zr5)
 | 0, _, _, _ => none
 | m + 1, s6, s7, s8 =>
  if decide (s8 < s7) = true then
  if (0 : Int) ≤ s8 then
  if s8 < s6.length then
  (z74 fuel (s6.getD s8.toNat ByteArray.empty)).bind fun r1 =>
  if (r1 != 0) = true then
  some (.ret (r1, ()))
  else
  z2r m s6 s7 (IntKind.i64.wrap (s8 + 1))
  else none
  else none
  else
  some (.exit ())
def l_rat_CheckAll_2L : LSpec := { h := l_rat_CheckAll_2H, x := zr6, r := zr5, xid := 0, rt := true, pins := [], f := fun k d => z2r k d.1 d.2.1 d.2.2.1 }
def zz6 : z29 := [([56], [(2, l_rat_CheckAll_2L)])]
def z44 (k : Nat) (a0 : List ByteArray) : Option (Int) :=
 match z2r k a0 (a0.length : Int) 0 with
 | none => none
 | some (.exit d1) =>
  some 0
 | some (.ret d1) =>
  some d1.1
theorem y0s (m : Nat) (d : dens l_rat_CheckAll_2H.tys) : l_rat_CheckAll_2L.f (m + 1) d = round y1s zz6 m [56] 18 (z2w (z1j Tryd.f56) 0) l_rat_CheckAll_2L (l_rat_CheckAll_2L.f m) d := by kernel_rfl
def y08 (k : Nat) : Vm.Spec := { ps := [.slice .str], rs := [.imm (.int .i64)], f := fun x => z44 k x }
noncomputable def zo4 : Vm.Spec := y08 fuel
theorem zg7 : Vm.Spec.holds Tryd.prog 56 zo4 := z16 (E := y1s) (L := zz6) (fn := Tryd.f56) (Z := y08) (z1u ok) (z0s (by exact ⟨⟨by kernel_rfl, za6⟩, trivial⟩)) z17 (z0a rfl) (z01 rfl) (by kernel_rfl) (by kernel_rfl) (z0o (ls := [(2, l_rat_CheckAll_2L)]) rfl rfl ⟨by kernel_rfl, fun _ => rfl, y0s, z0p (by kernel_rfl)⟩) fun k x => by kernel_rfl
noncomputable def y5f : Env := { te := te, spec := [(56, zo4)], body := [] }
def y3p : z29 := []
def z15 (k : Nat) (a0 : List ByteArray) : Option (Int) :=
 if decide ((a0.length : Int) > 40) = true then
 some 2
 else
 (z44 fuel a0).bind fun r1 =>
 some r1
def zm2 (k : Nat) : Vm.Spec := { ps := [.slice .str], rs := [.imm (.int .i64)], f := fun x => z15 k x }
noncomputable def z41 : Vm.Spec := zm2 fuel
theorem z32 : Vm.Spec.holds Tryd.prog 19 z41 := z16 (E := y5f) (L := y3p) (fn := Tryd.f19) (Z := zm2) (z1u ok) (z0s (by exact ⟨⟨by kernel_rfl, zg7⟩, trivial⟩)) z17 (z0a rfl) (z01 rfl) (by kernel_rfl) (by kernel_rfl) (z0t rfl) fun k x => by kernel_rfl
noncomputable def y1r : Env := { te := te, spec := [(19, z41)], body := [] }
def l_matrix_Check_4H : Ann := { slots := [(0, .one (.val (.slice (.slice .str)))), (9, .one (.val (.slice (.slice .str)))), (10, .one (.val (.int .i64))), (11, .one (.val (.int .i64)))], objs := [] }
def zr4 : Ann := { slots := [], objs := [] }
def zr3 : Ann := { slots := [(2, .one (.val (.int .i64)))], objs := [] }
def z2q : Nat → List (List ByteArray) → List (List ByteArray) → Int → Int → Option (LR zr4 zr3)
 | 0, _, _, _, _ => none
 | m + 1, s0, s9, s10, s11 =>
  if decide (s11 < s10) = true then
  if (0 : Int) ≤ s11 then
  if s11 < s9.length then
  if (0 : Int) < s0.length then
  if (((s9.getD s11.toNat []).length : Int) != ((s0.getD 0 []).length : Int)) = true then
  some (.ret (3, ()))
  else
  (z15 fuel (s9.getD s11.toNat [])).bind fun r1 =>
  if (r1 != 0) = true then
  some (.ret (r1, ()))
  else
  z2q m s0 s9 s10 (IntKind.i64.wrap (s11 + 1))
  else none
  else none
  else none
  else
  some (.exit ())
def l_matrix_Check_4L : LSpec := { h := l_matrix_Check_4H, x := zr4, r := zr3, xid := 0, rt := true, pins := [], f := fun k d => z2q k d.1 d.2.1 d.2.2.1 d.2.2.2.1 }
def zz4 : z29 := [([39], [(4, l_matrix_Check_4L)])]
def z53 (k : Nat) (a0 : List (List ByteArray)) : Option (Int) :=
 if decide ((a0.length : Int) > 40) = true then
 some 2
 else
 match z2q k a0 a0 (a0.length : Int) 0 with
 | none => none
 | some (.exit d1) =>
  some 0
 | some (.ret d1) =>
  some d1.1
theorem y0h (m : Nat) (d : dens l_matrix_Check_4H.tys) : l_matrix_Check_4L.f (m + 1) d = round y1r zz4 m [39] 28 (z2w (z1j Tryd.f39) 0) l_matrix_Check_4L (l_matrix_Check_4L.f m) d := by kernel_rfl
def y05 (k : Nat) : Vm.Spec := { ps := [.slice (.slice .str)], rs := [.imm (.int .i64)], f := fun x => z53 k x }
noncomputable def zo2 : Vm.Spec := y05 fuel
theorem zg5 : Vm.Spec.holds Tryd.prog 39 zo2 := z16 (E := y1r) (L := zz4) (fn := Tryd.f39) (Z := y05) (z1u ok) (z0s (by exact ⟨⟨by kernel_rfl, z32⟩, trivial⟩)) z17 (z0a rfl) (z01 rfl) (by kernel_rfl) (by kernel_rfl) (z0o (ls := [(4, l_matrix_Check_4L)]) rfl rfl ⟨by kernel_rfl, fun _ => rfl, y0h, z0p (by kernel_rfl)⟩) fun k x => by kernel_rfl
noncomputable def ya1 : Env := { te := te, spec := [], body := [] }
def y8a : z29 := []
def z6m (k : Nat) (a0 : List (List ByteArray)) : Option (Int) :=
 if ((a0.length : Int) == 0) = true then
 some 0
 else
 if (0 : Int) < a0.length then
 some ((a0.getD 0 []).length : Int)
 else none
def y06 (k : Nat) : Vm.Spec := { ps := [.slice (.slice .str)], rs := [.imm (.int .i64)], f := fun x => z6m k x }
noncomputable def zo3 : Vm.Spec := y06 fuel
theorem zg6 : Vm.Spec.holds Tryd.prog 40 zo3 := z16 (E := ya1) (L := y8a) (fn := Tryd.f40) (Z := y06) (z1u ok) (z0s (by exact trivial)) z17 (z0a rfl) (z01 rfl) (by kernel_rfl) (by kernel_rfl) (z0t rfl) fun k x => by kernel_rfl
noncomputable def y89 : Env := { te := te, spec := [(19, z41), (39, zo2), (40, zo3)], body := [] }
def y7k : z29 := []
def z39 (k : Nat) (a0 : (List (List ByteArray)) × ((List ByteArray) × (List ByteArray))) : Option (Int) :=
 if decide ((a0.1.length : Int) > 40) = false then
 if decide ((a0.2.2.length : Int) > 40) = true then
 some 2
 else
 (z53 fuel a0.1).bind fun r1 =>
 if (r1 != 0) = true then
 some r1
 else
 (z15 fuel a0.2.1).bind fun r2 =>
 if (r2 != 0) = true then
 some r2
 else
 (z15 fuel a0.2.2).bind fun r3 =>
 if (r3 != 0) = true then
 some r3
 else
 if ((a0.1.length : Int) != (a0.2.1.length : Int)) = false then
 if decide ((a0.1.length : Int) > 0) = true then
 (z6m fuel a0.1).bind fun r4 =>
 if (r4 != (a0.2.2.length : Int)) = true then
 some 3
 else
 some 0
 else
 some 0
 else
 some 3
 else
 some 2
def zw5 (k : Nat) : Vm.Spec := { ps := [.pair (.slice (.slice .str)) (.pair (.slice .str) (.slice .str))], rs := [.imm (.int .i64)], f := fun x => z39 k x }
noncomputable def z9c : Vm.Spec := zw5 fuel
theorem z77 : Vm.Spec.holds Tryd.prog 10 z9c := z16 (E := y89) (L := y7k) (fn := Tryd.f10) (Z := zw5) (z1u ok) (z0s (by exact ⟨⟨by kernel_rfl, z32⟩, ⟨by kernel_rfl, zg5⟩, ⟨by kernel_rfl, zg6⟩, trivial⟩)) z17 (z0a rfl) (z01 rfl) (by kernel_rfl) (by kernel_rfl) (z0t rfl) fun k x => by kernel_rfl
noncomputable def w6t : Env := { te := te, spec := [(66, y13), (67, z8m), (68, zt7), (69, y5j)], body := [] }
def w3e : z29 := []
def zc2 (k : Nat) (a0 : ByteArray) : Option (Bool × ((List Int) × (List Int))) :=
 (z2n fuel a0 (⟨#[45]⟩ : ByteArray)).bind fun r1 =>
 (z5l fuel r1.1 (⟨#[47]⟩ : ByteArray)).bind fun r2 =>
 (z3r fuel r2.1).bind fun r3 =>
 (z65 fuel 1).bind fun r4 =>
 if r2.2.2 = true then
 (z3r fuel r2.2.1).bind fun r5 =>
 some (r1.2, (r3, r5))
 else
 some (r1.2, (r3, r4))
def yl2 (k : Nat) : Vm.Spec := { ps := [.str], rs := [.imm qT], f := fun x => zc2 k x }
noncomputable def y3x : Vm.Spec := yl2 fuel
theorem zc3 : Vm.Spec.holds Tryd.prog 44 y3x := z16 (E := w6t) (L := w3e) (fn := Tryd.f44) (Z := yl2) (z1u ok) (z0s (by exact ⟨⟨by kernel_rfl, z8e⟩, ⟨by kernel_rfl, z8f⟩, ⟨by kernel_rfl, zj9⟩, ⟨by kernel_rfl, zx1⟩, trivial⟩)) z17 (z0a rfl) (z01 rfl) (by kernel_rfl) (by kernel_rfl) (z0t rfl) fun k x => by kernel_rfl
noncomputable def y6i : Env := { te := te, spec := [(44, y3x)], body := [] }
def l_matrix_Row_3H : Ann := { slots := [(3, .one (.own 64 qT)), (6, .one (.val (.slice .str))), (7, .one (.val (.int .i64))), (8, .one (.val (.int .i64)))], objs := [(64, .buf qT)] }
def y0l : Ann := { slots := [(3, .one (.own 64 qT))], objs := [(64, .buf qT)] }
def y0k : Ann := { slots := [], objs := [] }
def z6o : Nat → List ByteArray → Int → Int → List (Bool × ((List Int) × (List Int))) → Option (LR y0l y0k)
 | 0, _, _, _, _ => none
 | m + 1, s6, s7, s8, b64 =>
  if decide (s8 < s7) = true then
  if (0 : Int) ≤ s8 then
  if s8 < s6.length then
  (zc2 fuel (s6.getD s8.toNat ByteArray.empty)).bind fun r1 =>
  if (b64.length + 1) * 56 ≤ 140737488355328 then
  z6o m s6 s7 (IntKind.i64.wrap (s8 + 1)) (b64 ++ [r1])
  else none
  else none
  else none
  else
  some (.exit (b64, ()))
def l_matrix_Row_3L : LSpec := { h := l_matrix_Row_3H, x := y0l, r := y0k, xid := 0, rt := false, pins := [], f := fun k d => z6o k d.1 d.2.1 d.2.2.1 d.2.2.2.1 }
def y3r : z29 := [([33], [(3, l_matrix_Row_3L)])]
def z1x (k : Nat) (a0 : List ByteArray) : Option (List (Bool × ((List Int) × (List Int)))) :=
 match z6o k a0 (a0.length : Int) 0 [] with
 | none => none
 | some (.exit d1) =>
  some d1.1
 | some (.ret d1) =>
  none
theorem y38 (m : Nat) (d : dens l_matrix_Row_3H.tys) : l_matrix_Row_3L.f (m + 1) d = round y6i y3r m [33] 19 (z2w (z1j Tryd.f33) 0) l_matrix_Row_3L (l_matrix_Row_3L.f m) d := by kernel_rfl
def y41 (k : Nat) : Vm.Spec := { ps := [.slice .str], rs := [.fresh qT], f := fun x => z1x k x }
noncomputable def z8w : Vm.Spec := y41 fuel
theorem z5k : Vm.Spec.holds Tryd.prog 33 z8w := z16 (E := y6i) (L := y3r) (fn := Tryd.f33) (Z := y41) (z1u ok) (z0s (by exact ⟨⟨by kernel_rfl, zc3⟩, trivial⟩)) z17 (z0a rfl) (z01 rfl) (by kernel_rfl) (by kernel_rfl) (z0o (ls := [(3, l_matrix_Row_3L)]) rfl rfl ⟨by kernel_rfl, fun _ => rfl, y38, z0p (by kernel_rfl)⟩) fun k x => by kernel_rfl
noncomputable def w3c : Env := { te := te, spec := [(66, y13)], body := [] }
def w24 : z29 := []
def z75 (k : Nat) (a0 : Int) : Option (Bool × ((List Int) × (List Int))) :=
 if decide (a0 < 0) = true then
 (z65 fuel (IntKind.i64.wrap (0 - a0))).bind fun r1 =>
 (z65 fuel 1).bind fun r2 =>
 some (true, (r1, r2))
 else
 (z65 fuel a0).bind fun r3 =>
 (z65 fuel 1).bind fun r4 =>
 some (false, (r3, r4))
def yb8 (k : Nat) : Vm.Spec := { ps := [.int .i64], rs := [.imm qT], f := fun x => z75 k x }
noncomputable def yl0 : Vm.Spec := yb8 fuel
theorem y8y : Vm.Spec.holds Tryd.prog 37 yl0 := z16 (E := w3c) (L := w24) (fn := Tryd.f37) (Z := yb8) (z1u ok) (z0s (by exact ⟨⟨by kernel_rfl, z8e⟩, trivial⟩)) z17 (z0a rfl) (z01 rfl) (by kernel_rfl) (by kernel_rfl) (z0t rfl) fun k x => by kernel_rfl
noncomputable def y84 : Env := { te := te, spec := [(33, z8w)], body := [] }
def l_matrix_In_3H : Ann := { slots := [(3, .one (.own 64 (.slice qT))), (6, .one (.val (.slice (.slice .str)))), (7, .one (.val (.int .i64))), (8, .one (.val (.int .i64)))], objs := [(64, .buf (.slice qT))] }
def y26 : Ann := { slots := [(3, .one (.own 64 (.slice qT)))], objs := [(64, .buf (.slice qT))] }
def y25 : Ann := { slots := [], objs := [] }
def z7o : Nat → List (List ByteArray) → Int → Int → List (List (Bool × ((List Int) × (List Int)))) → Option (LR y26 y25)
 | 0, _, _, _, _ => none
 | m + 1, s6, s7, s8, b64 =>
  if decide (s8 < s7) = true then
  if (0 : Int) ≤ s8 then
  if s8 < s6.length then
  (z1x fuel (s6.getD s8.toNat [])).bind fun r1 =>
  if (b64.length + 1) * 24 ≤ 140737488355328 then
  z7o m s6 s7 (IntKind.i64.wrap (s8 + 1)) (b64 ++ [r1])
  else none
  else none
  else none
  else
  some (.exit (b64, ()))
def l_matrix_In_3L : LSpec := { h := l_matrix_In_3H, x := y26, r := y25, xid := 0, rt := false, pins := [], f := fun k d => z7o k d.1 d.2.1 d.2.2.1 d.2.2.2.1 }
def y6k : z29 := [([42], [(3, l_matrix_In_3L)])]
def z71 (k : Nat) (a0 : List (List ByteArray)) : Option (List (List (Bool × ((List Int) × (List Int))))) :=
 match z7o k a0 (a0.length : Int) 0 [] with
 | none => none
 | some (.exit d1) =>
  some d1.1
 | some (.ret d1) =>
  none
theorem y4k (m : Nat) (d : dens l_matrix_In_3H.tys) : l_matrix_In_3L.f (m + 1) d = round y84 y6k m [42] 19 (z2w (z1j Tryd.f42) 0) l_matrix_In_3L (l_matrix_In_3L.f m) d := by kernel_rfl
def y6q (k : Nat) : Vm.Spec := { ps := [.slice (.slice .str)], rs := [.fresh (.slice qT)], f := fun x => z71 k x }
noncomputable def zt4 : Vm.Spec := y6q fuel
theorem za4 : Vm.Spec.holds Tryd.prog 42 zt4 := z16 (E := y84) (L := y6k) (fn := Tryd.f42) (Z := y6q) (z1u ok) (z0s (by exact ⟨⟨by kernel_rfl, z5k⟩, trivial⟩)) z17 (z0a rfl) (z01 rfl) (by kernel_rfl) (by kernel_rfl) (z0o (ls := [(3, l_matrix_In_3L)]) rfl rfl ⟨by kernel_rfl, fun _ => rfl, y4k, z0p (by kernel_rfl)⟩) fun k x => by kernel_rfl
noncomputable def yt2 : Env := { te := te, spec := [], body := [] }
def yk6 : z29 := []
def z8p (k : Nat) (a0 : Bool × ((List Int) × (List Int))) : Option (Bool × ((List Int) × (List Int))) :=
 if ((a0.2.1.length : Int) == 0) = true then
 some a0
 else
 some (!a0.1, a0.2)
def y72 (k : Nat) : Vm.Spec := { ps := [qT], rs := [.imm qT], f := fun x => z8p k x }
noncomputable def y2w : Vm.Spec := y72 fuel
theorem zq6 : Vm.Spec.holds Tryd.prog 38 y2w := z16 (E := yt2) (L := yk6) (fn := Tryd.f38) (Z := y72) (z1u ok) (z0s (by exact trivial)) z17 (z0a rfl) (z01 rfl) (by kernel_rfl) (by kernel_rfl) (z0t rfl) fun k x => by kernel_rfl
noncomputable def yk0 : Env := { te := te, spec := [], body := [] }
def yf5 : z29 := []
def z1k (k : Nat) (a0 : Bool × ((List Int) × (List Int))) : Option (Int) :=
 if ((a0.2.1.length : Int) == 0) = true then
 some 0
 else
 if a0.1 = true then
 some (-1)
 else
 some 1
def y44 (k : Nat) : Vm.Spec := { ps := [qT], rs := [.imm (.int .i64)], f := fun x => z1k k x }
noncomputable def z5g : Vm.Spec := y44 fuel
theorem z38 : Vm.Spec.holds Tryd.prog 49 z5g := z16 (E := yk0) (L := yf5) (fn := Tryd.f49) (Z := y44) (z1u ok) (z0s (by exact trivial)) z17 (z0a rfl) (z01 rfl) (by kernel_rfl) (by kernel_rfl) (z0t rfl) fun k x => by kernel_rfl
noncomputable def yf2 : Env := { te := te, spec := [(66, y13)], body := [] }
def ya4 : z29 := []
def z33 (k : Nat) (a0 : Bool × ((List Int) × (List Int))) : Option (List Int) :=
 if ((a0.2.2.length : Int) == 0) = true then
 (z65 fuel 1).bind fun r1 =>
 some r1
 else
 some a0.2.2
def y1y (k : Nat) : Vm.Spec := { ps := [qT], rs := [.imm (.slice (.int .u32))], f := fun x => z33 k x }
noncomputable def z9b : Vm.Spec := y1y fuel
theorem z6b : Vm.Spec.holds Tryd.prog 75 z9b := z16 (E := yf2) (L := ya4) (fn := Tryd.f75) (Z := y1y) (z1u ok) (z0s (by exact ⟨⟨by kernel_rfl, z8e⟩, trivial⟩)) z17 (z0a rfl) (z01 rfl) (by kernel_rfl) (by kernel_rfl) (z0t rfl) fun k x => by kernel_rfl
noncomputable def w3d : Env := { te := te, spec := [(66, y13), (72, y2v), (73, zi4), (86, y2u)], body := [] }
def w25 : z29 := []
def zd4 (k : Nat) (a0 : Bool) (a1 : List Int) (a2 : List Int) : Option (Bool × ((List Int) × (List Int))) :=
 if ((a1.length : Int) == 0) = true then
 some (false, ([], []))
 else
 (z69 fuel a1 a2).bind fun r1 =>
 (z65 fuel 1).bind fun r2 =>
 (z4n fuel r1 r2).bind fun r3 =>
 if decide (r3 > 0) = true then
 (za5 fuel a1 r1).bind fun r4 =>
 (za5 fuel a2 r1).bind fun r5 =>
 some (a0, (r4.1, r5.1))
 else
 some (a0, (a1, a2))
def yb9 (k : Nat) : Vm.Spec := { ps := [.bool, .slice (.int .u32), .slice (.int .u32)], rs := [.imm qT], f := fun x => zd4 k x.1 x.2.1 x.2.2 }
noncomputable def y3y : Vm.Spec := yb9 fuel
theorem zj8 : Vm.Spec.holds Tryd.prog 78 y3y := z16 (E := w3d) (L := w25) (fn := Tryd.f78) (Z := yb9) (z1u ok) (z0s (by exact ⟨⟨by kernel_rfl, z8e⟩, ⟨by kernel_rfl, zq5⟩, ⟨by kernel_rfl, z7h⟩, ⟨by kernel_rfl, zq4⟩, trivial⟩)) z17 (z0a rfl) (z01 rfl) (by kernel_rfl) (by kernel_rfl) (z0t rfl) fun k x => by kernel_rfl
noncomputable def y86 : Env := { te := te, spec := [], body := [] }
def l_nat_N_Add_6H : Ann := { slots := [(1, .one (.val (.slice (.int .u32)))), (5, .one (.own 76 (.int .u32))), (6, .one (.val (.int .u32))), (20, .one (.val (.slice (.int .u32)))), (21, .one (.val (.int .i64))), (22, .one (.val (.int .i64)))], objs := [(76, .buf (.int .u32))] }
def y2a : Ann := { slots := [(5, .one (.own 76 (.int .u32))), (6, .one (.val (.int .u32)))], objs := [(76, .buf (.int .u32))] }
def y29 : Ann := { slots := [], objs := [] }
def z5q : Nat → List Int → Int → List Int → Int → Int → List Int → Option (LR y2a y29)
 | 0, _, _, _, _, _, _ => none
 | m + 1, s1, s6, s20, s21, s22, b76 =>
  if decide (s22 < s21) = true then
  if (0 : Int) ≤ s22 then
  if s22 < s20.length then
  if decide (s22 < (s1.length : Int)) = true then
  if (0 : Int) ≤ s22 then
  if s22 < s1.length then
  if (b76.length + 1) * 4 ≤ 140737488355328 then
  z5q m s1 (IntKind.u32.wrap ((IntKind.u32.wrap ((IntKind.u32.wrap ((s20.getD s22.toNat 0) + s6)) + (s1.getD s22.toNat 0))).tdiv 1000000000)) s20 s21 (IntKind.i64.wrap (s22 + 1)) (b76 ++ [(IntKind.u32.wrap ((IntKind.u32.wrap ((s20.getD s22.toNat 0) + s6)) + (s1.getD s22.toNat 0))).tmod 1000000000])
  else none
  else none
  else none
  else
  if (b76.length + 1) * 4 ≤ 140737488355328 then
  z5q m s1 (IntKind.u32.wrap ((IntKind.u32.wrap ((s20.getD s22.toNat 0) + s6)).tdiv 1000000000)) s20 s21 (IntKind.i64.wrap (s22 + 1)) (b76 ++ [(IntKind.u32.wrap ((s20.getD s22.toNat 0) + s6)).tmod 1000000000])
  else none
  else none
  else none
  else
  some (.exit (s6, b76, ()))
def l_nat_N_Add_6L : LSpec := { h := l_nat_N_Add_6H, x := y2a, r := y29, xid := 0, rt := false, pins := [], f := fun k d => z5q k d.1 d.2.1 d.2.2.1 d.2.2.2.1 d.2.2.2.2.1 d.2.2.2.2.2.1 }
def y6m : z29 := [([79], [(6, l_nat_N_Add_6L)])]
def zu5 (k : Nat) (a0 : List Int) (a1 : List Int) : Option (List Int) :=
 if decide ((a0.length : Int) < (a1.length : Int)) = true then
 if (0 : Int) ≤ IntKind.i64.wrap ((a1.length : Int) + 1) then
 if (IntKind.i64.wrap ((a1.length : Int) + 1)) * 4 ≤ 281474976710656 then
 match z5q k a0 0 a1 (a1.length : Int) 0 (List.replicate 0 0) with
 | none => none
 | some (.exit d1) =>
  if decide (d1.1 > 0) = true then
  if (d1.2.1.length + 1) * 4 ≤ 140737488355328 then
  some (d1.2.1 ++ [d1.1])
  else none
  else
  some d1.2.1
 | some (.ret d1) =>
  none
 else none
 else none
 else
 if (0 : Int) ≤ IntKind.i64.wrap ((a0.length : Int) + 1) then
 if (IntKind.i64.wrap ((a0.length : Int) + 1)) * 4 ≤ 281474976710656 then
 match z5q k a1 0 a0 (a0.length : Int) 0 (List.replicate 0 0) with
 | none => none
 | some (.exit d2) =>
  if decide (d2.1 > 0) = true then
  if (d2.2.1.length + 1) * 4 ≤ 140737488355328 then
  some (d2.2.1 ++ [d2.1])
  else none
  else
  some d2.2.1
 | some (.ret d2) =>
  none
 else none
 else none
theorem y4m (m : Nat) (d : dens l_nat_N_Add_6H.tys) : l_nat_N_Add_6L.f (m + 1) d = round y86 y6m m [79] 55 (z2w (z1j Tryd.f79) 0) l_nat_N_Add_6L (l_nat_N_Add_6L.f m) d := by kernel_rfl
def y6s (k : Nat) : Vm.Spec := { ps := [.slice (.int .u32), .slice (.int .u32)], rs := [.fresh (.int .u32)], f := fun x => zu5 k x.1 x.2 }
noncomputable def y8d : Vm.Spec := y6s fuel
theorem y5t : Vm.Spec.holds Tryd.prog 79 y8d := z16 (E := y86) (L := y6m) (fn := Tryd.f79) (Z := y6s) (z1u ok) (z0s (by exact trivial)) z17 (z0a rfl) (z01 rfl) (by kernel_rfl) (by kernel_rfl) (z0o (ls := [(6, l_nat_N_Add_6L)]) rfl rfl ⟨by kernel_rfl, fun _ => rfl, y4m, z0p (by kernel_rfl)⟩) fun k x => by kernel_rfl
noncomputable def ys9 : Env := { te := te, spec := [(73, zi4), (75, z9b), (77, zi5), (78, y3y), (79, y8d), (80, y8e)], body := [] }
def yk3 : z29 := []
def z76 (k : Nat) (a0 : Bool × ((List Int) × (List Int))) (a1 : Bool × ((List Int) × (List Int))) : Option (Bool × ((List Int) × (List Int))) :=
 if ((a0.2.1.length : Int) == 0) = true then
 some a1
 else
 if ((a1.2.1.length : Int) == 0) = true then
 some a0
 else
 (z33 fuel a1).bind fun r1 =>
 (z4o fuel a0.2.1 r1).bind fun r2 =>
 (z33 fuel a0).bind fun r3 =>
 (z4o fuel a1.2.1 r3).bind fun r4 =>
 (z33 fuel a0).bind fun r5 =>
 (z33 fuel a1).bind fun r6 =>
 (z4o fuel r5 r6).bind fun r7 =>
 if (a0.1 == a1.1) = true then
 (zu5 fuel r2 r4).bind fun r8 =>
 (zd4 fuel a0.1 r8 r7).bind fun r9 =>
 some r9
 else
 (z4n fuel r2 r4).bind fun r10 =>
 if decide (r10 ≥ 0) = true then
 (zj7 fuel r2 r4).bind fun r11 =>
 (zd4 fuel a0.1 r11 r7).bind fun r12 =>
 some r12
 else
 (zj7 fuel r4 r2).bind fun r13 =>
 (zd4 fuel a1.1 r13 r7).bind fun r14 =>
 some r14
def y6z (k : Nat) : Vm.Spec := { ps := [qT, qT], rs := [.imm qT], f := fun x => z76 k x.1 x.2 }
noncomputable def zi6 : Vm.Spec := y6z fuel
theorem z7j : Vm.Spec.holds Tryd.prog 55 zi6 := z16 (E := ys9) (L := yk3) (fn := Tryd.f55) (Z := y6z) (z1u ok) (z0s (by exact ⟨⟨by kernel_rfl, z7h⟩, ⟨by kernel_rfl, z6b⟩, ⟨by kernel_rfl, z7i⟩, ⟨by kernel_rfl, zj8⟩, ⟨by kernel_rfl, y5t⟩, ⟨by kernel_rfl, y5u⟩, trivial⟩)) z17 (z0a rfl) (z01 rfl) (by kernel_rfl) (by kernel_rfl) (z0t rfl) fun k x => by kernel_rfl
noncomputable def yt5 : Env := { te := te, spec := [(38, y2w), (55, zi6)], body := [] }
def yk9 : z29 := []
def z58 (k : Nat) (a0 : Bool × ((List Int) × (List Int))) (a1 : Bool × ((List Int) × (List Int))) : Option (Bool × ((List Int) × (List Int))) :=
 (z8p fuel a1).bind fun r1 =>
 (z76 fuel a0 r1).bind fun r2 =>
 some r2
def y75 (k : Nat) : Vm.Spec := { ps := [qT, qT], rs := [.imm qT], f := fun x => z58 k x.1 x.2 }
noncomputable def zi9 : Vm.Spec := y75 fuel
theorem z7m : Vm.Spec.holds Tryd.prog 63 zi9 := z16 (E := yt5) (L := yk9) (fn := Tryd.f63) (Z := y75) (z1u ok) (z0s (by exact ⟨⟨by kernel_rfl, zq6⟩, ⟨by kernel_rfl, z7j⟩, trivial⟩)) z17 (z0a rfl) (z01 rfl) (by kernel_rfl) (by kernel_rfl) (z0t rfl) fun k x => by kernel_rfl
noncomputable def yt1 : Env := { te := te, spec := [(75, z9b), (77, zi5), (78, y3y)], body := [] }
def yk5 : z29 := []
def z36 (k : Nat) (a0 : Bool × ((List Int) × (List Int))) (a1 : Bool × ((List Int) × (List Int))) : Option (Bool × ((List Int) × (List Int))) :=
 if ((a0.2.1.length : Int) == 0) = false then
 if ((a1.2.1.length : Int) == 0) = true then
 some (false, ([], []))
 else
 (z4o fuel a0.2.1 a1.2.1).bind fun r1 =>
 (z33 fuel a0).bind fun r2 =>
 (z33 fuel a1).bind fun r3 =>
 (z4o fuel r2 r3).bind fun r4 =>
 (zd4 fuel (!(a0.1 == a1.1)) r1 r4).bind fun r5 =>
 some r5
 else
 some (false, ([], []))
def y71 (k : Nat) : Vm.Spec := { ps := [qT, qT], rs := [.imm qT], f := fun x => z36 k x.1 x.2 }
noncomputable def zi8 : Vm.Spec := y71 fuel
theorem z7l : Vm.Spec.holds Tryd.prog 64 zi8 := z16 (E := yt1) (L := yk5) (fn := Tryd.f64) (Z := y71) (z1u ok) (z0s (by exact ⟨⟨by kernel_rfl, z6b⟩, ⟨by kernel_rfl, z7i⟩, ⟨by kernel_rfl, zj8⟩, trivial⟩)) z17 (z0a rfl) (z01 rfl) (by kernel_rfl) (by kernel_rfl) (z0t rfl) fun k x => by kernel_rfl
noncomputable def yt4 : Env := { te := te, spec := [(75, z9b), (77, zi5), (78, y3y)], body := [] }
def yk8 : z29 := []
def z5x (k : Nat) (a0 : Bool × ((List Int) × (List Int))) (a1 : Bool × ((List Int) × (List Int))) : Option (Bool × ((List Int) × (List Int))) :=
 if ((a0.2.1.length : Int) == 0) = false then
 if ((a1.2.1.length : Int) == 0) = true then
 some (false, ([], []))
 else
 (z33 fuel a1).bind fun r1 =>
 (z4o fuel a0.2.1 r1).bind fun r2 =>
 (z33 fuel a0).bind fun r3 =>
 (z4o fuel r3 a1.2.1).bind fun r4 =>
 (zd4 fuel (!(a0.1 == a1.1)) r2 r4).bind fun r5 =>
 some r5
 else
 some (false, ([], []))
def y74 (k : Nat) : Vm.Spec := { ps := [qT, qT], rs := [.imm qT], f := fun x => z5x k x.1 x.2 }
noncomputable def y2x : Vm.Spec := y74 fuel
theorem zq7 : Vm.Spec.holds Tryd.prog 82 y2x := z16 (E := yt4) (L := yk8) (fn := Tryd.f82) (Z := y74) (z1u ok) (z0s (by exact ⟨⟨by kernel_rfl, z6b⟩, ⟨by kernel_rfl, z7i⟩, ⟨by kernel_rfl, zj8⟩, trivial⟩)) z17 (z0a rfl) (z01 rfl) (by kernel_rfl) (by kernel_rfl) (z0t rfl) fun k x => by kernel_rfl
noncomputable def yt0 : Env := { te := te, spec := [(49, z5g), (63, zi9)], body := [] }
def yk4 : z29 := []
def z6a (k : Nat) (a0 : Bool × ((List Int) × (List Int))) (a1 : Bool × ((List Int) × (List Int))) : Option (Int) :=
 (z58 fuel a0 a1).bind fun r1 =>
 (z1k fuel r1).bind fun r2 =>
 some r2
def y70 (k : Nat) : Vm.Spec := { ps := [qT, qT], rs := [.imm (.int .i64)], f := fun x => z6a k x.1 x.2 }
noncomputable def zi7 : Vm.Spec := y70 fuel
theorem z7k : Vm.Spec.holds Tryd.prog 48 zi7 := z16 (E := yt0) (L := yk4) (fn := Tryd.f48) (Z := y70) (z1u ok) (z0s (by exact ⟨⟨by kernel_rfl, z38⟩, ⟨by kernel_rfl, z7m⟩, trivial⟩)) z17 (z0a rfl) (z01 rfl) (by kernel_rfl) (by kernel_rfl) (z0t rfl) fun k x => by kernel_rfl
noncomputable def z9w : Env := { te := te, spec := [], body := [] }
def l_strings_trimLeftByte_1H : Ann := { slots := [(0, .one (.val .str)), (1, .one (.val (.int .u8)))], objs := [] }
def z8j : Ann := { slots := [(0, .one (.val .str))], objs := [] }
def z8i : Ann := { slots := [], objs := [] }
def z2z : Nat → ByteArray → Int → Option (LR z8j z8i)
 | 0, _, _ => none
 | m + 1, s0, s1 =>
  if decide ((s0.size : Int) > 0) = true then
  if (0 : Int) < (s0.size : Int) then
  if (((s0.data.getD 0 0).toNat : Int) == s1) = true then
  if (1 : Int) ≤ s0.size then
  z2z m (s0.extract 1 s0.size) s1
  else none
  else
  some (.exit (s0, ()))
  else none
  else
  some (.exit (s0, ()))
def l_strings_trimLeftByte_1L : LSpec := { h := l_strings_trimLeftByte_1H, x := z8j, r := z8i, xid := 0, rt := false, pins := [], f := fun k d => z2z k d.1 d.2.1 }
def z9a : z29 := [([93], [(1, l_strings_trimLeftByte_1L)])]
def z6t (k : Nat) (a0 : ByteArray) (a1 : Int) : Option (ByteArray) :=
 match z2z k a0 a1 with
 | none => none
 | some (.exit d1) =>
  some d1.1
 | some (.ret d1) =>
  none
theorem zf9 (m : Nat) (d : dens l_strings_trimLeftByte_1H.tys) : l_strings_trimLeftByte_1L.f (m + 1) d = round z9w z9a m [93] 17 (z2w (z1j Tryd.f93) 0) l_strings_trimLeftByte_1L (l_strings_trimLeftByte_1L.f m) d := by kernel_rfl
def z9g (k : Nat) : Vm.Spec := { ps := [.str, .int .u8], rs := [.imm .str], f := fun x => z6t k x.1 x.2 }
noncomputable def z9x : Vm.Spec := z9g fuel
theorem zh2 : Vm.Spec.holds Tryd.prog 93 z9x := z16 (E := z9w) (L := z9a) (fn := Tryd.f93) (Z := z9g) (z1u ok) (z0s (by exact trivial)) z17 (z0a rfl) (z01 rfl) (by kernel_rfl) (by kernel_rfl) (z0o (ls := [(1, l_strings_trimLeftByte_1L)]) rfl rfl ⟨by kernel_rfl, fun _ => rfl, zf9, z0p (by kernel_rfl)⟩) fun k x => by kernel_rfl
noncomputable def y3o : Env := { te := te, spec := [(93, z9x)], body := [] }
def y2t : z29 := []
def z6y (k : Nat) (a0 : ByteArray) (a1 : ByteArray) : Option (ByteArray) :=
 if ((a0.toList == (⟨#[]⟩ : ByteArray).toList)) = false then
 if ((a1.toList == (⟨#[]⟩ : ByteArray).toList)) = true then
 some a0
 else
 if ((a1.size : Int) == 1) = true then
 if (0 : Int) < (a1.size : Int) then
 if decide (((a1.data.getD 0 0).toNat : Int) < 128) = true then
 if (0 : Int) < (a1.size : Int) then
 (z6t fuel a0 ((a1.data.getD 0 0).toNat : Int)).bind fun r1 =>
 some r1
 else none
 else none
 else none
 else none
 else
 some a0
def zj2 (k : Nat) : Vm.Spec := { ps := [.str, .str], rs := [.imm .str], f := fun x => z6y k x.1 x.2 }
noncomputable def zm1 : Vm.Spec := zj2 fuel
theorem zq9 : Vm.Spec.holds Tryd.prog 87 zm1 := z16 (E := y3o) (L := y2t) (fn := Tryd.f87) (Z := zj2) (z1u ok) (z0s (by exact ⟨⟨by kernel_rfl, zh2⟩, trivial⟩)) z17 (z0a rfl) (z01 rfl) (by kernel_rfl) (by kernel_rfl) (z0t rfl) fun k x => by kernel_rfl
noncomputable def zz0 : Env := { te := te, spec := [(87, zm1)], body := [] }
def l_nat_N_Text_10H : Ann := { slots := [(5, .one (.val (.int .u32))), (6, .one (.fix (.pbox 24 0))), (7, .one (.val (.int .i64)))], objs := [(24, .box [.val (.arr 9 (.int .u8))])] }
def zx5 : Ann := { slots := [(6, .one (.fix (.pbox 24 0)))], objs := [(24, .box [.val (.arr 9 (.int .u8))])] }
def zx4 : Ann := { slots := [], objs := [] }
def l_nat_N_Text_5H : Ann := { slots := [(0, .one (.val (.slice (.int .u32)))), (3, .one (.own 56 (.int .u8))), (4, .one (.val (.int .i64)))], objs := [(56, .buf (.int .u8))] }
def y0p : Ann := { slots := [(3, .one (.own 56 (.int .u8)))], objs := [(56, .buf (.int .u8))] }
def y0o : Ann := { slots := [], objs := [] }
def z59 : Nat → Int → Int → List Int → Option (LR zx5 zx4)
 | 0, _, _, _ => none
 | m + 1, s5, s7, b24_0 =>
  if decide (s7 ≥ 0) = true then
  if (0 : Int) ≤ s7 then
  if s7 < 9 then
  z59 m (IntKind.u32.wrap (s5.tdiv 10)) (IntKind.i64.wrap (s7 - 1)) (b24_0.set s7.toNat (IntKind.u8.wrap (IntKind.u32.wrap (48 + (s5.tmod 10)))))
  else none
  else none
  else
  some (.exit (b24_0, ()))
def l_nat_N_Text_10L : LSpec := { h := l_nat_N_Text_10H, x := zx5, r := zx4, xid := 2, rt := false, pins := [24], f := fun k d => z59 k d.1 d.2.1 d.2.2.1 }
def z60 : Nat → List Int → Int → List Int → Option (LR y0p y0o)
 | 0, _, _, _ => none
 | m + 1, s0, s4, b56 =>
  if decide (s4 ≥ 0) = true then
  if (0 : Int) ≤ s4 then
  if s4 < s0.length then
  match z59 m (s0.getD s4.toNat 0) 8 (List.replicate 9 0) with
  | none => none
  | some (.exit d1) =>
   if (b56.length + ((d1.1.take 9).drop 0).length) * 1 ≤ 140737488355328 then
   z60 m s0 (IntKind.i64.wrap (s4 - 1)) (b56 ++ ((d1.1.take 9).drop 0))
   else none
  | some (.ret d1) =>
   none
  else none
  else none
  else
  some (.exit (b56, ()))
def l_nat_N_Text_5L : LSpec := { h := l_nat_N_Text_5H, x := y0p, r := y0o, xid := 0, rt := false, pins := [], f := fun k d => z60 k d.1 d.2.1 d.2.2.1 }
def zt1 : z29 := [([74], [(5, l_nat_N_Text_5L), (10, l_nat_N_Text_10L)])]
def z72 (k : Nat) (a0 : List Int) : Option (ByteArray) :=
 if ((a0.length : Int) == 0) = true then
 some (⟨#[48]⟩ : ByteArray)
 else
 if (0 : Int) ≤ IntKind.i64.wrap (9 * (a0.length : Int)) then
 if (IntKind.i64.wrap (9 * (a0.length : Int))) * 1 ≤ 281474976710656 then
 match z60 k a0 (IntKind.i64.wrap ((a0.length : Int) - 1)) (List.replicate 0 0) with
 | none => none
 | some (.exit d1) =>
  (z6y fuel (⟨(d1.1.map fun n => UInt8.ofNat n.toNat).toArray⟩ : ByteArray) (⟨#[48]⟩ : ByteArray)).bind fun r2 =>
  some r2
 | some (.ret d1) =>
  none
 else none
 else none
theorem y1o (m : Nat) (d : dens l_nat_N_Text_10H.tys) : l_nat_N_Text_10L.f (m + 1) d = round zz0 zt1 m [74] 44 (z2w (z1j Tryd.f74) 1) l_nat_N_Text_10L (l_nat_N_Text_10L.f m) d := by kernel_rfl
theorem y3b (m : Nat) (d : dens l_nat_N_Text_5H.tys) : l_nat_N_Text_5L.f (m + 1) d = round zz0 zt1 m [74] 44 (z2w (z1j Tryd.f74) 0) l_nat_N_Text_5L (l_nat_N_Text_5L.f m) d := by kernel_rfl
def y42 (k : Nat) : Vm.Spec := { ps := [.slice (.int .u32)], rs := [.imm .str], f := fun x => z72 k x }
noncomputable def zz9 : Vm.Spec := y42 fuel
theorem zm6 : Vm.Spec.holds Tryd.prog 74 zz9 := z16 (E := zz0) (L := zt1) (fn := Tryd.f74) (Z := y42) (z1u ok) (z0s (by exact ⟨⟨by kernel_rfl, zq9⟩, trivial⟩)) z17 (z0a rfl) (z01 rfl) (by kernel_rfl) (by kernel_rfl) (z0o (ls := [(5, l_nat_N_Text_5L), (10, l_nat_N_Text_10L)]) rfl rfl ⟨by kernel_rfl, fun _ => rfl, y3b, by kernel_rfl, fun _ => rfl, y1o, z0p (by kernel_rfl)⟩) fun k x => by kernel_rfl
noncomputable def yt3 : Env := { te := te, spec := [(74, zz9), (75, z9b)], body := [] }
def yk7 : z29 := []
def z8q (k : Nat) (a0 : Bool × ((List Int) × (List Int))) : Option (ByteArray) :=
 if ((a0.2.1.length : Int) == 0) = true then
 some (⟨#[48]⟩ : ByteArray)
 else
 (z72 fuel a0.2.1).bind fun r1 =>
 if a0.1 = true then
 if (⟨#[45]⟩ : ByteArray).size + r1.size ≤ 4611686018427387904 then
 (z33 fuel a0).bind fun r2 =>
 (z72 fuel r2).bind fun r3 =>
 if (!(r3.toList == (⟨#[49]⟩ : ByteArray).toList)) = true then
 if (⟨#[47]⟩ : ByteArray).size + r3.size ≤ 4611686018427387904 then
 if ((⟨#[45]⟩ : ByteArray) ++ r1).size + ((⟨#[47]⟩ : ByteArray) ++ r3).size ≤ 4611686018427387904 then
 some (((⟨#[45]⟩ : ByteArray) ++ r1) ++ ((⟨#[47]⟩ : ByteArray) ++ r3))
 else none
 else none
 else
 some ((⟨#[45]⟩ : ByteArray) ++ r1)
 else none
 else
 (z33 fuel a0).bind fun r4 =>
 (z72 fuel r4).bind fun r5 =>
 if (!(r5.toList == (⟨#[49]⟩ : ByteArray).toList)) = true then
 if (⟨#[47]⟩ : ByteArray).size + r5.size ≤ 4611686018427387904 then
 if r1.size + ((⟨#[47]⟩ : ByteArray) ++ r5).size ≤ 4611686018427387904 then
 some (r1 ++ ((⟨#[47]⟩ : ByteArray) ++ r5))
 else none
 else none
 else
 some r1
def y73 (k : Nat) : Vm.Spec := { ps := [qT], rs := [.imm .str], f := fun x => z8q k x }
noncomputable def zt6 : Vm.Spec := y73 fuel
theorem za8 : Vm.Spec.holds Tryd.prog 53 zt6 := z16 (E := yt3) (L := yk7) (fn := Tryd.f53) (Z := y73) (z1u ok) (z0s (by exact ⟨⟨by kernel_rfl, zm6⟩, ⟨by kernel_rfl, z6b⟩, trivial⟩)) z17 (z0a rfl) (z01 rfl) (by kernel_rfl) (by kernel_rfl) (z0t rfl) fun k x => by kernel_rfl
noncomputable def ya2 : Env := { te := te, spec := [(74, zz9)], body := [] }
def y8b : z29 := []
def z6n (k : Nat) (a0 : List Int) : Option (Int) :=
 (z72 fuel a0).bind fun r1 =>
 some (r1.size : Int)
def y07 (k : Nat) : Vm.Spec := { ps := [.slice (.int .u32)], rs := [.imm (.int .i64)], f := fun x => z6n k x }
noncomputable def y1v : Vm.Spec := y07 fuel
theorem y1m : Vm.Spec.holds Tryd.prog 81 y1v := z16 (E := ya2) (L := y8b) (fn := Tryd.f81) (Z := y07) (z1u ok) (z0s (by exact ⟨⟨by kernel_rfl, zm6⟩, trivial⟩)) z17 (z0a rfl) (z01 rfl) (by kernel_rfl) (by kernel_rfl) (z0t rfl) fun k x => by kernel_rfl
noncomputable def w22 : Env := { te := te, spec := [(81, y1v)], body := [] }
def yt6 : z29 := []
def za7 (k : Nat) (a0 : Bool × ((List Int) × (List Int))) : Option (Int) :=
 (z6n fuel a0.2.1).bind fun r1 =>
 if decide (r1 > 2000) = false then
 (z6n fuel a0.2.2).bind fun r2 =>
 if decide (r2 > 2000) = true then
 some 2
 else
 some 0
 else
 some 2
def y8g (k : Nat) : Vm.Spec := { ps := [qT], rs := [.imm (.int .i64)], f := fun x => za7 k x }
noncomputable def y14 : Vm.Spec := y8g fuel
theorem zf1 : Vm.Spec.holds Tryd.prog 59 y14 := z16 (E := w22) (L := yt6) (fn := Tryd.f59) (Z := y8g) (z1u ok) (z0s (by exact ⟨⟨by kernel_rfl, y1m⟩, trivial⟩)) z17 (z0a rfl) (z01 rfl) (by kernel_rfl) (by kernel_rfl) (z0t rfl) fun k x => by kernel_rfl
noncomputable def y6h : Env := { te := te, spec := [(53, zt6), (59, y14)], body := [] }
def l_matrix_Out_3H : Ann := { slots := [(4, .one (.own 92 .str)), (8, .one (.val (.slice qT))), (9, .one (.val (.int .i64))), (10, .one (.val (.int .i64)))], objs := [(92, .buf .str)] }
def y0j : Ann := { slots := [(4, .one (.own 92 .str))], objs := [(92, .buf .str)] }
def y0i : Ann := { slots := [(2, .one (.fix .nil)), (3, .one (.val (.int .i64)))], objs := [] }
def z55 : Nat → List (Bool × ((List Int) × (List Int))) → Int → Int → List ByteArray → Option (LR y0j y0i)
 | 0, _, _, _, _ => none
 | m + 1, s8, s9, s10, b92 =>
  if decide (s10 < s9) = true then
  if (0 : Int) ≤ s10 then
  if s10 < s8.length then
  (za7 fuel ((s8.getD s10.toNat (false, ([], []))).1, ((s8.getD s10.toNat (false, ([], []))).2))).bind fun r1 =>
  if (r1 != 0) = true then
  some (.ret (r1, ()))
  else
  (z8q fuel ((s8.getD s10.toNat (false, ([], []))).1, ((s8.getD s10.toNat (false, ([], []))).2))).bind fun r2 =>
  if (b92.length + 1) * 16 ≤ 140737488355328 then
  z55 m s8 s9 (IntKind.i64.wrap (s10 + 1)) (b92 ++ [r2])
  else none
  else none
  else none
  else
  some (.exit (b92, ()))
def l_matrix_Out_3L : LSpec := { h := l_matrix_Out_3H, x := y0j, r := y0i, xid := 0, rt := true, pins := [], f := fun k d => z55 k d.1 d.2.1 d.2.2.1 d.2.2.2.1 }
def y3q : z29 := [([58], [(3, l_matrix_Out_3L)])]
def z4b (k : Nat) (a0 : List (Bool × ((List Int) × (List Int)))) : Option (List ByteArray × Int) :=
 match z55 k a0 (a0.length : Int) 0 [] with
 | none => none
 | some (.exit d1) =>
  some (d1.1, 0)
 | some (.ret d1) =>
  some ([], d1.1)
theorem y37 (m : Nat) (d : dens l_matrix_Out_3H.tys) : l_matrix_Out_3L.f (m + 1) d = round y6h y3q m [58] 26 (z2w (z1j Tryd.f58) 0) l_matrix_Out_3L (l_matrix_Out_3L.f m) d := by kernel_rfl
def y40 (k : Nat) : Vm.Spec := { ps := [.slice qT], rs := [.fresh .str, .imm (.int .i64)], f := fun x => z4b k x }
noncomputable def zz8 : Vm.Spec := y40 fuel
theorem zm5 : Vm.Spec.holds Tryd.prog 58 zz8 := z16 (E := y6h) (L := y3q) (fn := Tryd.f58) (Z := y40) (z1u ok) (z0s (by exact ⟨⟨by kernel_rfl, za8⟩, ⟨by kernel_rfl, zf1⟩, trivial⟩)) z17 (z0a rfl) (z01 rfl) (by kernel_rfl) (by kernel_rfl) (z0o (ls := [(3, l_matrix_Out_3L)]) rfl rfl ⟨by kernel_rfl, fun _ => rfl, y37, z0p (by kernel_rfl)⟩) fun k x => by kernel_rfl
noncomputable def y7j : Env := { te := te, spec := [(53, zt6), (58, zz8), (59, y14)], body := [] }
def y5i : z29 := []
def z18 (k : Nat) (a0 : Int) (a1 : List (Bool × ((List Int) × (List Int)))) (a2 : List (Bool × ((List Int) × (List Int)))) (a3 : List (Bool × ((List Int) × (List Int)))) (a4 : Bool × ((List Int) × (List Int))) : Option ((Int × ((List ByteArray) × ((List ByteArray) × ((List ByteArray) × ByteArray)))) × Int) :=
 (z4b fuel a1).bind fun r1 =>
 if (r1.2 != 0) = true then
 some ((0, ([], ([], ([], ByteArray.empty)))), r1.2)
 else
 (z4b fuel a2).bind fun r2 =>
 if (r2.2 != 0) = true then
 some ((0, ([], ([], ([], ByteArray.empty)))), r2.2)
 else
 (z4b fuel a3).bind fun r3 =>
 if (r3.2 != 0) = true then
 some ((0, ([], ([], ([], ByteArray.empty)))), r3.2)
 else
 (za7 fuel a4).bind fun r4 =>
 if (r4 != 0) = true then
 some ((0, ([], ([], ([], ByteArray.empty)))), r4)
 else
 if (a0 == 0) = true then
 (z8q fuel a4).bind fun r5 =>
 some ((a0, (r1.1, (r2.1, (r3.1, r5)))), 0)
 else
 some ((a0, (r1.1, (r2.1, (r3.1, ByteArray.empty)))), 0)
def zp9 (k : Nat) : Vm.Spec := { ps := [.int .i64, .slice qT, .slice qT, .slice qT, qT], rs := [.imm (.pair (.int .i64) (.pair (.slice .str) (.pair (.slice .str) (.pair (.slice .str) .str)))), .imm (.int .i64)], f := fun x => z18 k x.1 x.2.1 x.2.2.1 x.2.2.2.1 x.2.2.2.2 }
noncomputable def zw4 : Vm.Spec := zp9 fuel
theorem zy3 : Vm.Spec.holds Tryd.prog 31 zw4 := z16 (E := y7j) (L := y5i) (fn := Tryd.f31) (Z := zp9) (z1u ok) (z0s (by exact ⟨⟨by kernel_rfl, za8⟩, ⟨by kernel_rfl, zm5⟩, ⟨by kernel_rfl, zf1⟩, trivial⟩)) z17 (z0a rfl) (z01 rfl) (by kernel_rfl) (by kernel_rfl) (z0t rfl) fun k x => by kernel_rfl
end Go.Proofs.YtcdcoeofhnfjdaaDoor
