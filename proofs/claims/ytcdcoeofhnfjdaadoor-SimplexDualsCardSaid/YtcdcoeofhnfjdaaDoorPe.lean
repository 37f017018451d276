/- Pure functions, printed by a program of this session out of the program. -/
import Derived.Test.YtcdcoeofhnfjdaaDoorVmD
import Derived.Test.YtcdcoeofhnfjdaaDoorSh
set_option linter.unusedVariables false
namespace Go.Proofs.YtcdcoeofhnfjdaaDoor
open Go Vm Go.Proofs
abbrev qT : Ty := .pair .bool (.pair (.slice (.int .u32)) (.slice (.int .u32)))
def te : TE := [(2, ⟨.int .i64, .sc, 8⟩),
  (3, ⟨.int .i64, .sc, 8⟩),
  (4, ⟨.bool, .sc, 1⟩),
  (5, ⟨.int .u8, .sc, 1⟩),
  (9, ⟨.str, .sc, 16⟩),
  (22, ⟨.slice (.slice .str), .slice 25, 24⟩),
  (23, ⟨.slice (.slice .str), .slice 25, 24⟩),
  (24, ⟨.slice .str, .slice 30, 24⟩),
  (25, ⟨.slice .str, .slice 30, 24⟩),
  (27, ⟨.pair (.slice (.slice .str)) (.pair (.slice .str) (.slice .str)), .st [23, 25, 25], 72⟩),
  (30, ⟨.str, .sc, 16⟩),
  (32, ⟨.pair (.int .i64) (.pair (.slice .str) (.pair (.slice .str) (.pair (.slice .str) .str))), .st [3, 25, 25, 25, 30], 96⟩),
  (33, ⟨.int .i64, .sc, 8⟩),
  (60, ⟨.slice (.slice (.slice .str)), .slice 23, 24⟩),
  (65, ⟨.opq, .ptr 73, 8⟩),
  (68, ⟨.slice qT, .slice 77, 24⟩),
  (70, ⟨.slice (.slice qT), .slice 68, 24⟩),
  (71, ⟨.slice (.int .i64), .slice 3, 24⟩),
  (73, ⟨.pair (.slice (.slice qT)) (.pair (.slice (.int .i64)) (.pair (.int .i64) (.int .i64))), .st [70, 71, 3, 3], 64⟩),
  (75, ⟨.slice (.int .u32), .slice 125, 24⟩),
  (77, ⟨qT, .st [4, 75, 75], 56⟩),
  (94, ⟨.slice (.int .i64), .slice 33, 24⟩),
  (99, ⟨.int .u64, .sc, 8⟩),
  (110, ⟨.arr 3 (.int .i64), .ar 3 3, 24⟩),
  (111, ⟨.arr 3 (.arr 3 (.int .i64)), .ar 3 110, 72⟩),
  (125, ⟨.int .u32, .sc, 4⟩),
  (126, ⟨.slice (.int .u8), .slice 5, 24⟩),
  (129, ⟨.arr 9 (.int .u8), .ar 9 5, 9⟩),
  (131, ⟨.int .u64, .sc, 8⟩)]
theorem ok : EOk Tryd.prog { te := te, spec := [], body := [] } := wf1 (by kernel_rfl)
theorem z16 : Tryd.prog.follows .mixedOrders = true := by kernel_rfl
noncomputable def yy5 : Env := { te := te, spec := [], body := [] }
def l_nat_Of_2H : Ann := { slots := [(0, .one (.val (.int .i64))), (3, .one (.own 44 (.int .u32)))], objs := [(44, .buf (.int .u32))] }
def y8x : Ann := { slots := [(3, .one (.own 44 (.int .u32)))], objs := [(44, .buf (.int .u32))] }
def y8w : Ann := { slots := [], objs := [] }
def zi0 : Nat → Int → List Int → Option (LR y8x y8w)
 | 0, _, _ => none
 | m + 1, s0, b44 =>
  if decide (s0 > 0) = true then
  if (b44.length + 1) * 4 ≤ 140737488355328 then
  zi0 m (IntKind.i64.wrap (s0.tdiv 1000000000)) (b44 ++ [IntKind.u32.wrap (s0.tmod 1000000000)])
  else none
  else
  some (.exit (b44, ()))
def l_nat_Of_2L : LSpec := { h := l_nat_Of_2H, x := y8x, r := y8w, xid := 0, rt := false, pins := [], f := fun k d => zi0 k d.1 d.2.1 }
def yi4 : z2a := [([66], [(2, l_nat_Of_2L)])]
def z5u (k : Nat) (a0 : Int) : Option (List Int) :=
 match zi0 k a0 [] with
 | none => none
 | some (.exit d1) =>
  some d1.1
 | some (.ret d1) =>
  none
theorem y8y (m : Nat) (d : dens l_nat_Of_2H.tys) : l_nat_Of_2L.f (m + 1) d = round yy5 yi4 m [66] 15 (z2w (z1g Tryd.f66) 0) l_nat_Of_2L (l_nat_Of_2L.f m) d := by kernel_rfl
def yj4 (k : Nat) : Vm.Spec := { ps := [.int .i64], rs := [.fresh (.int .u32)], f := fun x => z5u k x }
noncomputable def y11 : Vm.Spec := yj4 fuel
theorem z87 : Vm.Spec.holds Tryd.prog 66 y11 := z15 (E := yy5) (L := yi4) (fn := Tryd.f66) (Z := yj4) (z1t ok) (z0u (by exact trivial)) z16 (z0a rfl) (z01 rfl) (by kernel_rfl) (by kernel_rfl) (z0o (ls := [(2, l_nat_Of_2L)]) rfl rfl ⟨by kernel_rfl, fun _ => rfl, y8y, z0p (by kernel_rfl)⟩) fun k x => by kernel_rfl
noncomputable def zs9 : Env := { te := te, spec := [], body := [] }
def zp3 : z2a := []
def z4s (k : Nat) (a0 : ByteArray) (a1 : ByteArray) : Option (Bool) :=
 if decide ((a0.size : Int) ≥ (a1.size : Int)) = true then
 if (0 : Int) ≤ (a1.size : Int) then
 if (a1.size : Int) ≤ a0.size then
 some (((a0.extract 0 (a1.size : Int).toNat).toList == a1.toList))
 else none
 else none
 else
 some false
def z8u (k : Nat) : Vm.Spec := { ps := [.str, .str], rs := [.imm .bool], f := fun x => z4s k x.1 x.2 }
noncomputable def z9d : Vm.Spec := z8u fuel
theorem zf6 : Vm.Spec.holds Tryd.prog 88 z9d := z15 (E := zs9) (L := zp3) (fn := Tryd.f88) (Z := z8u) (z1t ok) (z0u (by exact trivial)) z16 (z0a rfl) (z01 rfl) (by kernel_rfl) (by kernel_rfl) (z0v rfl) fun k x => by kernel_rfl
noncomputable def zs8 : Env := { te := te, spec := [(88, z9d)], body := [] }
def zp2 : z2a := []
def z4r (k : Nat) (a0 : ByteArray) (a1 : ByteArray) : Option (ByteArray × Bool) :=
 (z4s fuel a0 a1).bind fun r1 =>
 if (!r1) = true then
 some (a0, false)
 else
 if (0 : Int) ≤ (a1.size : Int) then
 if (a1.size : Int) ≤ a0.size then
 some (a0.extract (a1.size : Int).toNat a0.size, true)
 else none
 else none
def z8t (k : Nat) : Vm.Spec := { ps := [.str, .str], rs := [.imm .str, .imm .bool], f := fun x => z4r k x.1 x.2 }
noncomputable def z9c : Vm.Spec := z8t fuel
theorem zf5 : Vm.Spec.holds Tryd.prog 83 z9c := z15 (E := zs8) (L := zp2) (fn := Tryd.f83) (Z := z8t) (z1t ok) (z0u (by exact ⟨⟨by kernel_rfl, zf6⟩, trivial⟩)) z16 (z0a rfl) (z01 rfl) (by kernel_rfl) (by kernel_rfl) (z0v rfl) fun k x => by kernel_rfl
noncomputable def y2k : Env := { te := te, spec := [(83, z9c)], body := [] }
def y1f : z2a := []
def z2m (k : Nat) (a0 : ByteArray) (a1 : ByteArray) : Option (ByteArray × Bool) :=
 (z4r fuel a0 a1).bind fun r1 =>
 some (r1.1, r1.2)
def zg4 (k : Nat) : Vm.Spec := { ps := [.str, .str], rs := [.imm .str, .imm .bool], f := fun x => z2m k x.1 x.2 }
noncomputable def z8h : Vm.Spec := zg4 fuel
theorem z88 : Vm.Spec.holds Tryd.prog 67 z8h := z15 (E := y2k) (L := y1f) (fn := Tryd.f67) (Z := zg4) (z1t ok) (z0u (by exact ⟨⟨by kernel_rfl, zf5⟩, trivial⟩)) z16 (z0a rfl) (z01 rfl) (by kernel_rfl) (by kernel_rfl) (z0v rfl) fun k x => by kernel_rfl
noncomputable def y50 : Env := { te := te, spec := [(89, Vm.sIndex)], body := [] }
def y3j : z2a := []
def z7e (k : Nat) (a0 : ByteArray) (a1 : ByteArray) : Option (ByteArray × ByteArray × Bool) :=
 (Vm.stdIndex a0 a1).bind fun r1 =>
 if decide (r1 ≥ 0) = true then
 if (0 : Int) ≤ r1 then
 if r1 ≤ a0.size then
 if (0 : Int) ≤ IntKind.i64.wrap (r1 + (a1.size : Int)) then
 if IntKind.i64.wrap (r1 + (a1.size : Int)) ≤ a0.size then
 some (a0.extract 0 r1.toNat, a0.extract (IntKind.i64.wrap (r1 + (a1.size : Int))).toNat a0.size, true)
 else none
 else none
 else none
 else none
 else
 some (a0, (⟨#[]⟩ : ByteArray), false)
def zm4 (k : Nat) : Vm.Spec := { ps := [.str, .str], rs := [.imm .str, .imm .str, .imm .bool], f := fun x => z7e k x.1 x.2 }
noncomputable def zp4 : Vm.Spec := zm4 fuel
theorem zu8 : Vm.Spec.holds Tryd.prog 84 zp4 := z15 (E := y50) (L := y3j) (fn := Tryd.f84) (Z := zm4) (z1t ok) (z0u (by exact ⟨⟨by kernel_rfl, w4c⟩, trivial⟩)) z16 (z0a rfl) (z01 rfl) (by kernel_rfl) (by kernel_rfl) (z0v rfl) fun k x => by kernel_rfl
noncomputable def yd9 : Env := { te := te, spec := [(84, zp4)], body := [] }
def y9u : z2a := []
def z5e (k : Nat) (a0 : ByteArray) (a1 : ByteArray) : Option (ByteArray × ByteArray × Bool) :=
 (z7e fuel a0 a1).bind fun r1 =>
 some (r1.1, r1.2.1, r1.2.2)
def y1s (k : Nat) : Vm.Spec := { ps := [.str, .str], rs := [.imm .str, .imm .str, .imm .bool], f := fun x => z5e k x.1 x.2 }
noncomputable def zu0 : Vm.Spec := y1s fuel
theorem zj9 : Vm.Spec.holds Tryd.prog 68 zu0 := z15 (E := yd9) (L := y9u) (fn := Tryd.f68) (Z := y1s) (z1t ok) (z0u (by exact ⟨⟨by kernel_rfl, zu8⟩, trivial⟩)) z16 (z0a rfl) (z01 rfl) (by kernel_rfl) (by kernel_rfl) (z0v rfl) fun k x => by kernel_rfl
noncomputable def y10 : Env := { te := te, spec := [], body := [(85, Tryd.f85)] }
def l_nat_Read_7H : Ann := { slots := [(5, .one (.val (.int .u32))), (20, .one (.val (.slice (.int .u8)))), (21, .one (.val (.int .i64))), (22, .one (.val (.int .i64)))], objs := [] }
def y4i : Ann := { slots := [(5, .one (.val (.int .u32)))], objs := [] }
def y4h : Ann := { slots := [], objs := [] }
def l_nat_Read_3H : Ann := { slots := [(0, .one (.val .str)), (3, .one (.own 144 (.int .u32))), (4, .one (.val (.int .i64)))], objs := [(144, .buf (.int .u32))] }
def y4g : Ann := { slots := [(3, .one (.own 144 (.int .u32)))], objs := [(144, .buf (.int .u32))] }
def y4f : Ann := { slots := [], objs := [] }
def l_nat_N_trim__nat_Read_1H : Ann := { slots := [(0, .one (.pre 148 (.int .u32)))], objs := [(148, .buf (.int .u32))] }
def z8a : Ann := { slots := [(0, .one (.pre 148 (.int .u32)))], objs := [(148, .buf (.int .u32))] }
def z89 : Ann := { slots := [], objs := [] }
def z90 : Nat → Int → List Int → Int → Int → Option (LR y4i y4h)
 | 0, _, _, _, _ => none
 | m + 1, s5, s20, s21, s22 =>
  if decide (s22 < s21) = true then
  if (0 : Int) ≤ s22 then
  if s22 < s20.length then
  z90 m (IntKind.u32.wrap ((IntKind.u32.wrap (s5 * 10)) + (IntKind.u32.wrap (IntKind.u8.wrap ((s20.getD s22.toNat 0) - 48))))) s20 s21 (IntKind.i64.wrap (s22 + 1))
  else none
  else none
  else
  some (.exit (s5, ()))
def l_nat_Read_7L : LSpec := { h := l_nat_Read_7H, x := y4i, r := y4h, xid := 2, rt := false, pins := [], f := fun k d => z90 k d.1 d.2.1 d.2.2.1 d.2.2.2.1 }
def z8z : Nat → ByteArray → Int → List Int → Option (LR y4g y4f)
 | 0, _, _, _ => none
 | m + 1, s0, s4, b144 =>
  if decide (s4 > 0) = true then
  if (0 : Int) ≤ s4 then
  if s4 ≤ s0.size then
  if (0 : Int) ≤ (if IntKind.i64.wrap (s4 - 9) > 0 then IntKind.i64.wrap (s4 - 9) else 0) then
  if (if IntKind.i64.wrap (s4 - 9) > 0 then IntKind.i64.wrap (s4 - 9) else 0) ≤ s4 then
  match z90 m 0 ((s0.extract (if IntKind.i64.wrap (s4 - 9) > 0 then IntKind.i64.wrap (s4 - 9) else 0).toNat s4.toNat).data.toList.map fun c => (c.toNat : Int)) (((s0.extract (if IntKind.i64.wrap (s4 - 9) > 0 then IntKind.i64.wrap (s4 - 9) else 0).toNat s4.toNat).data.toList.map fun c => (c.toNat : Int)).length : Int) 0 with
  | none => none
  | some (.exit d1) =>
   if (b144.length + 1) * 4 ≤ 140737488355328 then
   z8z m s0 (IntKind.i64.wrap (s4 - 9)) (b144 ++ [d1.1])
   else none
  | some (.ret d1) =>
   none
  else none
  else none
  else none
  else none
  else
  some (.exit (b144, ()))
def l_nat_Read_3L : LSpec := { h := l_nat_Read_3H, x := y4g, r := y4f, xid := 0, rt := false, pins := [], f := fun k d => z8z k d.1 d.2.1 d.2.2.1 }
def z2y : Nat → Nat → List Int → Option (LR z8a z89)
 | 0, _, _ => none
 | m + 1, s0, b148 =>
  if decide ((s0 : Int) > 0) = true then
  if (0 : Int) ≤ IntKind.i64.wrap ((s0 : Int) - 1) then
  if IntKind.i64.wrap ((s0 : Int) - 1) < s0 then
  if (b148.getD ((IntKind.i64.wrap ((s0 : Int) - 1)).toNat) 0 == 0) = true then
  if (0 : Int) ≤ IntKind.i64.wrap ((s0 : Int) - 1) then
  if IntKind.i64.wrap ((s0 : Int) - 1) ≤ s0 then
  z2y m ((IntKind.i64.wrap ((s0 : Int) - 1)).toNat) b148
  else none
  else none
  else
  some (.exit (s0, b148, ()))
  else none
  else none
  else
  some (.exit (s0, b148, ()))
def l_nat_N_trim__nat_Read_1L : LSpec := { h := l_nat_N_trim__nat_Read_1H, x := z8a, r := z89, xid := 0, rt := false, pins := [148], f := fun k d => z2y k d.1 d.2.1 }
def zt2 : z2a := [([69], [(3, l_nat_Read_3L), (7, l_nat_Read_7L)]), ([85, 69], [(1, l_nat_N_trim__nat_Read_1L)])]
def z3s (k : Nat) (a0 : ByteArray) : Option (List Int) :=
 match z8z k a0 (a0.size : Int) [] with
 | none => none
 | some (.exit d1) =>
  match z2y k d1.1.length d1.1 with
  | none => none
  | some (.exit d2) =>
   some (d2.2.1.take d2.1)
  | some (.ret d2) =>
   none
 | some (.ret d1) =>
  none
theorem y5l (m : Nat) (d : dens l_nat_Read_7H.tys) : l_nat_Read_7L.f (m + 1) d = round y10 zt2 m [69] 39 (z2w (z1g Tryd.f69) 1) l_nat_Read_7L (l_nat_Read_7L.f m) d := by kernel_rfl
theorem y5k (m : Nat) (d : dens l_nat_Read_3H.tys) : l_nat_Read_3L.f (m + 1) d = round y10 zt2 m [69] 39 (z2w (z1g Tryd.f69) 0) l_nat_Read_3L (l_nat_Read_3L.f m) d := by kernel_rfl
theorem zf8 (m : Nat) (d : dens l_nat_N_trim__nat_Read_1H.tys) : l_nat_N_trim__nat_Read_1L.f (m + 1) d = round y10 zt2 m [85, 69] 21 (z2w (z1g Tryd.f85) 0) l_nat_N_trim__nat_Read_1L (l_nat_N_trim__nat_Read_1L.f m) d := by kernel_rfl
def y82 (k : Nat) : Vm.Spec := { ps := [.str], rs := [.fresh (.int .u32)], f := fun x => z3s k x }
noncomputable def y53 : Vm.Spec := y82 fuel
theorem zw9 : Vm.Spec.holds Tryd.prog 69 y53 := z15 (E := y10) (L := zt2) (fn := Tryd.f69) (Z := y82) (z1t ok) (z0u (by exact trivial)) z16 (zd0 (by exact ⟨by kernel_rfl, by kernel_rfl, trivial⟩)) (z4u (by exact ⟨(z2x [[69]] (by exact ⟨z0o (ls := [(1, l_nat_N_trim__nat_Read_1L)]) rfl rfl ⟨by kernel_rfl, fun _ => rfl, zf8, z0p (by kernel_rfl)⟩,  trivial⟩) rfl),  trivial⟩)) (by kernel_rfl) (by kernel_rfl) (z0o (ls := [(3, l_nat_Read_3L), (7, l_nat_Read_7L)]) rfl rfl ⟨by kernel_rfl, fun _ => rfl, y5k, by kernel_rfl, fun _ => rfl, y5l, z0p (by kernel_rfl)⟩) fun k x => by kernel_rfl
noncomputable def y7r : Env := { te := te, spec := [], body := [] }
def l_nat_Check_4H : Ann := { slots := [(18, .one (.val (.slice (.int .u8)))), (19, .one (.val (.int .i64))), (20, .one (.val (.int .i64)))], objs := [] }
def y21 : Ann := { slots := [], objs := [] }
def y20 : Ann := { slots := [(2, .one (.val (.int .i64)))], objs := [] }
def z66 : Nat → List Int → Int → Int → Option (LR y21 y20)
 | 0, _, _, _ => none
 | m + 1, s18, s19, s20 =>
  if decide (s20 < s19) = true then
  if (0 : Int) ≤ s20 then
  if s20 < s18.length then
  if decide (s18.getD s20.toNat 0 < 48) = false then
  if decide (s18.getD s20.toNat 0 > 57) = true then
  some (.ret (5, ()))
  else
  z66 m s18 s19 (IntKind.i64.wrap (s20 + 1))
  else
  some (.ret (5, ()))
  else none
  else none
  else
  some (.exit ())
def l_nat_Check_4L : LSpec := { h := l_nat_Check_4H, x := y21, r := y20, xid := 0, rt := true, pins := [], f := fun k d => z66 k d.1 d.2.1 d.2.2.1 }
def y67 : z2a := [([71], [(4, l_nat_Check_4L)])]
def z61 (k : Nat) (a0 : ByteArray) : Option (Int) :=
 if ((a0.toList == (⟨#[]⟩ : ByteArray).toList)) = false then
 if (0 : Int) < (a0.size : Int) then
 if (((a0.data.getD 0 0).toNat : Int) == 48) = true then
 if decide ((a0.size : Int) > 1) = true then
 some 5
 else
 match z66 k (a0.data.toList.map fun c => (c.toNat : Int)) ((a0.data.toList.map fun c => (c.toNat : Int)).length : Int) 0 with
 | none => none
 | some (.exit d1) =>
  if decide ((a0.size : Int) > 2000) = true then
  some 2
  else
  some 0
 | some (.ret d1) =>
  some d1.1
 else
 match z66 k (a0.data.toList.map fun c => (c.toNat : Int)) ((a0.data.toList.map fun c => (c.toNat : Int)).length : Int) 0 with
 | none => none
 | some (.exit d2) =>
  if decide ((a0.size : Int) > 2000) = true then
  some 2
  else
  some 0
 | some (.ret d2) =>
  some d2.1
 else none
 else
 some 5
theorem y47 (m : Nat) (d : dens l_nat_Check_4H.tys) : l_nat_Check_4L.f (m + 1) d = round y7r y67 m [71] 34 (z2w (z1g Tryd.f71) 0) l_nat_Check_4L (l_nat_Check_4L.f m) d := by kernel_rfl
def y6d (k : Nat) : Vm.Spec := { ps := [.str], rs := [.imm (.int .i64)], f := fun x => z61 k x }
noncomputable def y7y : Vm.Spec := y6d fuel
theorem y5c : Vm.Spec.holds Tryd.prog 71 y7y := z15 (E := y7r) (L := y67) (fn := Tryd.f71) (Z := y6d) (z1t ok) (z0u (by exact trivial)) z16 (z0a rfl) (z01 rfl) (by kernel_rfl) (by kernel_rfl) (z0o (ls := [(4, l_nat_Check_4L)]) rfl rfl ⟨by kernel_rfl, fun _ => rfl, y47, z0p (by kernel_rfl)⟩) fun k x => by kernel_rfl
noncomputable def y7t : Env := { te := te, spec := [], body := [] }
def l_nat_N_Cmp_6H : Ann := { slots := [(0, .one (.val (.slice (.int .u32)))), (1, .one (.val (.slice (.int .u32)))), (5, .one (.val (.int .i64)))], objs := [] }
def y25 : Ann := { slots := [], objs := [] }
def y24 : Ann := { slots := [(4, .one (.val (.int .i64)))], objs := [] }
def z7g : Nat → List Int → List Int → Int → Option (LR y25 y24)
 | 0, _, _, _ => none
 | m + 1, s0, s1, s5 =>
  if decide (s5 ≥ 0) = true then
  if (0 : Int) ≤ s5 then
  if s5 < s0.length then
  if (0 : Int) ≤ s5 then
  if s5 < s1.length then
  if decide (s0.getD s5.toNat 0 < s1.getD s5.toNat 0) = true then
  some (.ret ((-1), ()))
  else
  if (0 : Int) ≤ s5 then
  if s5 < s0.length then
  if (0 : Int) ≤ s5 then
  if s5 < s1.length then
  if decide (s0.getD s5.toNat 0 > s1.getD s5.toNat 0) = true then
  some (.ret (1, ()))
  else
  z7g m s0 s1 (IntKind.i64.wrap (s5 - 1))
  else none
  else none
  else none
  else none
  else none
  else none
  else none
  else none
  else
  some (.exit ())
def l_nat_N_Cmp_6L : LSpec := { h := l_nat_N_Cmp_6H, x := y25, r := y24, xid := 0, rt := true, pins := [], f := fun k d => z7g k d.1 d.2.1 d.2.2.1 }
def y69 : z2a := [([73], [(6, l_nat_N_Cmp_6L)])]
def z4i (k : Nat) (a0 : List Int) (a1 : List Int) : Option (Int) :=
 if ((a0.length : Int) != (a1.length : Int)) = true then
 if decide ((a0.length : Int) < (a1.length : Int)) = true then
 some (-1)
 else
 some 1
 else
 match z7g k a0 a1 (IntKind.i64.wrap ((a0.length : Int) - 1)) with
 | none => none
 | some (.exit d1) =>
  some 0
 | some (.ret d1) =>
  some d1.1
theorem y49 (m : Nat) (d : dens l_nat_N_Cmp_6H.tys) : l_nat_N_Cmp_6L.f (m + 1) d = round y7t y69 m [73] 43 (z2w (z1g Tryd.f73) 0) l_nat_N_Cmp_6L (l_nat_N_Cmp_6L.f m) d := by kernel_rfl
def y6f (k : Nat) : Vm.Spec := { ps := [.slice (.int .u32), .slice (.int .u32)], rs := [.imm (.int .i64)], f := fun x => z4i k x.1 x.2 }
noncomputable def zi6 : Vm.Spec := y6f fuel
theorem z7b : Vm.Spec.holds Tryd.prog 73 zi6 := z15 (E := y7t) (L := y69) (fn := Tryd.f73) (Z := y6f) (z1t ok) (z0u (by exact trivial)) z16 (z0a rfl) (z01 rfl) (by kernel_rfl) (by kernel_rfl) (z0o (ls := [(6, l_nat_N_Cmp_6L)]) rfl rfl ⟨by kernel_rfl, fun _ => rfl, y49, z0p (by kernel_rfl)⟩) fun k x => by kernel_rfl
noncomputable def zs7 : Env := { te := te, spec := [], body := [(85, Tryd.f85)] }
def l_nat_N_Mul_7H : Ann := { slots := [(5, .one (.own 68 (.int .u32))), (6, .one (.val (.int .i64))), (7, .one (.val (.int .u32))), (8, .one (.val (.int .u64))), (25, .one (.val (.slice (.int .u32)))), (26, .one (.val (.int .i64))), (27, .one (.val (.int .i64)))], objs := [(68, .buf (.int .u32))] }
def y2d : Ann := { slots := [(5, .one (.own 68 (.int .u32))), (8, .one (.val (.int .u64)))], objs := [(68, .buf (.int .u32))] }
def y2c : Ann := { slots := [], objs := [] }
def l_nat_N_Mul_3H : Ann := { slots := [(1, .one (.val (.slice (.int .u32)))), (5, .one (.own 68 (.int .u32))), (18, .one (.val (.slice (.int .u32)))), (19, .one (.val (.int .i64))), (20, .one (.val (.int .i64)))], objs := [(68, .buf (.int .u32))] }
def y2b : Ann := { slots := [(5, .one (.own 68 (.int .u32)))], objs := [(68, .buf (.int .u32))] }
def y2a : Ann := { slots := [], objs := [] }
def l_nat_N_trim__nat_N_Mul_1H : Ann := { slots := [(0, .one (.pre 68 (.int .u32)))], objs := [(68, .buf (.int .u32))] }
def z7u : Ann := { slots := [(0, .one (.pre 68 (.int .u32)))], objs := [(68, .buf (.int .u32))] }
def z7t : Ann := { slots := [], objs := [] }
def z7j : Nat → Int → Int → Int → List Int → Int → Int → List Int → Option (LR y2d y2c)
 | 0, _, _, _, _, _, _, _ => none
 | m + 1, s6, s7, s8, s25, s26, s27, b68 =>
  if decide (s27 < s26) = true then
  if (0 : Int) ≤ s27 then
  if s27 < s25.length then
  if (0 : Int) ≤ IntKind.i64.wrap (s6 + s27) then
  if IntKind.i64.wrap (s6 + s27) < b68.length then
  if (0 : Int) ≤ IntKind.i64.wrap (s6 + s27) then
  if IntKind.i64.wrap (s6 + s27) < b68.length then
  z7j m s6 s7 (IntKind.u64.wrap ((IntKind.u64.wrap ((IntKind.u64.wrap ((IntKind.u64.wrap ((IntKind.u64.wrap (s7)) * (IntKind.u64.wrap (s25.getD s27.toNat 0)))) + (IntKind.u64.wrap (b68.getD ((IntKind.i64.wrap (s6 + s27)).toNat) 0)))) + s8)).tdiv 1000000000)) s25 s26 (IntKind.i64.wrap (s27 + 1)) (b68.set ((IntKind.i64.wrap (s6 + s27)).toNat) (IntKind.u32.wrap ((IntKind.u64.wrap ((IntKind.u64.wrap ((IntKind.u64.wrap ((IntKind.u64.wrap (s7)) * (IntKind.u64.wrap (s25.getD s27.toNat 0)))) + (IntKind.u64.wrap (b68.getD ((IntKind.i64.wrap (s6 + s27)).toNat) 0)))) + s8)).tmod 1000000000)))
  else none
  else none
  else none
  else none
  else none
  else none
  else
  some (.exit (s8, b68, ()))
def l_nat_N_Mul_7L : LSpec := { h := l_nat_N_Mul_7H, x := y2d, r := y2c, xid := 2, rt := false, pins := [68], f := fun k d => z7j k d.1 d.2.1 d.2.2.1 d.2.2.2.1 d.2.2.2.2.1 d.2.2.2.2.2.1 d.2.2.2.2.2.2.1 }
def z7i : Nat → List Int → List Int → Int → Int → List Int → Option (LR y2b y2a)
 | 0, _, _, _, _, _ => none
 | m + 1, s1, s18, s19, s20, b68 =>
  if decide (s20 < s19) = true then
  if (0 : Int) ≤ s20 then
  if s20 < s18.length then
  match z7j m s20 (s18.getD s20.toNat 0) 0 s1 (s1.length : Int) 0 b68 with
  | none => none
  | some (.exit d1) =>
   if (0 : Int) ≤ IntKind.i64.wrap (s20 + (s1.length : Int)) then
   if IntKind.i64.wrap (s20 + (s1.length : Int)) < d1.2.1.length then
   z7i m s1 s18 s19 (IntKind.i64.wrap (s20 + 1)) (d1.2.1.set ((IntKind.i64.wrap (s20 + (s1.length : Int))).toNat) (IntKind.u32.wrap (d1.1)))
   else none
   else none
  | some (.ret d1) =>
   none
  else none
  else none
  else
  some (.exit (b68, ()))
def l_nat_N_Mul_3L : LSpec := { h := l_nat_N_Mul_3H, x := y2b, r := y2a, xid := 0, rt := false, pins := [68], f := fun k d => z7i k d.1 d.2.1 d.2.2.1 d.2.2.2.1 d.2.2.2.2.1 }
def z2t : Nat → Nat → List Int → Option (LR z7u z7t)
 | 0, _, _ => none
 | m + 1, s0, b68 =>
  if decide ((s0 : Int) > 0) = true then
  if (0 : Int) ≤ IntKind.i64.wrap ((s0 : Int) - 1) then
  if IntKind.i64.wrap ((s0 : Int) - 1) < s0 then
  if (b68.getD ((IntKind.i64.wrap ((s0 : Int) - 1)).toNat) 0 == 0) = true then
  if (0 : Int) ≤ IntKind.i64.wrap ((s0 : Int) - 1) then
  if IntKind.i64.wrap ((s0 : Int) - 1) ≤ s0 then
  z2t m ((IntKind.i64.wrap ((s0 : Int) - 1)).toNat) b68
  else none
  else none
  else
  some (.exit (s0, b68, ()))
  else none
  else none
  else
  some (.exit (s0, b68, ()))
def l_nat_N_trim__nat_N_Mul_1L : LSpec := { h := l_nat_N_trim__nat_N_Mul_1H, x := z7u, r := z7t, xid := 0, rt := false, pins := [68], f := fun k d => z2t k d.1 d.2.1 }
def zl8 : z2a := [([77], [(3, l_nat_N_Mul_3L), (7, l_nat_N_Mul_7L)]), ([85, 77], [(1, l_nat_N_trim__nat_N_Mul_1L)])]
def z4j (k : Nat) (a0 : List Int) (a1 : List Int) : Option (List Int) :=
 if (0 : Int) ≤ IntKind.i64.wrap ((a0.length : Int) + (a1.length : Int)) then
 if IntKind.i64.wrap ((a0.length : Int) + (a1.length : Int)) ≤ IntKind.i64.wrap ((a0.length : Int) + (a1.length : Int)) then
 if (IntKind.i64.wrap ((a0.length : Int) + (a1.length : Int))) * 4 ≤ 281474976710656 then
 match z7i k a1 a0 (a0.length : Int) 0 (List.replicate ((IntKind.i64.wrap ((a0.length : Int) + (a1.length : Int))).toNat) 0) with
 | none => none
 | some (.exit d1) =>
  match z2t k d1.1.length d1.1 with
  | none => none
  | some (.exit d2) =>
   some (d2.2.1.take d2.1)
  | some (.ret d2) =>
   none
 | some (.ret d1) =>
  none
 else none
 else none
 else none
theorem y4d (m : Nat) (d : dens l_nat_N_Mul_7H.tys) : l_nat_N_Mul_7L.f (m + 1) d = round zs7 zl8 m [77] 69 (z2w (z1g Tryd.f77) 1) l_nat_N_Mul_7L (l_nat_N_Mul_7L.f m) d := by kernel_rfl
theorem y4c (m : Nat) (d : dens l_nat_N_Mul_3H.tys) : l_nat_N_Mul_3L.f (m + 1) d = round zs7 zl8 m [77] 69 (z2w (z1g Tryd.f77) 0) l_nat_N_Mul_3L (l_nat_N_Mul_3L.f m) d := by kernel_rfl
theorem ze1 (m : Nat) (d : dens l_nat_N_trim__nat_N_Mul_1H.tys) : l_nat_N_trim__nat_N_Mul_1L.f (m + 1) d = round zs7 zl8 m [85, 77] 21 (z2w (z1g Tryd.f85) 0) l_nat_N_trim__nat_N_Mul_1L (l_nat_N_trim__nat_N_Mul_1L.f m) d := by kernel_rfl
def y6i (k : Nat) : Vm.Spec := { ps := [.slice (.int .u32), .slice (.int .u32)], rs := [.fresh (.int .u32)], f := fun x => z4j k x.1 x.2 }
noncomputable def zi7 : Vm.Spec := y6i fuel
theorem z7c : Vm.Spec.holds Tryd.prog 77 zi7 := z15 (E := zs7) (L := zl8) (fn := Tryd.f77) (Z := y6i) (z1t ok) (z0u (by exact trivial)) z16 (zd0 (by exact ⟨by kernel_rfl, by kernel_rfl, trivial⟩)) (z4u (by exact ⟨(z2x [[77]] (by exact ⟨z0o (ls := [(1, l_nat_N_trim__nat_N_Mul_1L)]) rfl rfl ⟨by kernel_rfl, fun _ => rfl, ze1, z0p (by kernel_rfl)⟩,  trivial⟩) rfl),  trivial⟩)) (by kernel_rfl) (by kernel_rfl) (z0o (ls := [(3, l_nat_N_Mul_3L), (7, l_nat_N_Mul_7L)]) rfl rfl ⟨by kernel_rfl, fun _ => rfl, y4c, by kernel_rfl, fun _ => rfl, y4d, z0p (by kernel_rfl)⟩) fun k x => by kernel_rfl
noncomputable def y2j : Env := { te := te, spec := [], body := [(85, Tryd.f85)] }
def l_nat_N_Sub_4H : Ann := { slots := [(0, .one (.val (.slice (.int .u32)))), (1, .one (.val (.slice (.int .u32)))), (5, .one (.own 44 (.int .u32))), (6, .one (.val (.int .i64))), (13, .one (.val (.int .i64))), (14, .one (.val (.int .i64)))], objs := [(44, .buf (.int .u32))] }
def y2f : Ann := { slots := [(5, .one (.own 44 (.int .u32)))], objs := [(44, .buf (.int .u32))] }
def y2e : Ann := { slots := [], objs := [] }
def l_nat_N_trim__nat_N_Sub_1H : Ann := { slots := [(0, .one (.pre 44 (.int .u32)))], objs := [(44, .buf (.int .u32))] }
def z7w : Ann := { slots := [(0, .one (.pre 44 (.int .u32)))], objs := [(44, .buf (.int .u32))] }
def z7v : Ann := { slots := [], objs := [] }
def z48 : Nat → List Int → List Int → Int → Int → Int → List Int → Option (LR y2f y2e)
 | 0, _, _, _, _, _, _ => none
 | m + 1, s0, s1, s6, s13, s14, b44 =>
  if decide (s14 < s13) = true then
  if (0 : Int) ≤ s14 then
  if s14 < s0.length then
  if decide (s14 < (s1.length : Int)) = true then
  if (0 : Int) ≤ s14 then
  if s14 < s1.length then
  if decide (IntKind.i64.wrap ((IntKind.i64.wrap ((IntKind.i64.wrap (s0.getD s14.toNat 0)) - s6)) - (IntKind.i64.wrap (s1.getD s14.toNat 0))) < 0) = true then
  if (0 : Int) ≤ s14 then
  if s14 < b44.length then
  z48 m s0 s1 1 s13 (IntKind.i64.wrap (s14 + 1)) (b44.set s14.toNat (IntKind.u32.wrap (IntKind.i64.wrap ((IntKind.i64.wrap ((IntKind.i64.wrap ((IntKind.i64.wrap (s0.getD s14.toNat 0)) - s6)) - (IntKind.i64.wrap (s1.getD s14.toNat 0)))) + 1000000000))))
  else none
  else none
  else
  if (0 : Int) ≤ s14 then
  if s14 < b44.length then
  z48 m s0 s1 0 s13 (IntKind.i64.wrap (s14 + 1)) (b44.set s14.toNat (IntKind.u32.wrap (IntKind.i64.wrap ((IntKind.i64.wrap ((IntKind.i64.wrap (s0.getD s14.toNat 0)) - s6)) - (IntKind.i64.wrap (s1.getD s14.toNat 0))))))
  else none
  else none
  else none
  else none
  else
  if decide (IntKind.i64.wrap ((IntKind.i64.wrap (s0.getD s14.toNat 0)) - s6) < 0) = true then
  if (0 : Int) ≤ s14 then
  if s14 < b44.length then
  z48 m s0 s1 1 s13 (IntKind.i64.wrap (s14 + 1)) (b44.set s14.toNat (IntKind.u32.wrap (IntKind.i64.wrap ((IntKind.i64.wrap ((IntKind.i64.wrap (s0.getD s14.toNat 0)) - s6)) + 1000000000))))
  else none
  else none
  else
  if (0 : Int) ≤ s14 then
  if s14 < b44.length then
  z48 m s0 s1 0 s13 (IntKind.i64.wrap (s14 + 1)) (b44.set s14.toNat (IntKind.u32.wrap (IntKind.i64.wrap ((IntKind.i64.wrap (s0.getD s14.toNat 0)) - s6))))
  else none
  else none
  else none
  else none
  else
  some (.exit (b44, ()))
def l_nat_N_Sub_4L : LSpec := { h := l_nat_N_Sub_4H, x := y2f, r := y2e, xid := 0, rt := false, pins := [44], f := fun k d => z48 k d.1 d.2.1 d.2.2.1 d.2.2.2.1 d.2.2.2.2.1 d.2.2.2.2.2.1 }
def z2u : Nat → Nat → List Int → Option (LR z7w z7v)
 | 0, _, _ => none
 | m + 1, s0, b44 =>
  if decide ((s0 : Int) > 0) = true then
  if (0 : Int) ≤ IntKind.i64.wrap ((s0 : Int) - 1) then
  if IntKind.i64.wrap ((s0 : Int) - 1) < s0 then
  if (b44.getD ((IntKind.i64.wrap ((s0 : Int) - 1)).toNat) 0 == 0) = true then
  if (0 : Int) ≤ IntKind.i64.wrap ((s0 : Int) - 1) then
  if IntKind.i64.wrap ((s0 : Int) - 1) ≤ s0 then
  z2u m ((IntKind.i64.wrap ((s0 : Int) - 1)).toNat) b44
  else none
  else none
  else
  some (.exit (s0, b44, ()))
  else none
  else none
  else
  some (.exit (s0, b44, ()))
def l_nat_N_trim__nat_N_Sub_1L : LSpec := { h := l_nat_N_trim__nat_N_Sub_1H, x := z7w, r := z7v, xid := 0, rt := false, pins := [44], f := fun k d => z2u k d.1 d.2.1 }
def zz2 : z2a := [([80], [(4, l_nat_N_Sub_4L)]), ([85, 80], [(1, l_nat_N_trim__nat_N_Sub_1L)])]
def zj7 (k : Nat) (a0 : List Int) (a1 : List Int) : Option (List Int) :=
 if (0 : Int) ≤ (a0.length : Int) then
 if (a0.length : Int) ≤ (a0.length : Int) then
 if (a0.length : Int) * 4 ≤ 281474976710656 then
 match z48 k a0 a1 0 (a0.length : Int) 0 (List.replicate ((a0.length : Int).toNat) 0) with
 | none => none
 | some (.exit d1) =>
  match z2u k d1.1.length d1.1 with
  | none => none
  | some (.exit d2) =>
   some (d2.2.1.take d2.1)
  | some (.ret d2) =>
   none
 | some (.ret d1) =>
  none
 else none
 else none
 else none
theorem y4e (m : Nat) (d : dens l_nat_N_Sub_4H.tys) : l_nat_N_Sub_4L.f (m + 1) d = round y2j zz2 m [80] 47 (z2w (z1g Tryd.f80) 0) l_nat_N_Sub_4L (l_nat_N_Sub_4L.f m) d := by kernel_rfl
theorem ze2 (m : Nat) (d : dens l_nat_N_trim__nat_N_Sub_1H.tys) : l_nat_N_trim__nat_N_Sub_1L.f (m + 1) d = round y2j zz2 m [85, 80] 21 (z2w (z1g Tryd.f85) 0) l_nat_N_trim__nat_N_Sub_1L (l_nat_N_trim__nat_N_Sub_1L.f m) d := by kernel_rfl
def y6j (k : Nat) : Vm.Spec := { ps := [.slice (.int .u32), .slice (.int .u32)], rs := [.fresh (.int .u32)], f := fun x => zj7 k x.1 x.2 }
noncomputable def y80 : Vm.Spec := y6j fuel
theorem y5e : Vm.Spec.holds Tryd.prog 80 y80 := z15 (E := y2j) (L := zz2) (fn := Tryd.f80) (Z := y6j) (z1t ok) (z0u (by exact trivial)) z16 (zd0 (by exact ⟨by kernel_rfl, by kernel_rfl, trivial⟩)) (z4u (by exact ⟨(z2x [[80]] (by exact ⟨z0o (ls := [(1, l_nat_N_trim__nat_N_Sub_1L)]) rfl rfl ⟨by kernel_rfl, fun _ => rfl, ze2, z0p (by kernel_rfl)⟩,  trivial⟩) rfl),  trivial⟩)) (by kernel_rfl) (by kernel_rfl) (z0o (ls := [(4, l_nat_N_Sub_4L)]) rfl rfl ⟨by kernel_rfl, fun _ => rfl, y4e, z0p (by kernel_rfl)⟩) fun k x => by kernel_rfl
noncomputable def y65 : Env := { te := te, spec := [], body := [] }
def l_nat_N_trim_1H : Ann := { slots := [(0, .one (.val (.slice (.int .u32))))], objs := [] }
def y0o : Ann := { slots := [(0, .one (.val (.slice (.int .u32))))], objs := [] }
def y0n : Ann := { slots := [], objs := [] }
def z6h : Nat → List Int → Option (LR y0o y0n)
 | 0, _ => none
 | m + 1, s0 =>
  if decide ((s0.length : Int) > 0) = true then
  if (0 : Int) ≤ IntKind.i64.wrap ((s0.length : Int) - 1) then
  if IntKind.i64.wrap ((s0.length : Int) - 1) < s0.length then
  if (s0.getD ((IntKind.i64.wrap ((s0.length : Int) - 1)).toNat) 0 == 0) = true then
  if (0 : Int) ≤ IntKind.i64.wrap ((s0.length : Int) - 1) then
  if IntKind.i64.wrap ((s0.length : Int) - 1) ≤ s0.length then
  z6h m ((s0.take (IntKind.i64.wrap ((s0.length : Int) - 1)).toNat).drop 0)
  else none
  else none
  else
  some (.exit (s0, ()))
  else none
  else none
  else
  some (.exit (s0, ()))
def l_nat_N_trim_1L : LSpec := { h := l_nat_N_trim_1H, x := y0o, r := y0n, xid := 0, rt := false, pins := [], f := fun k d => z6h k d.1 }
def y3i : z2a := [([85], [(1, l_nat_N_trim_1L)])]
def z6x (k : Nat) (a0 : List Int) : Option (List Int) :=
 match z6h k a0 with
 | none => none
 | some (.exit d1) =>
  some d1.1
 | some (.ret d1) =>
  none
theorem y32 (m : Nat) (d : dens l_nat_N_trim_1H.tys) : l_nat_N_trim_1L.f (m + 1) d = round y65 y3i m [85] 21 (z2w (z1g Tryd.f85) 0) l_nat_N_trim_1L (l_nat_N_trim_1L.f m) d := by kernel_rfl
def y3q (k : Nat) : Vm.Spec := { ps := [.slice (.int .u32)], rs := [.imm (.slice (.int .u32))], f := fun x => z6x k x }
noncomputable def zz6 : Vm.Spec := y3q fuel
theorem zm6 : Vm.Spec.holds Tryd.prog 85 zz6 := z15 (E := y65) (L := y3i) (fn := Tryd.f85) (Z := y3q) (z1t ok) (z0u (by exact trivial)) z16 (z0a rfl) (z01 rfl) (by kernel_rfl) (by kernel_rfl) (z0o (ls := [(1, l_nat_N_trim_1L)]) rfl rfl ⟨by kernel_rfl, fun _ => rfl, y32, z0p (by kernel_rfl)⟩) fun k x => by kernel_rfl
noncomputable def y3d : Env := { te := te, spec := [(85, zz6)], body := [] }
def l_nat_N_short_4H : Ann := { slots := [(0, .one (.val (.slice (.int .u32)))), (1, .one (.val (.int .u32))), (6, .one (.own 44 (.int .u32))), (7, .one (.val (.int .u64))), (8, .one (.val (.int .i64)))], objs := [(44, .buf (.int .u32))] }
def zx6 : Ann := { slots := [(6, .one (.own 44 (.int .u32))), (7, .one (.val (.int .u64)))], objs := [(44, .buf (.int .u32))] }
def zx5 : Ann := { slots := [], objs := [] }
def z54 : Nat → List Int → Int → Int → Int → List Int → Option (LR zx6 zx5)
 | 0, _, _, _, _, _ => none
 | m + 1, s0, s1, s7, s8, b44 =>
  if decide (s8 ≥ 0) = true then
  if (0 : Int) ≤ s8 then
  if s8 < s0.length then
  if IntKind.u64.wrap (s1) = 0 then
  none
  else
  if (0 : Int) ≤ s8 then
  if s8 < b44.length then
  if IntKind.u64.wrap (s1) = 0 then
  none
  else
  z54 m s0 s1 ((IntKind.u64.wrap ((IntKind.u64.wrap (s7 * 1000000000)) + (IntKind.u64.wrap (s0.getD s8.toNat 0)))).tmod (IntKind.u64.wrap (s1))) (IntKind.i64.wrap (s8 - 1)) (b44.set s8.toNat (IntKind.u32.wrap (IntKind.u64.wrap ((IntKind.u64.wrap ((IntKind.u64.wrap (s7 * 1000000000)) + (IntKind.u64.wrap (s0.getD s8.toNat 0)))).tdiv (IntKind.u64.wrap (s1))))))
  else none
  else none
  else none
  else none
  else
  some (.exit (s7, b44, ()))
def l_nat_N_short_4L : LSpec := { h := l_nat_N_short_4H, x := zx6, r := zx5, xid := 0, rt := false, pins := [44], f := fun k d => z54 k d.1 d.2.1 d.2.2.1 d.2.2.2.1 d.2.2.2.2.1 }
def y1n : z2a := [([90], [(4, l_nat_N_short_4L)])]
def z9j (k : Nat) (a0 : List Int) (a1 : Int) : Option ((List Int) × (List Int)) :=
 if (0 : Int) ≤ (a0.length : Int) then
 if (a0.length : Int) ≤ (a0.length : Int) then
 if (a0.length : Int) * 4 ≤ 281474976710656 then
 match z54 k a0 a1 0 (IntKind.i64.wrap ((a0.length : Int) - 1)) (List.replicate ((a0.length : Int).toNat) 0) with
 | none => none
 | some (.exit d1) =>
  (z6x fuel d1.2.1).bind fun r2 =>
  (z6x fuel [IntKind.u32.wrap (d1.1)]).bind fun r3 =>
  some (r2, r3)
 | some (.ret d1) =>
  none
 else none
 else none
 else none
theorem y1k (m : Nat) (d : dens l_nat_N_short_4H.tys) : l_nat_N_short_4L.f (m + 1) d = round y3d y1n m [90] 45 (z2w (z1g Tryd.f90) 0) l_nat_N_short_4L (l_nat_N_short_4L.f m) d := by kernel_rfl
def y1q (k : Nat) : Vm.Spec := { ps := [.slice (.int .u32), .int .u32], rs := [.imm (.slice (.int .u32)), .imm (.slice (.int .u32))], f := fun x => z9j k x.1 x.2 }
noncomputable def y3l : Vm.Spec := y1q fuel
theorem y2u : Vm.Spec.holds Tryd.prog 90 y3l := z15 (E := y3d) (L := y1n) (fn := Tryd.f90) (Z := y1q) (z1t ok) (z0u (by exact ⟨⟨by kernel_rfl, zm6⟩, trivial⟩)) z16 (z0a rfl) (z01 rfl) (by kernel_rfl) (by kernel_rfl) (z0o (ls := [(4, l_nat_N_short_4L)]) rfl rfl ⟨by kernel_rfl, fun _ => rfl, y1k, z0p (by kernel_rfl)⟩) fun k x => by kernel_rfl
noncomputable def za0 : Env := { te := te, spec := [(73, zi6), (77, zi7), (85, zz6), (90, y3l)], body := [(91, Tryd.f91), (92, Tryd.f92)] }
def l_nat_N_Div_7H : Ann := { slots := [(0, .one (.val (.slice (.int .u32)))), (7, .one (.own 188 (.int .u32)))], objs := [(188, .buf (.int .u32))] }
def y27 : Ann := { slots := [(7, .one (.own 188 (.int .u32)))], objs := [(188, .buf (.int .u32))] }
def y26 : Ann := { slots := [], objs := [] }
def l_nat_N_Div_16H : Ann := { slots := [(7, .one (.own 188 (.int .u32))), (8, .one (.own 204 (.int .u32))), (9, .one (.val (.int .i64))), (11, .one (.val (.int .i64))), (13, .one (.val (.int .u64))), (14, .one (.val (.int .u64)))], objs := [(188, .buf (.int .u32)), (204, .buf (.int .u32))] }
def zk3 : Ann := { slots := [(7, .one (.own 188 (.int .u32))), (8, .one (.own 204 (.int .u32))), (13, .one (.val (.int .u64)))], objs := [(188, .buf (.int .u32)), (204, .buf (.int .u32))] }
def zk2 : Ann := { slots := [], objs := [] }
def l_nat_N_minus__nat_N_Div_4H : Ann := { slots := [(0, .one (.own 188 (.int .u32))), (1, .one (.own 204 (.int .u32))), (2, .one (.val (.int .i64))), (3, .one (.val (.int .u64))), (9, .one (.val (.int .i64))), (10, .one (.val (.int .u64))), (11, .one (.val (.int .i64)))], objs := [(188, .buf (.int .u32)), (204, .buf (.int .u32))] }
def z74 : Ann := { slots := [(9, .one (.val (.int .i64)))], objs := [(188, .buf (.int .u32)), (204, .buf (.int .u32))] }
def z73 : Ann := { slots := [], objs := [] }
def l_nat_N_plus__nat_N_Div_2H : Ann := { slots := [(0, .one (.own 188 (.int .u32))), (1, .one (.own 204 (.int .u32))), (2, .one (.val (.int .i64))), (6, .one (.val (.int .u32))), (7, .one (.val (.int .i64)))], objs := [(188, .buf (.int .u32)), (204, .buf (.int .u32))] }
def z7s : Ann := { slots := [], objs := [(188, .buf (.int .u32)), (204, .buf (.int .u32))] }
def z7r : Ann := { slots := [], objs := [] }
def l_nat_N_Div_12H : Ann := { slots := [(7, .one (.own 188 (.int .u32))), (8, .one (.own 204 (.int .u32))), (9, .one (.val (.int .i64))), (10, .one (.own 264 (.int .u32))), (11, .one (.val (.int .i64)))], objs := [(188, .buf (.int .u32)), (204, .buf (.int .u32)), (264, .buf (.int .u32))] }
def y0k : Ann := { slots := [(7, .one (.own 188 (.int .u32))), (10, .one (.own 264 (.int .u32)))], objs := [(188, .buf (.int .u32)), (264, .buf (.int .u32)), (204, .buf (.int .u32))] }
def y0j : Ann := { slots := [], objs := [] }
def z9o : Nat → List Int → List Int → Option (LR y27 y26)
 | 0, _, _ => none
 | m + 1, s0, b188 =>
  if decide ((b188.length : Int) ≤ (s0.length : Int)) = true then
  if (b188.length + 1) * 4 ≤ 140737488355328 then
  z9o m s0 (b188 ++ [0])
  else none
  else
  some (.exit (b188, ()))
def l_nat_N_Div_7L : LSpec := { h := l_nat_N_Div_7H, x := y27, r := y26, xid := 0, rt := false, pins := [], f := fun k d => z9o k d.1 d.2.1 }
def z5o : Nat → Int → Int → Int → Int → List Int → List Int → Option (LR zk3 zk2)
 | 0, _, _, _, _, _, _ => none
 | m + 1, s9, s11, s13, s14, b188, b204 =>
  if decide (s13 ≥ 1000000000) = false then
  if (0 : Int) ≤ IntKind.i64.wrap (s9 - 2) then
  if IntKind.i64.wrap (s9 - 2) < b204.length then
  if (0 : Int) ≤ IntKind.i64.wrap ((IntKind.i64.wrap (s11 + s9)) - 2) then
  if IntKind.i64.wrap ((IntKind.i64.wrap (s11 + s9)) - 2) < b188.length then
  if decide (IntKind.u64.wrap (s13 * (IntKind.u64.wrap (b204.getD ((IntKind.i64.wrap (s9 - 2)).toNat) 0))) > IntKind.u64.wrap ((IntKind.u64.wrap (s14 * 1000000000)) + (IntKind.u64.wrap (b188.getD ((IntKind.i64.wrap ((IntKind.i64.wrap (s11 + s9)) - 2)).toNat) 0)))) = true then
  if (0 : Int) ≤ IntKind.i64.wrap (s9 - 1) then
  if IntKind.i64.wrap (s9 - 1) < b204.length then
  if decide (IntKind.u64.wrap (s14 + (IntKind.u64.wrap (b204.getD ((IntKind.i64.wrap (s9 - 1)).toNat) 0))) ≥ 1000000000) = true then
  some (.exit (IntKind.u64.wrap (s13 - 1), b188, b204, ()))
  else
  z5o m s9 s11 (IntKind.u64.wrap (s13 - 1)) (IntKind.u64.wrap (s14 + (IntKind.u64.wrap (b204.getD ((IntKind.i64.wrap (s9 - 1)).toNat) 0)))) b188 b204
  else none
  else none
  else
  some (.exit (s13, b188, b204, ()))
  else none
  else none
  else none
  else none
  else
  if (0 : Int) ≤ IntKind.i64.wrap (s9 - 1) then
  if IntKind.i64.wrap (s9 - 1) < b204.length then
  if decide (IntKind.u64.wrap (s14 + (IntKind.u64.wrap (b204.getD ((IntKind.i64.wrap (s9 - 1)).toNat) 0))) ≥ 1000000000) = true then
  some (.exit (IntKind.u64.wrap (s13 - 1), b188, b204, ()))
  else
  z5o m s9 s11 (IntKind.u64.wrap (s13 - 1)) (IntKind.u64.wrap (s14 + (IntKind.u64.wrap (b204.getD ((IntKind.i64.wrap (s9 - 1)).toNat) 0)))) b188 b204
  else none
  else none
def l_nat_N_Div_16L : LSpec := { h := l_nat_N_Div_16H, x := zk3, r := zk2, xid := 4, rt := false, pins := [188, 204], f := fun k d => z5o k d.1 d.2.1 d.2.2.1 d.2.2.2.1 d.2.2.2.2.1 d.2.2.2.2.2.1 }
def z12 : Nat → Int → Int → Int → Int → Int → List Int → List Int → Option (LR z74 z73)
 | 0, _, _, _, _, _, _, _ => none
 | m + 1, s2, s3, s9, s10, s11, b188, b204 =>
  if decide (s11 ≤ (b204.length : Int)) = true then
  if decide (s11 < (b204.length : Int)) = true then
  if (0 : Int) ≤ s11 then
  if s11 < b204.length then
  if (0 : Int) ≤ IntKind.i64.wrap (s2 + s11) then
  if IntKind.i64.wrap (s2 + s11) < b188.length then
  if decide (IntKind.i64.wrap ((IntKind.i64.wrap ((IntKind.i64.wrap (b188.getD ((IntKind.i64.wrap (s2 + s11)).toNat) 0)) - (IntKind.i64.wrap ((IntKind.u64.wrap (s10 + (IntKind.u64.wrap (s3 * (IntKind.u64.wrap (b204.getD s11.toNat 0)))))).tmod 1000000000)))) - s9) < 0) = true then
  if (0 : Int) ≤ IntKind.i64.wrap (s2 + s11) then
  if IntKind.i64.wrap (s2 + s11) < b188.length then
  z12 m s2 s3 1 (IntKind.u64.wrap ((IntKind.u64.wrap (s10 + (IntKind.u64.wrap (s3 * (IntKind.u64.wrap (b204.getD s11.toNat 0)))))).tdiv 1000000000)) (IntKind.i64.wrap (s11 + 1)) (b188.set ((IntKind.i64.wrap (s2 + s11)).toNat) (IntKind.u32.wrap (IntKind.i64.wrap ((IntKind.i64.wrap ((IntKind.i64.wrap ((IntKind.i64.wrap (b188.getD ((IntKind.i64.wrap (s2 + s11)).toNat) 0)) - (IntKind.i64.wrap ((IntKind.u64.wrap (s10 + (IntKind.u64.wrap (s3 * (IntKind.u64.wrap (b204.getD s11.toNat 0)))))).tmod 1000000000)))) - s9)) + 1000000000)))) b204
  else none
  else none
  else
  if (0 : Int) ≤ IntKind.i64.wrap (s2 + s11) then
  if IntKind.i64.wrap (s2 + s11) < b188.length then
  z12 m s2 s3 0 (IntKind.u64.wrap ((IntKind.u64.wrap (s10 + (IntKind.u64.wrap (s3 * (IntKind.u64.wrap (b204.getD s11.toNat 0)))))).tdiv 1000000000)) (IntKind.i64.wrap (s11 + 1)) (b188.set ((IntKind.i64.wrap (s2 + s11)).toNat) (IntKind.u32.wrap (IntKind.i64.wrap ((IntKind.i64.wrap ((IntKind.i64.wrap (b188.getD ((IntKind.i64.wrap (s2 + s11)).toNat) 0)) - (IntKind.i64.wrap ((IntKind.u64.wrap (s10 + (IntKind.u64.wrap (s3 * (IntKind.u64.wrap (b204.getD s11.toNat 0)))))).tmod 1000000000)))) - s9)))) b204
  else none
  else none
  else none
  else none
  else none
  else none
  else
  if (0 : Int) ≤ IntKind.i64.wrap (s2 + s11) then
  if IntKind.i64.wrap (s2 + s11) < b188.length then
  if decide (IntKind.i64.wrap ((IntKind.i64.wrap ((IntKind.i64.wrap (b188.getD ((IntKind.i64.wrap (s2 + s11)).toNat) 0)) - (IntKind.i64.wrap (s10.tmod 1000000000)))) - s9) < 0) = true then
  if (0 : Int) ≤ IntKind.i64.wrap (s2 + s11) then
  if IntKind.i64.wrap (s2 + s11) < b188.length then
  z12 m s2 s3 1 (IntKind.u64.wrap (s10.tdiv 1000000000)) (IntKind.i64.wrap (s11 + 1)) (b188.set ((IntKind.i64.wrap (s2 + s11)).toNat) (IntKind.u32.wrap (IntKind.i64.wrap ((IntKind.i64.wrap ((IntKind.i64.wrap ((IntKind.i64.wrap (b188.getD ((IntKind.i64.wrap (s2 + s11)).toNat) 0)) - (IntKind.i64.wrap (s10.tmod 1000000000)))) - s9)) + 1000000000)))) b204
  else none
  else none
  else
  if (0 : Int) ≤ IntKind.i64.wrap (s2 + s11) then
  if IntKind.i64.wrap (s2 + s11) < b188.length then
  z12 m s2 s3 0 (IntKind.u64.wrap (s10.tdiv 1000000000)) (IntKind.i64.wrap (s11 + 1)) (b188.set ((IntKind.i64.wrap (s2 + s11)).toNat) (IntKind.u32.wrap (IntKind.i64.wrap ((IntKind.i64.wrap ((IntKind.i64.wrap (b188.getD ((IntKind.i64.wrap (s2 + s11)).toNat) 0)) - (IntKind.i64.wrap (s10.tmod 1000000000)))) - s9)))) b204
  else none
  else none
  else none
  else none
  else
  some (.exit (s9, b188, b204, ()))
def l_nat_N_minus__nat_N_Div_4L : LSpec := { h := l_nat_N_minus__nat_N_Div_4H, x := z74, r := z73, xid := 0, rt := false, pins := [188, 204], f := fun k d => z12 k d.1 d.2.1 d.2.2.1 d.2.2.2.1 d.2.2.2.2.1 d.2.2.2.2.2.1 d.2.2.2.2.2.2.1 }
def z1q : Nat → Int → Int → Int → List Int → List Int → Option (LR z7s z7r)
 | 0, _, _, _, _, _ => none
 | m + 1, s2, s6, s7, b188, b204 =>
  if decide (s7 ≤ (b204.length : Int)) = true then
  if (0 : Int) ≤ IntKind.i64.wrap (s2 + s7) then
  if IntKind.i64.wrap (s2 + s7) < b188.length then
  if decide (s7 < (b204.length : Int)) = true then
  if (0 : Int) ≤ s7 then
  if s7 < b204.length then
  if (0 : Int) ≤ IntKind.i64.wrap (s2 + s7) then
  if IntKind.i64.wrap (s2 + s7) < b188.length then
  z1q m s2 (IntKind.u32.wrap ((IntKind.u32.wrap ((IntKind.u32.wrap ((b188.getD ((IntKind.i64.wrap (s2 + s7)).toNat) 0) + s6)) + (b204.getD s7.toNat 0))).tdiv 1000000000)) (IntKind.i64.wrap (s7 + 1)) (b188.set ((IntKind.i64.wrap (s2 + s7)).toNat) ((IntKind.u32.wrap ((IntKind.u32.wrap ((b188.getD ((IntKind.i64.wrap (s2 + s7)).toNat) 0) + s6)) + (b204.getD s7.toNat 0))).tmod 1000000000)) b204
  else none
  else none
  else none
  else none
  else
  if (0 : Int) ≤ IntKind.i64.wrap (s2 + s7) then
  if IntKind.i64.wrap (s2 + s7) < b188.length then
  z1q m s2 (IntKind.u32.wrap ((IntKind.u32.wrap ((b188.getD ((IntKind.i64.wrap (s2 + s7)).toNat) 0) + s6)).tdiv 1000000000)) (IntKind.i64.wrap (s7 + 1)) (b188.set ((IntKind.i64.wrap (s2 + s7)).toNat) ((IntKind.u32.wrap ((b188.getD ((IntKind.i64.wrap (s2 + s7)).toNat) 0) + s6)).tmod 1000000000)) b204
  else none
  else none
  else none
  else none
  else
  some (.exit (b188, b204, ()))
def l_nat_N_plus__nat_N_Div_2L : LSpec := { h := l_nat_N_plus__nat_N_Div_2H, x := z7s, r := z7r, xid := 0, rt := false, pins := [188, 204], f := fun k d => z1q k d.1 d.2.1 d.2.2.1 d.2.2.2.1 d.2.2.2.2.1 }
def z4z : Nat → Int → Int → List Int → List Int → List Int → Option (LR y0k y0j)
 | 0, _, _, _, _, _ => none
 | m + 1, s9, s11, b188, b204, b264 =>
  if decide (s11 ≥ 0) = true then
  if (0 : Int) ≤ IntKind.i64.wrap (s11 + s9) then
  if IntKind.i64.wrap (s11 + s9) < b188.length then
  if (0 : Int) ≤ IntKind.i64.wrap ((IntKind.i64.wrap (s11 + s9)) - 1) then
  if IntKind.i64.wrap ((IntKind.i64.wrap (s11 + s9)) - 1) < b188.length then
  if (0 : Int) ≤ IntKind.i64.wrap (s9 - 1) then
  if IntKind.i64.wrap (s9 - 1) < b204.length then
  if IntKind.u64.wrap (b204.getD ((IntKind.i64.wrap (s9 - 1)).toNat) 0) = 0 then
  none
  else
  if (0 : Int) ≤ IntKind.i64.wrap (s9 - 1) then
  if IntKind.i64.wrap (s9 - 1) < b204.length then
  if IntKind.u64.wrap (b204.getD ((IntKind.i64.wrap (s9 - 1)).toNat) 0) = 0 then
  none
  else
  match z5o m s9 s11 (IntKind.u64.wrap ((IntKind.u64.wrap ((IntKind.u64.wrap ((IntKind.u64.wrap (b188.getD ((IntKind.i64.wrap (s11 + s9)).toNat) 0)) * 1000000000)) + (IntKind.u64.wrap (b188.getD ((IntKind.i64.wrap ((IntKind.i64.wrap (s11 + s9)) - 1)).toNat) 0)))).tdiv (IntKind.u64.wrap (b204.getD ((IntKind.i64.wrap (s9 - 1)).toNat) 0)))) ((IntKind.u64.wrap ((IntKind.u64.wrap ((IntKind.u64.wrap (b188.getD ((IntKind.i64.wrap (s11 + s9)).toNat) 0)) * 1000000000)) + (IntKind.u64.wrap (b188.getD ((IntKind.i64.wrap ((IntKind.i64.wrap (s11 + s9)) - 1)).toNat) 0)))).tmod (IntKind.u64.wrap (b204.getD ((IntKind.i64.wrap (s9 - 1)).toNat) 0))) b188 b204 with
  | none => none
  | some (.exit d1) =>
   match z12 m s11 d1.1 0 0 0 d1.2.1 d1.2.2.1 with
   | none => none
   | some (.exit d2) =>
    if decide (d2.1 > 0) = true then
    match z1q m s11 0 0 d2.2.1 d2.2.2.1 with
    | none => none
    | some (.exit d3) =>
     if (0 : Int) ≤ s11 then
     if s11 < b264.length then
     z4z m s9 (IntKind.i64.wrap (s11 - 1)) d3.1 d3.2.1 (b264.set s11.toNat (IntKind.u32.wrap (IntKind.u64.wrap (d1.1 - 1))))
     else none
     else none
    | some (.ret d3) =>
     none
    else
    if (0 : Int) ≤ s11 then
    if s11 < b264.length then
    z4z m s9 (IntKind.i64.wrap (s11 - 1)) d2.2.1 d2.2.2.1 (b264.set s11.toNat (IntKind.u32.wrap (d1.1)))
    else none
    else none
   | some (.ret d2) =>
    none
  | some (.ret d1) =>
   none
  else none
  else none
  else none
  else none
  else none
  else none
  else none
  else none
  else
  some (.exit (b188, b264, b204, ()))
def l_nat_N_Div_12L : LSpec := { h := l_nat_N_Div_12H, x := y0k, r := y0j, xid := 2, rt := false, pins := [188, 204, 264], f := fun k d => z4z k d.1 d.2.1 d.2.2.1 d.2.2.2.1 d.2.2.2.2.1 }
def z8p : z2a := [([86], [(7, l_nat_N_Div_7L), (12, l_nat_N_Div_12L), (16, l_nat_N_Div_16L)]), ([91, 86], [(4, l_nat_N_minus__nat_N_Div_4L)]), ([92, 86], [(2, l_nat_N_plus__nat_N_Div_2L)])]
def za2 (k : Nat) (a0 : List Int) (a1 : List Int) : Option ((List Int) × (List Int)) :=
 (z4i fuel a0 a1).bind fun r1 =>
 if decide (r1 < 0) = true then
 some ([], a0)
 else
 if ((a1.length : Int) == 1) = true then
 if (0 : Int) < a1.length then
 (z9j fuel a0 (a1.getD 0 0)).bind fun r2 =>
 some (r2.1, r2.2)
 else none
 else
 if (0 : Int) ≤ IntKind.i64.wrap ((a1.length : Int) - 1) then
 if IntKind.i64.wrap ((a1.length : Int) - 1) < a1.length then
 if IntKind.u64.wrap ((IntKind.u64.wrap (a1.getD ((IntKind.i64.wrap ((a1.length : Int) - 1)).toNat) 0)) + 1) = 0 then
 none
 else
 (z4j fuel a0 [IntKind.u32.wrap (IntKind.u64.wrap ((1000000000 : Int).tdiv (IntKind.u64.wrap ((IntKind.u64.wrap (a1.getD ((IntKind.i64.wrap ((a1.length : Int) - 1)).toNat) 0)) + 1))))]).bind fun r3 =>
 if (r3.length + 1) * 4 ≤ 140737488355328 then
 (z4j fuel a1 [IntKind.u32.wrap (IntKind.u64.wrap ((1000000000 : Int).tdiv (IntKind.u64.wrap ((IntKind.u64.wrap (a1.getD ((IntKind.i64.wrap ((a1.length : Int) - 1)).toNat) 0)) + 1))))]).bind fun r4 =>
 match z9o k a0 (r3 ++ [0]) with
 | none => none
 | some (.exit d5) =>
  if (0 : Int) ≤ IntKind.i64.wrap ((d5.1.length : Int) - (r4.length : Int)) then
  if IntKind.i64.wrap ((d5.1.length : Int) - (r4.length : Int)) ≤ IntKind.i64.wrap ((d5.1.length : Int) - (r4.length : Int)) then
  if (IntKind.i64.wrap ((d5.1.length : Int) - (r4.length : Int))) * 4 ≤ 281474976710656 then
  match z4z k (r4.length : Int) (IntKind.i64.wrap ((IntKind.i64.wrap ((d5.1.length : Int) - (r4.length : Int))) - 1)) d5.1 r4 (List.replicate ((IntKind.i64.wrap ((d5.1.length : Int) - (r4.length : Int))).toNat) 0) with
  | none => none
  | some (.exit d6) =>
   (z6x fuel d6.1).bind fun r7 =>
   (z9j fuel r7 (IntKind.u32.wrap (IntKind.u64.wrap ((1000000000 : Int).tdiv (IntKind.u64.wrap ((IntKind.u64.wrap (a1.getD ((IntKind.i64.wrap ((a1.length : Int) - 1)).toNat) 0)) + 1)))))).bind fun r8 =>
   (z6x fuel d6.2.1).bind fun r9 =>
   some (r9, r8.1)
  | some (.ret d6) =>
   none
  else none
  else none
  else none
 | some (.ret d5) =>
  none
 else none
 else none
 else none
theorem y4a (m : Nat) (d : dens l_nat_N_Div_7H.tys) : l_nat_N_Div_7L.f (m + 1) d = round za0 z8p m [86] 171 (z2w (z1g Tryd.f86) 0) l_nat_N_Div_7L (l_nat_N_Div_7L.f m) d := by kernel_rfl
theorem y30 (m : Nat) (d : dens l_nat_N_Div_16H.tys) : l_nat_N_Div_16L.f (m + 1) d = round za0 z8p m [86] 171 (z2w (z1g Tryd.f86) 2) l_nat_N_Div_16L (l_nat_N_Div_16L.f m) d := by kernel_rfl
theorem zb1 (m : Nat) (d : dens l_nat_N_minus__nat_N_Div_4H.tys) : l_nat_N_minus__nat_N_Div_4L.f (m + 1) d = round za0 z8p m [91, 86] 62 (z2w (z1g Tryd.f91) 0) l_nat_N_minus__nat_N_Div_4L (l_nat_N_minus__nat_N_Div_4L.f m) d := by kernel_rfl
theorem ze0 (m : Nat) (d : dens l_nat_N_plus__nat_N_Div_2H.tys) : l_nat_N_plus__nat_N_Div_2L.f (m + 1) d = round za0 z8p m [92, 86] 42 (z2w (z1g Tryd.f92) 0) l_nat_N_plus__nat_N_Div_2L (l_nat_N_plus__nat_N_Div_2L.f m) d := by kernel_rfl
theorem y2z (m : Nat) (d : dens l_nat_N_Div_12H.tys) : l_nat_N_Div_12L.f (m + 1) d = round za0 z8p m [86] 171 (z2w (z1g Tryd.f86) 1) l_nat_N_Div_12L (l_nat_N_Div_12L.f m) d := by kernel_rfl
def y6g (k : Nat) : Vm.Spec := { ps := [.slice (.int .u32), .slice (.int .u32)], rs := [.imm (.slice (.int .u32)), .imm (.slice (.int .u32))], f := fun x => za2 k x.1 x.2 }
noncomputable def y2n : Vm.Spec := y6g fuel
theorem zq4 : Vm.Spec.holds Tryd.prog 86 y2n := z15 (E := za0) (L := z8p) (fn := Tryd.f86) (Z := y6g) (z1t ok) (z0u (by exact ⟨⟨by kernel_rfl, z7b⟩, ⟨by kernel_rfl, z7c⟩, ⟨by kernel_rfl, zm6⟩, ⟨by kernel_rfl, y2u⟩, trivial⟩)) z16 (zd0 (by exact ⟨by kernel_rfl, by kernel_rfl, by kernel_rfl, by kernel_rfl, trivial⟩)) (z4u (by exact ⟨(z2x [[86]] (by exact ⟨z0o (ls := [(4, l_nat_N_minus__nat_N_Div_4L)]) rfl rfl ⟨by kernel_rfl, fun _ => rfl, zb1, z0p (by kernel_rfl)⟩,  trivial⟩) rfl), (z2x [[86]] (by exact ⟨z0o (ls := [(2, l_nat_N_plus__nat_N_Div_2L)]) rfl rfl ⟨by kernel_rfl, fun _ => rfl, ze0, z0p (by kernel_rfl)⟩,  trivial⟩) rfl),  trivial⟩)) (by kernel_rfl) (by kernel_rfl) (z0o (ls := [(7, l_nat_N_Div_7L), (12, l_nat_N_Div_12L), (16, l_nat_N_Div_16L)]) rfl rfl ⟨by kernel_rfl, fun _ => rfl, y4a, by kernel_rfl, fun _ => rfl, y2z, by kernel_rfl, fun _ => rfl, y30, z0p (by kernel_rfl)⟩) fun k x => by kernel_rfl
noncomputable def y7u : Env := { te := te, spec := [(86, y2n)], body := [] }
def l_nat_N_Gcd_1H : Ann := { slots := [(0, .one (.val (.slice (.int .u32)))), (1, .one (.val (.slice (.int .u32))))], objs := [] }
def y29 : Ann := { slots := [(0, .one (.val (.slice (.int .u32))))], objs := [] }
def y28 : Ann := { slots := [], objs := [] }
def z7h : Nat → List Int → List Int → Option (LR y29 y28)
 | 0, _, _ => none
 | m + 1, s0, s1 =>
  if decide ((s1.length : Int) > 0) = true then
  (za2 fuel s0 s1).bind fun r1 =>
  z7h m s1 r1.2
  else
  some (.exit (s0, ()))
def l_nat_N_Gcd_1L : LSpec := { h := l_nat_N_Gcd_1H, x := y29, r := y28, xid := 0, rt := false, pins := [], f := fun k d => z7h k d.1 d.2.1 }
def y6a : z2a := [([72], [(1, l_nat_N_Gcd_1L)])]
def z62 (k : Nat) (a0 : List Int) (a1 : List Int) : Option (List Int) :=
 match z7h k a0 a1 with
 | none => none
 | some (.exit d1) =>
  some d1.1
 | some (.ret d1) =>
  none
theorem y4b (m : Nat) (d : dens l_nat_N_Gcd_1H.tys) : l_nat_N_Gcd_1L.f (m + 1) d = round y7u y6a m [72] 19 (z2w (z1g Tryd.f72) 0) l_nat_N_Gcd_1L (l_nat_N_Gcd_1L.f m) d := by kernel_rfl
def y6h (k : Nat) : Vm.Spec := { ps := [.slice (.int .u32), .slice (.int .u32)], rs := [.imm (.slice (.int .u32))], f := fun x => z62 k x.1 x.2 }
noncomputable def y2o : Vm.Spec := y6h fuel
theorem zq5 : Vm.Spec.holds Tryd.prog 72 y2o := z15 (E := y7u) (L := y6a) (fn := Tryd.f72) (Z := y6h) (z1t ok) (z0u (by exact ⟨⟨by kernel_rfl, zq4⟩, trivial⟩)) z16 (z0a rfl) (z01 rfl) (by kernel_rfl) (by kernel_rfl) (z0o (ls := [(1, l_nat_N_Gcd_1L)]) rfl rfl ⟨by kernel_rfl, fun _ => rfl, y4b, z0p (by kernel_rfl)⟩) fun k x => by kernel_rfl
noncomputable def yr2 : Env := { te := te, spec := [(66, y11), (67, z8h), (68, zu0), (69, y53), (71, y7y), (72, y2o), (73, zi6)], body := [] }
def yi5 : z2a := []
def z6y (k : Nat) (a0 : ByteArray) : Option (Int) :=
 (z2m fuel a0 (⟨#[45]⟩ : ByteArray)).bind fun r1 =>
 (z5e fuel r1.1 (⟨#[47]⟩ : ByteArray)).bind fun r2 =>
 (z61 fuel r2.1).bind fun r3 =>
 if r2.2.2 = true then
 (z61 fuel r2.2.1).bind fun r4 =>
 if (r3 == 5) = false then
 if (r4 == 5) = false then
 if r1.2 = true then
 if ((r2.1.toList == (⟨#[48]⟩ : ByteArray).toList)) = true then
 some 5
 else
 if (r3 != 0) = false then
 if (r4 != 0) = true then
 some 2
 else
 if r2.2.2 = true then
 if ((r2.2.1.toList == (⟨#[48]⟩ : ByteArray).toList)) = false then
 if ((r2.2.1.toList == (⟨#[49]⟩ : ByteArray).toList)) = false then
 (z3s fuel r2.1).bind fun r5 =>
 (z3s fuel r2.2.1).bind fun r6 =>
 (z62 fuel r5 r6).bind fun r7 =>
 (z5u fuel 1).bind fun r8 =>
 (z4i fuel r7 r8).bind fun r9 =>
 if (r9 != 0) = true then
 some 3
 else
 some 0
 else
 some 3
 else
 some 3
 else
 some 0
 else
 some 2
 else
 if (r3 != 0) = false then
 if (r4 != 0) = true then
 some 2
 else
 if r2.2.2 = true then
 if ((r2.2.1.toList == (⟨#[48]⟩ : ByteArray).toList)) = false then
 if ((r2.2.1.toList == (⟨#[49]⟩ : ByteArray).toList)) = false then
 (z3s fuel r2.1).bind fun r10 =>
 (z3s fuel r2.2.1).bind fun r11 =>
 (z62 fuel r10 r11).bind fun r12 =>
 (z5u fuel 1).bind fun r13 =>
 (z4i fuel r12 r13).bind fun r14 =>
 if (r14 != 0) = true then
 some 3
 else
 some 0
 else
 some 3
 else
 some 3
 else
 some 0
 else
 some 2
 else
 some 5
 else
 some 5
 else
 if (r3 == 5) = false then
 if r1.2 = true then
 if ((r2.1.toList == (⟨#[48]⟩ : ByteArray).toList)) = true then
 some 5
 else
 if (r3 != 0) = false then
 if r2.2.2 = true then
 if ((r2.2.1.toList == (⟨#[48]⟩ : ByteArray).toList)) = false then
 if ((r2.2.1.toList == (⟨#[49]⟩ : ByteArray).toList)) = false then
 (z3s fuel r2.1).bind fun r15 =>
 (z3s fuel r2.2.1).bind fun r16 =>
 (z62 fuel r15 r16).bind fun r17 =>
 (z5u fuel 1).bind fun r18 =>
 (z4i fuel r17 r18).bind fun r19 =>
 if (r19 != 0) = true then
 some 3
 else
 some 0
 else
 some 3
 else
 some 3
 else
 some 0
 else
 some 2
 else
 if (r3 != 0) = false then
 if r2.2.2 = true then
 if ((r2.2.1.toList == (⟨#[48]⟩ : ByteArray).toList)) = false then
 if ((r2.2.1.toList == (⟨#[49]⟩ : ByteArray).toList)) = false then
 (z3s fuel r2.1).bind fun r20 =>
 (z3s fuel r2.2.1).bind fun r21 =>
 (z62 fuel r20 r21).bind fun r22 =>
 (z5u fuel 1).bind fun r23 =>
 (z4i fuel r22 r23).bind fun r24 =>
 if (r24 != 0) = true then
 some 3
 else
 some 0
 else
 some 3
 else
 some 3
 else
 some 0
 else
 some 2
 else
 some 5
def y6k (k : Nat) : Vm.Spec := { ps := [.str], rs := [.imm (.int .i64)], f := fun x => z6y k x }
noncomputable def zt4 : Vm.Spec := y6k fuel
theorem za3 : Vm.Spec.holds Tryd.prog 52 zt4 := z15 (E := yr2) (L := yi5) (fn := Tryd.f52) (Z := y6k) (z1t ok) (z0u (by exact ⟨⟨by kernel_rfl, z87⟩, ⟨by kernel_rfl, z88⟩, ⟨by kernel_rfl, zj9⟩, ⟨by kernel_rfl, zw9⟩, ⟨by kernel_rfl, y5c⟩, ⟨by kernel_rfl, zq5⟩, ⟨by kernel_rfl, z7b⟩, trivial⟩)) z16 (z0a rfl) (z01 rfl) (by kernel_rfl) (by kernel_rfl) (z0v rfl) fun k x => by kernel_rfl
noncomputable def y1m : Env := { te := te, spec := [(52, zt4)], body := [] }
def l_rat_CheckAll_2H : Ann := { slots := [(6, .one (.val (.slice .str))), (7, .one (.val (.int .i64))), (8, .one (.val (.int .i64)))], objs := [] }
def zr5 : Ann := { slots := [], objs := [] }
def zr4 : Ann := { slots := [(2, .one (.val (.int .i64)))], objs := [] }
def z2q : Nat → List ByteArray → Int → Int → Option (LR zr5 zr4)
 | 0, _, _, _ => none
 | m + 1, s6, s7, s8 =>
  if decide (s8 < s7) = true then
  if (0 : Int) ≤ s8 then
  if s8 < s6.length then
  (z6y fuel (s6.getD s8.toNat ByteArray.empty)).bind fun r1 =>
  if (r1 != 0) = true then
  some (.ret (r1, ()))
  else
  z2q m s6 s7 (IntKind.i64.wrap (s8 + 1))
  else none
  else none
  else
  some (.exit ())
def l_rat_CheckAll_2L : LSpec := { h := l_rat_CheckAll_2H, x := zr5, r := zr4, xid := 0, rt := true, pins := [], f := fun k d => z2q k d.1 d.2.1 d.2.2.1 }
def zz3 : z2a := [([56], [(2, l_rat_CheckAll_2L)])]
def z5l (k : Nat) (a0 : List ByteArray) : Option (Int) :=
 match z2q k a0 (a0.length : Int) 0 with
 | none => none
 | some (.exit d1) =>
  some 0
 | some (.ret d1) =>
  some d1.1
theorem y0p (m : Nat) (d : dens l_rat_CheckAll_2H.tys) : l_rat_CheckAll_2L.f (m + 1) d = round y1m zz3 m [56] 18 (z2w (z1g Tryd.f56) 0) l_rat_CheckAll_2L (l_rat_CheckAll_2L.f m) d := by kernel_rfl
def y03 (k : Nat) : Vm.Spec := { ps := [.slice .str], rs := [.imm (.int .i64)], f := fun x => z5l k x }
noncomputable def y1p : Vm.Spec := y03 fuel
theorem y1h : Vm.Spec.holds Tryd.prog 56 y1p := z15 (E := y1m) (L := zz3) (fn := Tryd.f56) (Z := y03) (z1t ok) (z0u (by exact ⟨⟨by kernel_rfl, za3⟩, trivial⟩)) z16 (z0a rfl) (z01 rfl) (by kernel_rfl) (by kernel_rfl) (z0o (ls := [(2, l_rat_CheckAll_2L)]) rfl rfl ⟨by kernel_rfl, fun _ => rfl, y0p, z0p (by kernel_rfl)⟩) fun k x => by kernel_rfl
noncomputable def y4z : Env := { te := te, spec := [(56, y1p)], body := [] }
def y3f : z2a := []
def z2b (k : Nat) (a0 : List ByteArray) : Option (Int) :=
 if decide ((a0.length : Int) > 40) = true then
 some 2
 else
 (z5l fuel a0).bind fun r1 =>
 some r1
def zm3 (k : Nat) : Vm.Spec := { ps := [.slice .str], rs := [.imm (.int .i64)], f := fun x => z2b k x }
noncomputable def z79 : Vm.Spec := zm3 fuel
theorem z60 : Vm.Spec.holds Tryd.prog 19 z79 := z15 (E := y4z) (L := y3f) (fn := Tryd.f19) (Z := zm3) (z1t ok) (z0u (by exact ⟨⟨by kernel_rfl, y1h⟩, trivial⟩)) z16 (z0a rfl) (z01 rfl) (by kernel_rfl) (by kernel_rfl) (z0v rfl) fun k x => by kernel_rfl
noncomputable def y1l : Env := { te := te, spec := [(19, z79)], body := [] }
def l_matrix_Check_4H : Ann := { slots := [(0, .one (.val (.slice (.slice .str)))), (9, .one (.val (.slice (.slice .str)))), (10, .one (.val (.int .i64))), (11, .one (.val (.int .i64)))], objs := [] }
def zr3 : Ann := { slots := [], objs := [] }
def zr2 : Ann := { slots := [(2, .one (.val (.int .i64)))], objs := [] }
def z2p : Nat → List (List ByteArray) → List (List ByteArray) → Int → Int → Option (LR zr3 zr2)
 | 0, _, _, _, _ => none
 | m + 1, s0, s9, s10, s11 =>
  if decide (s11 < s10) = true then
  if (0 : Int) ≤ s11 then
  if s11 < s9.length then
  if (0 : Int) < s0.length then
  if (((s9.getD s11.toNat []).length : Int) != ((s0.getD 0 []).length : Int)) = true then
  some (.ret (3, ()))
  else
  (z2b fuel (s9.getD s11.toNat [])).bind fun r1 =>
  if (r1 != 0) = true then
  some (.ret (r1, ()))
  else
  z2p m s0 s9 s10 (IntKind.i64.wrap (s11 + 1))
  else none
  else none
  else none
  else
  some (.exit ())
def l_matrix_Check_4L : LSpec := { h := l_matrix_Check_4H, x := zr3, r := zr2, xid := 0, rt := true, pins := [], f := fun k d => z2p k d.1 d.2.1 d.2.2.1 d.2.2.2.1 }
def zz1 : z2a := [([39], [(4, l_matrix_Check_4L)])]
def z4w (k : Nat) (a0 : List (List ByteArray)) : Option (Int) :=
 if decide ((a0.length : Int) > 40) = true then
 some 2
 else
 match z2p k a0 a0 (a0.length : Int) 0 with
 | none => none
 | some (.exit d1) =>
  some 0
 | some (.ret d1) =>
  some d1.1
theorem y0e (m : Nat) (d : dens l_matrix_Check_4H.tys) : l_matrix_Check_4L.f (m + 1) d = round y1l zz1 m [39] 28 (z2w (z1g Tryd.f39) 0) l_matrix_Check_4L (l_matrix_Check_4L.f m) d := by kernel_rfl
def y00 (k : Nat) : Vm.Spec := { ps := [.slice (.slice .str)], rs := [.imm (.int .i64)], f := fun x => z4w k x }
noncomputable def zo0 : Vm.Spec := y00 fuel
theorem zg5 : Vm.Spec.holds Tryd.prog 39 zo0 := z15 (E := y1l) (L := zz1) (fn := Tryd.f39) (Z := y00) (z1t ok) (z0u (by exact ⟨⟨by kernel_rfl, z60⟩, trivial⟩)) z16 (z0a rfl) (z01 rfl) (by kernel_rfl) (by kernel_rfl) (z0o (ls := [(4, l_matrix_Check_4L)]) rfl rfl ⟨by kernel_rfl, fun _ => rfl, y0e, z0p (by kernel_rfl)⟩) fun k x => by kernel_rfl
noncomputable def y9r : Env := { te := te, spec := [], body := [] }
def y7w : z2a := []
def z86 (k : Nat) (a0 : List (List ByteArray)) : Option (Int) :=
 if ((a0.length : Int) == 0) = true then
 some 0
 else
 if (0 : Int) < a0.length then
 some ((a0.getD 0 []).length : Int)
 else none
def y01 (k : Nat) : Vm.Spec := { ps := [.slice (.slice .str)], rs := [.imm (.int .i64)], f := fun x => z86 k x }
noncomputable def zo1 : Vm.Spec := y01 fuel
theorem zg6 : Vm.Spec.holds Tryd.prog 40 zo1 := z15 (E := y9r) (L := y7w) (fn := Tryd.f40) (Z := y01) (z1t ok) (z0u (by exact trivial)) z16 (z0a rfl) (z01 rfl) (by kernel_rfl) (by kernel_rfl) (z0v rfl) fun k x => by kernel_rfl
noncomputable def y7v : Env := { te := te, spec := [(19, z79), (39, zo0), (40, zo1)], body := [] }
def y76 : z2a := []
def z2c (k : Nat) (a0 : (List (List ByteArray)) × ((List ByteArray) × (List ByteArray))) : Option (Int) :=
 if decide ((a0.1.length : Int) > 40) = false then
 if decide ((a0.2.2.length : Int) > 40) = true then
 some 2
 else
 (z4w fuel a0.1).bind fun r1 =>
 if (r1 != 0) = true then
 some r1
 else
 (z2b fuel a0.2.1).bind fun r2 =>
 if (r2 != 0) = true then
 some r2
 else
 (z2b fuel a0.2.2).bind fun r3 =>
 if (r3 != 0) = true then
 some r3
 else
 if ((a0.1.length : Int) != (a0.2.1.length : Int)) = false then
 if decide ((a0.1.length : Int) > 0) = true then
 (z86 fuel a0.1).bind fun r4 =>
 if (r4 != (a0.2.2.length : Int)) = true then
 some 3
 else
 some 0
 else
 some 0
 else
 some 3
 else
 some 2
def zw4 (k : Nat) : Vm.Spec := { ps := [.pair (.slice (.slice .str)) (.pair (.slice .str) (.slice .str))], rs := [.imm (.int .i64)], f := fun x => z2c k x }
noncomputable def z6u : Vm.Spec := zw4 fuel
theorem z5d : Vm.Spec.holds Tryd.prog 10 z6u := z15 (E := y7v) (L := y76) (fn := Tryd.f10) (Z := zw4) (z1t ok) (z0u (by exact ⟨⟨by kernel_rfl, z60⟩, ⟨by kernel_rfl, zg5⟩, ⟨by kernel_rfl, zg6⟩, trivial⟩)) z16 (z0a rfl) (z01 rfl) (by kernel_rfl) (by kernel_rfl) (z0v rfl) fun k x => by kernel_rfl
noncomputable def w6e : Env := { te := te, spec := [(66, y11), (67, z8h), (68, zu0), (69, y53)], body := [] }
def w2w : z2a := []
def zm7 (k : Nat) (a0 : ByteArray) : Option (Bool × ((List Int) × (List Int))) :=
 (z2m fuel a0 (⟨#[45]⟩ : ByteArray)).bind fun r1 =>
 (z5e fuel r1.1 (⟨#[47]⟩ : ByteArray)).bind fun r2 =>
 (z3s fuel r2.1).bind fun r3 =>
 (z5u fuel 1).bind fun r4 =>
 if r2.2.2 = true then
 (z3s fuel r2.2.1).bind fun r5 =>
 some (r1.2, (r3, r5))
 else
 some (r1.2, (r3, r4))
def yj5 (k : Nat) : Vm.Spec := { ps := [.str], rs := [.imm qT], f := fun x => zm7 k x }
noncomputable def y7d : Vm.Spec := yj5 fuel
theorem zo5 : Vm.Spec.holds Tryd.prog 44 y7d := z15 (E := w6e) (L := w2w) (fn := Tryd.f44) (Z := yj5) (z1t ok) (z0u (by exact ⟨⟨by kernel_rfl, z87⟩, ⟨by kernel_rfl, z88⟩, ⟨by kernel_rfl, zj9⟩, ⟨by kernel_rfl, zw9⟩, trivial⟩)) z16 (z0a rfl) (z01 rfl) (by kernel_rfl) (by kernel_rfl) (z0v rfl) fun k x => by kernel_rfl
noncomputable def y64 : Env := { te := te, spec := [(44, y7d)], body := [] }
def l_matrix_Row_3H : Ann := { slots := [(3, .one (.own 64 qT)), (6, .one (.val (.slice .str))), (7, .one (.val (.int .i64))), (8, .one (.val (.int .i64)))], objs := [(64, .buf qT)] }
def y0i : Ann := { slots := [(3, .one (.own 64 qT))], objs := [(64, .buf qT)] }
def y0h : Ann := { slots := [], objs := [] }
def z6g : Nat → List ByteArray → Int → Int → List (Bool × ((List Int) × (List Int))) → Option (LR y0i y0h)
 | 0, _, _, _, _ => none
 | m + 1, s6, s7, s8, b64 =>
  if decide (s8 < s7) = true then
  if (0 : Int) ≤ s8 then
  if s8 < s6.length then
  (zm7 fuel (s6.getD s8.toNat ByteArray.empty)).bind fun r1 =>
  if (b64.length + 1) * 56 ≤ 140737488355328 then
  z6g m s6 s7 (IntKind.i64.wrap (s8 + 1)) (b64 ++ [r1])
  else none
  else none
  else none
  else
  some (.exit (b64, ()))
def l_matrix_Row_3L : LSpec := { h := l_matrix_Row_3H, x := y0i, r := y0h, xid := 0, rt := false, pins := [], f := fun k d => z6g k d.1 d.2.1 d.2.2.1 d.2.2.2.1 }
def y3h : z2a := [([33], [(3, l_matrix_Row_3L)])]
def z31 (k : Nat) (a0 : List ByteArray) : Option (List (Bool × ((List Int) × (List Int)))) :=
 match z6g k a0 (a0.length : Int) 0 [] with
 | none => none
 | some (.exit d1) =>
  some d1.1
 | some (.ret d1) =>
  none
theorem y2y (m : Nat) (d : dens l_matrix_Row_3H.tys) : l_matrix_Row_3L.f (m + 1) d = round y64 y3h m [33] 19 (z2w (z1g Tryd.f33) 0) l_matrix_Row_3L (l_matrix_Row_3L.f m) d := by kernel_rfl
def y3o (k : Nat) : Vm.Spec := { ps := [.slice .str], rs := [.fresh qT], f := fun x => z31 k x }
noncomputable def zl9 : Vm.Spec := y3o fuel
theorem z9i : Vm.Spec.holds Tryd.prog 33 zl9 := z15 (E := y64) (L := y3h) (fn := Tryd.f33) (Z := y3o) (z1t ok) (z0u (by exact ⟨⟨by kernel_rfl, zo5⟩, trivial⟩)) z16 (z0a rfl) (z01 rfl) (by kernel_rfl) (by kernel_rfl) (z0o (ls := [(3, l_matrix_Row_3L)]) rfl rfl ⟨by kernel_rfl, fun _ => rfl, y2y, z0p (by kernel_rfl)⟩) fun k x => by kernel_rfl
noncomputable def w2t : Env := { te := te, spec := [(66, y11)], body := [] }
def w1l : z2a := []
def z6z (k : Nat) (a0 : Int) : Option (Bool × ((List Int) × (List Int))) :=
 if decide (a0 < 0) = true then
 (z5u fuel (IntKind.i64.wrap (0 - a0))).bind fun r1 =>
 (z5u fuel 1).bind fun r2 =>
 some (true, (r1, r2))
 else
 (z5u fuel a0).bind fun r3 =>
 (z5u fuel 1).bind fun r4 =>
 some (false, (r3, r4))
def ya6 (k : Nat) : Vm.Spec := { ps := [.int .i64], rs := [.imm qT], f := fun x => z6z k x }
noncomputable def yj3 : Vm.Spec := ya6 fuel
theorem y8m : Vm.Spec.holds Tryd.prog 37 yj3 := z15 (E := w2t) (L := w1l) (fn := Tryd.f37) (Z := ya6) (z1t ok) (z0u (by exact ⟨⟨by kernel_rfl, z87⟩, trivial⟩)) z16 (z0a rfl) (z01 rfl) (by kernel_rfl) (by kernel_rfl) (z0v rfl) fun k x => by kernel_rfl
noncomputable def y7q : Env := { te := te, spec := [(33, zl9)], body := [] }
def l_matrix_In_3H : Ann := { slots := [(3, .one (.own 64 (.slice qT))), (6, .one (.val (.slice (.slice .str)))), (7, .one (.val (.int .i64))), (8, .one (.val (.int .i64)))], objs := [(64, .buf (.slice qT))] }
def y1z : Ann := { slots := [(3, .one (.own 64 (.slice qT)))], objs := [(64, .buf (.slice qT))] }
def y1y : Ann := { slots := [], objs := [] }
def z7f : Nat → List (List ByteArray) → Int → Int → List (List (Bool × ((List Int) × (List Int)))) → Option (LR y1z y1y)
 | 0, _, _, _, _ => none
 | m + 1, s6, s7, s8, b64 =>
  if decide (s8 < s7) = true then
  if (0 : Int) ≤ s8 then
  if s8 < s6.length then
  (z31 fuel (s6.getD s8.toNat [])).bind fun r1 =>
  if (b64.length + 1) * 24 ≤ 140737488355328 then
  z7f m s6 s7 (IntKind.i64.wrap (s8 + 1)) (b64 ++ [r1])
  else none
  else none
  else none
  else
  some (.exit (b64, ()))
def l_matrix_In_3L : LSpec := { h := l_matrix_In_3H, x := y1z, r := y1y, xid := 0, rt := false, pins := [], f := fun k d => z7f k d.1 d.2.1 d.2.2.1 d.2.2.2.1 }
def y66 : z2a := [([42], [(3, l_matrix_In_3L)])]
def za1 (k : Nat) (a0 : List (List ByteArray)) : Option (List (List (Bool × ((List Int) × (List Int))))) :=
 match z7f k a0 (a0.length : Int) 0 [] with
 | none => none
 | some (.exit d1) =>
  some d1.1
 | some (.ret d1) =>
  none
theorem y46 (m : Nat) (d : dens l_matrix_In_3H.tys) : l_matrix_In_3L.f (m + 1) d = round y7q y66 m [42] 19 (z2w (z1g Tryd.f42) 0) l_matrix_In_3L (l_matrix_In_3L.f m) d := by kernel_rfl
def y6c (k : Nat) : Vm.Spec := { ps := [.slice (.slice .str)], rs := [.fresh (.slice qT)], f := fun x => za1 k x }
noncomputable def y2m : Vm.Spec := y6c fuel
theorem zq2 : Vm.Spec.holds Tryd.prog 42 y2m := z15 (E := y7q) (L := y66) (fn := Tryd.f42) (Z := y6c) (z1t ok) (z0u (by exact ⟨⟨by kernel_rfl, z9i⟩, trivial⟩)) z16 (z0a rfl) (z01 rfl) (by kernel_rfl) (by kernel_rfl) (z0o (ls := [(3, l_matrix_In_3L)]) rfl rfl ⟨by kernel_rfl, fun _ => rfl, y46, z0p (by kernel_rfl)⟩) fun k x => by kernel_rfl
noncomputable def yr6 : Env := { te := te, spec := [], body := [] }
def yi9 : z2a := []
def z71 (k : Nat) (a0 : Bool × ((List Int) × (List Int))) : Option (Bool × ((List Int) × (List Int))) :=
 if ((a0.2.1.length : Int) == 0) = true then
 some a0
 else
 some (!a0.1, a0.2)
def y6o (k : Nat) : Vm.Spec := { ps := [qT], rs := [.imm qT], f := fun x => z71 k x }
noncomputable def zt8 : Vm.Spec := y6o fuel
theorem za8 : Vm.Spec.holds Tryd.prog 38 zt8 := z15 (E := yr6) (L := yi9) (fn := Tryd.f38) (Z := y6o) (z1t ok) (z0u (by exact trivial)) z16 (z0a rfl) (z01 rfl) (by kernel_rfl) (by kernel_rfl) (z0v rfl) fun k x => by kernel_rfl
noncomputable def yi3 : Env := { te := te, spec := [], body := [] }
def ye0 : z2a := []
def z1k (k : Nat) (a0 : Bool × ((List Int) × (List Int))) : Option (Int) :=
 if ((a0.2.1.length : Int) == 0) = true then
 some 0
 else
 if a0.1 = true then
 some (-1)
 else
 some 1
def y3r (k : Nat) : Vm.Spec := { ps := [qT], rs := [.imm (.int .i64)], f := fun x => z1k k x }
noncomputable def z5y : Vm.Spec := y3r fuel
theorem z3k : Vm.Spec.holds Tryd.prog 49 z5y := z15 (E := yi3) (L := ye0) (fn := Tryd.f49) (Z := y3r) (z1t ok) (z0u (by exact trivial)) z16 (z0a rfl) (z01 rfl) (by kernel_rfl) (by kernel_rfl) (z0v rfl) fun k x => by kernel_rfl
noncomputable def yd8 : Env := { te := te, spec := [(66, y11)], body := [] }
def y9t : z2a := []
def z34 (k : Nat) (a0 : Bool × ((List Int) × (List Int))) : Option (List Int) :=
 if ((a0.2.2.length : Int) == 0) = true then
 (z5u fuel 1).bind fun r1 =>
 some r1
 else
 some a0.2.2
def y1r (k : Nat) : Vm.Spec := { ps := [qT], rs := [.imm (.slice (.int .u32))], f := fun x => z34 k x }
noncomputable def z9a : Vm.Spec := y1r fuel
theorem z63 : Vm.Spec.holds Tryd.prog 75 z9a := z15 (E := yd8) (L := y9t) (fn := Tryd.f75) (Z := y1r) (z1t ok) (z0u (by exact ⟨⟨by kernel_rfl, z87⟩, trivial⟩)) z16 (z0a rfl) (z01 rfl) (by kernel_rfl) (by kernel_rfl) (z0v rfl) fun k x => by kernel_rfl
noncomputable def w2v : Env := { te := te, spec := [(66, y11), (72, y2o), (73, zi6), (86, y2n)], body := [] }
def w1n : z2a := []
def zd3 (k : Nat) (a0 : Bool) (a1 : List Int) (a2 : List Int) : Option (Bool × ((List Int) × (List Int))) :=
 if ((a1.length : Int) == 0) = true then
 some (false, ([], []))
 else
 (z62 fuel a1 a2).bind fun r1 =>
 (z5u fuel 1).bind fun r2 =>
 (z4i fuel r1 r2).bind fun r3 =>
 if decide (r3 > 0) = true then
 (za2 fuel a1 r1).bind fun r4 =>
 (za2 fuel a2 r1).bind fun r5 =>
 some (a0, (r4.1, r5.1))
 else
 some (a0, (a1, a2))
def ya8 (k : Nat) : Vm.Spec := { ps := [.bool, .slice (.int .u32), .slice (.int .u32)], rs := [.imm qT], f := fun x => zd3 k x.1 x.2.1 x.2.2 }
noncomputable def y3m : Vm.Spec := ya8 fuel
theorem zj8 : Vm.Spec.holds Tryd.prog 78 y3m := z15 (E := w2v) (L := w1n) (fn := Tryd.f78) (Z := ya8) (z1t ok) (z0u (by exact ⟨⟨by kernel_rfl, z87⟩, ⟨by kernel_rfl, zq5⟩, ⟨by kernel_rfl, z7b⟩, ⟨by kernel_rfl, zq4⟩, trivial⟩)) z16 (z0a rfl) (z01 rfl) (by kernel_rfl) (by kernel_rfl) (z0v rfl) fun k x => by kernel_rfl
noncomputable def y7s : Env := { te := te, spec := [], body := [] }
def l_nat_N_Add_6H : Ann := { slots := [(1, .one (.val (.slice (.int .u32)))), (5, .one (.own 76 (.int .u32))), (6, .one (.val (.int .u32))), (20, .one (.val (.slice (.int .u32)))), (21, .one (.val (.int .i64))), (22, .one (.val (.int .i64)))], objs := [(76, .buf (.int .u32))] }
def y23 : Ann := { slots := [(5, .one (.own 76 (.int .u32))), (6, .one (.val (.int .u32)))], objs := [(76, .buf (.int .u32))] }
def y22 : Ann := { slots := [], objs := [] }
def z5f : Nat → List Int → Int → List Int → Int → Int → List Int → Option (LR y23 y22)
 | 0, _, _, _, _, _, _ => none
 | m + 1, s1, s6, s20, s21, s22, b76 =>
  if decide (s22 < s21) = true then
  if (0 : Int) ≤ s22 then
  if s22 < s20.length then
  if decide (s22 < (s1.length : Int)) = true then
  if (0 : Int) ≤ s22 then
  if s22 < s1.length then
  if (b76.length + 1) * 4 ≤ 140737488355328 then
  z5f m s1 (IntKind.u32.wrap ((IntKind.u32.wrap ((IntKind.u32.wrap ((s20.getD s22.toNat 0) + s6)) + (s1.getD s22.toNat 0))).tdiv 1000000000)) s20 s21 (IntKind.i64.wrap (s22 + 1)) (b76 ++ [(IntKind.u32.wrap ((IntKind.u32.wrap ((s20.getD s22.toNat 0) + s6)) + (s1.getD s22.toNat 0))).tmod 1000000000])
  else none
  else none
  else none
  else
  if (b76.length + 1) * 4 ≤ 140737488355328 then
  z5f m s1 (IntKind.u32.wrap ((IntKind.u32.wrap ((s20.getD s22.toNat 0) + s6)).tdiv 1000000000)) s20 s21 (IntKind.i64.wrap (s22 + 1)) (b76 ++ [(IntKind.u32.wrap ((s20.getD s22.toNat 0) + s6)).tmod 1000000000])
  else none
  else none
  else none
  else
  some (.exit (s6, b76, ()))
def l_nat_N_Add_6L : LSpec := { h := l_nat_N_Add_6H, x := y23, r := y22, xid := 0, rt := false, pins := [], f := fun k d => z5f k d.1 d.2.1 d.2.2.1 d.2.2.2.1 d.2.2.2.2.1 d.2.2.2.2.2.1 }
def y68 : z2a := [([79], [(6, l_nat_N_Add_6L)])]
def zu7 (k : Nat) (a0 : List Int) (a1 : List Int) : Option (List Int) :=
 if decide ((a0.length : Int) < (a1.length : Int)) = true then
 if (0 : Int) ≤ IntKind.i64.wrap ((a1.length : Int) + 1) then
 if (IntKind.i64.wrap ((a1.length : Int) + 1)) * 4 ≤ 281474976710656 then
 match z5f k a0 0 a1 (a1.length : Int) 0 (List.replicate 0 0) with
 | none => none
 | some (.exit d1) =>
  if decide (d1.1 > 0) = true then
  if (d1.2.1.length + 1) * 4 ≤ 140737488355328 then
  some (d1.2.1 ++ [d1.1])
  else none
  else
  some d1.2.1
 | some (.ret d1) =>
  none
 else none
 else none
 else
 if (0 : Int) ≤ IntKind.i64.wrap ((a0.length : Int) + 1) then
 if (IntKind.i64.wrap ((a0.length : Int) + 1)) * 4 ≤ 281474976710656 then
 match z5f k a1 0 a0 (a0.length : Int) 0 (List.replicate 0 0) with
 | none => none
 | some (.exit d2) =>
  if decide (d2.1 > 0) = true then
  if (d2.2.1.length + 1) * 4 ≤ 140737488355328 then
  some (d2.2.1 ++ [d2.1])
  else none
  else
  some d2.2.1
 | some (.ret d2) =>
  none
 else none
 else none
theorem y48 (m : Nat) (d : dens l_nat_N_Add_6H.tys) : l_nat_N_Add_6L.f (m + 1) d = round y7s y68 m [79] 55 (z2w (z1g Tryd.f79) 0) l_nat_N_Add_6L (l_nat_N_Add_6L.f m) d := by kernel_rfl
def y6e (k : Nat) : Vm.Spec := { ps := [.slice (.int .u32), .slice (.int .u32)], rs := [.fresh (.int .u32)], f := fun x => zu7 k x.1 x.2 }
noncomputable def y7z : Vm.Spec := y6e fuel
theorem y5d : Vm.Spec.holds Tryd.prog 79 y7z := z15 (E := y7s) (L := y68) (fn := Tryd.f79) (Z := y6e) (z1t ok) (z0u (by exact trivial)) z16 (z0a rfl) (z01 rfl) (by kernel_rfl) (by kernel_rfl) (z0o (ls := [(6, l_nat_N_Add_6L)]) rfl rfl ⟨by kernel_rfl, fun _ => rfl, y48, z0p (by kernel_rfl)⟩) fun k x => by kernel_rfl
noncomputable def yr3 : Env := { te := te, spec := [(73, zi6), (75, z9a), (77, zi7), (78, y3m), (79, y7z), (80, y80)], body := [] }
def yi6 : z2a := []
def za4 (k : Nat) (a0 : Bool × ((List Int) × (List Int))) (a1 : Bool × ((List Int) × (List Int))) : Option (Bool × ((List Int) × (List Int))) :=
 if ((a0.2.1.length : Int) == 0) = true then
 some a1
 else
 if ((a1.2.1.length : Int) == 0) = true then
 some a0
 else
 (z34 fuel a1).bind fun r1 =>
 (z4j fuel a0.2.1 r1).bind fun r2 =>
 (z34 fuel a0).bind fun r3 =>
 (z4j fuel a1.2.1 r3).bind fun r4 =>
 (z34 fuel a0).bind fun r5 =>
 (z34 fuel a1).bind fun r6 =>
 (z4j fuel r5 r6).bind fun r7 =>
 if (a0.1 == a1.1) = true then
 (zu7 fuel r2 r4).bind fun r8 =>
 (zd3 fuel a0.1 r8 r7).bind fun r9 =>
 some r9
 else
 (z4i fuel r2 r4).bind fun r10 =>
 if decide (r10 ≥ 0) = true then
 (zj7 fuel r2 r4).bind fun r11 =>
 (zd3 fuel a0.1 r11 r7).bind fun r12 =>
 some r12
 else
 (zj7 fuel r4 r2).bind fun r13 =>
 (zd3 fuel a1.1 r13 r7).bind fun r14 =>
 some r14
def y6l (k : Nat) : Vm.Spec := { ps := [qT, qT], rs := [.imm qT], f := fun x => za4 k x.1 x.2 }
noncomputable def zt5 : Vm.Spec := y6l fuel
theorem za5 : Vm.Spec.holds Tryd.prog 55 zt5 := z15 (E := yr3) (L := yi6) (fn := Tryd.f55) (Z := y6l) (z1t ok) (z0u (by exact ⟨⟨by kernel_rfl, z7b⟩, ⟨by kernel_rfl, z63⟩, ⟨by kernel_rfl, z7c⟩, ⟨by kernel_rfl, zj8⟩, ⟨by kernel_rfl, y5d⟩, ⟨by kernel_rfl, y5e⟩, trivial⟩)) z16 (z0a rfl) (z01 rfl) (by kernel_rfl) (by kernel_rfl) (z0v rfl) fun k x => by kernel_rfl
noncomputable def yr9 : Env := { te := te, spec := [(38, zt8), (55, zt5)], body := [] }
def yj2 : z2a := []
def z52 (k : Nat) (a0 : Bool × ((List Int) × (List Int))) (a1 : Bool × ((List Int) × (List Int))) : Option (Bool × ((List Int) × (List Int))) :=
 (z71 fuel a1).bind fun r1 =>
 (za4 fuel a0 r1).bind fun r2 =>
 some r2
def y6r (k : Nat) : Vm.Spec := { ps := [qT, qT], rs := [.imm qT], f := fun x => z52 k x.1 x.2 }
noncomputable def zi8 : Vm.Spec := y6r fuel
theorem z7d : Vm.Spec.holds Tryd.prog 63 zi8 := z15 (E := yr9) (L := yj2) (fn := Tryd.f63) (Z := y6r) (z1t ok) (z0u (by exact ⟨⟨by kernel_rfl, za8⟩, ⟨by kernel_rfl, za5⟩, trivial⟩)) z16 (z0a rfl) (z01 rfl) (by kernel_rfl) (by kernel_rfl) (z0v rfl) fun k x => by kernel_rfl
noncomputable def yr5 : Env := { te := te, spec := [(75, z9a), (77, zi7), (78, y3m)], body := [] }
def yi8 : z2a := []
def z3a (k : Nat) (a0 : Bool × ((List Int) × (List Int))) (a1 : Bool × ((List Int) × (List Int))) : Option (Bool × ((List Int) × (List Int))) :=
 if ((a0.2.1.length : Int) == 0) = false then
 if ((a1.2.1.length : Int) == 0) = true then
 some (false, ([], []))
 else
 (z4j fuel a0.2.1 a1.2.1).bind fun r1 =>
 (z34 fuel a0).bind fun r2 =>
 (z34 fuel a1).bind fun r3 =>
 (z4j fuel r2 r3).bind fun r4 =>
 (zd3 fuel (!(a0.1 == a1.1)) r1 r4).bind fun r5 =>
 some r5
 else
 some (false, ([], []))
def y6n (k : Nat) : Vm.Spec := { ps := [qT, qT], rs := [.imm qT], f := fun x => z3a k x.1 x.2 }
noncomputable def zt7 : Vm.Spec := y6n fuel
theorem za7 : Vm.Spec.holds Tryd.prog 64 zt7 := z15 (E := yr5) (L := yi8) (fn := Tryd.f64) (Z := y6n) (z1t ok) (z0u (by exact ⟨⟨by kernel_rfl, z63⟩, ⟨by kernel_rfl, z7c⟩, ⟨by kernel_rfl, zj8⟩, trivial⟩)) z16 (z0a rfl) (z01 rfl) (by kernel_rfl) (by kernel_rfl) (z0v rfl) fun k x => by kernel_rfl
noncomputable def yr8 : Env := { te := te, spec := [(75, z9a), (77, zi7), (78, y3m)], body := [] }
def yj1 : z2a := []
def z5m (k : Nat) (a0 : Bool × ((List Int) × (List Int))) (a1 : Bool × ((List Int) × (List Int))) : Option (Bool × ((List Int) × (List Int))) :=
 if ((a0.2.1.length : Int) == 0) = false then
 if ((a1.2.1.length : Int) == 0) = true then
 some (false, ([], []))
 else
 (z34 fuel a1).bind fun r1 =>
 (z4j fuel a0.2.1 r1).bind fun r2 =>
 (z34 fuel a0).bind fun r3 =>
 (z4j fuel r3 a1.2.1).bind fun r4 =>
 (zd3 fuel (!(a0.1 == a1.1)) r2 r4).bind fun r5 =>
 some r5
 else
 some (false, ([], []))
def y6q (k : Nat) : Vm.Spec := { ps := [qT, qT], rs := [.imm qT], f := fun x => z5m k x.1 x.2 }
noncomputable def y2p : Vm.Spec := y6q fuel
theorem zq6 : Vm.Spec.holds Tryd.prog 82 y2p := z15 (E := yr8) (L := yj1) (fn := Tryd.f82) (Z := y6q) (z1t ok) (z0u (by exact ⟨⟨by kernel_rfl, z63⟩, ⟨by kernel_rfl, z7c⟩, ⟨by kernel_rfl, zj8⟩, trivial⟩)) z16 (z0a rfl) (z01 rfl) (by kernel_rfl) (by kernel_rfl) (z0v rfl) fun k x => by kernel_rfl
noncomputable def yr4 : Env := { te := te, spec := [(49, z5y), (63, zi8)], body := [] }
def yi7 : z2a := []
def z70 (k : Nat) (a0 : Bool × ((List Int) × (List Int))) (a1 : Bool × ((List Int) × (List Int))) : Option (Int) :=
 (z52 fuel a0 a1).bind fun r1 =>
 (z1k fuel r1).bind fun r2 =>
 some r2
def y6m (k : Nat) : Vm.Spec := { ps := [qT, qT], rs := [.imm (.int .i64)], f := fun x => z70 k x.1 x.2 }
noncomputable def zt6 : Vm.Spec := y6m fuel
theorem za6 : Vm.Spec.holds Tryd.prog 48 zt6 := z15 (E := yr4) (L := yi7) (fn := Tryd.f48) (Z := y6m) (z1t ok) (z0u (by exact ⟨⟨by kernel_rfl, z3k⟩, ⟨by kernel_rfl, z7d⟩, trivial⟩)) z16 (z0a rfl) (z01 rfl) (by kernel_rfl) (by kernel_rfl) (z0v rfl) fun k x => by kernel_rfl
noncomputable def z9s : Env := { te := te, spec := [], body := [] }
def l_strings_trimLeftByte_1H : Ann := { slots := [(0, .one (.val .str)), (1, .one (.val (.int .u8)))], objs := [] }
def z8c : Ann := { slots := [(0, .one (.val .str))], objs := [] }
def z8b : Ann := { slots := [], objs := [] }
def z2z : Nat → ByteArray → Int → Option (LR z8c z8b)
 | 0, _, _ => none
 | m + 1, s0, s1 =>
  if decide ((s0.size : Int) > 0) = true then
  if (0 : Int) < (s0.size : Int) then
  if (((s0.data.getD 0 0).toNat : Int) == s1) = true then
  if (1 : Int) ≤ s0.size then
  z2z m (s0.extract 1 s0.size) s1
  else none
  else
  some (.exit (s0, ()))
  else none
  else
  some (.exit (s0, ()))
def l_strings_trimLeftByte_1L : LSpec := { h := l_strings_trimLeftByte_1H, x := z8c, r := z8b, xid := 0, rt := false, pins := [], f := fun k d => z2z k d.1 d.2.1 }
def z98 : z2a := [([93], [(1, l_strings_trimLeftByte_1L)])]
def z6l (k : Nat) (a0 : ByteArray) (a1 : Int) : Option (ByteArray) :=
 match z2z k a0 a1 with
 | none => none
 | some (.exit d1) =>
  some d1.1
 | some (.ret d1) =>
  none
theorem zf9 (m : Nat) (d : dens l_strings_trimLeftByte_1H.tys) : l_strings_trimLeftByte_1L.f (m + 1) d = round z9s z98 m [93] 17 (z2w (z1g Tryd.f93) 0) l_strings_trimLeftByte_1L (l_strings_trimLeftByte_1L.f m) d := by kernel_rfl
def z9e (k : Nat) : Vm.Spec := { ps := [.str, .int .u8], rs := [.imm .str], f := fun x => z6l k x.1 x.2 }
noncomputable def z9t : Vm.Spec := z9e fuel
theorem zh3 : Vm.Spec.holds Tryd.prog 93 z9t := z15 (E := z9s) (L := z98) (fn := Tryd.f93) (Z := z9e) (z1t ok) (z0u (by exact trivial)) z16 (z0a rfl) (z01 rfl) (by kernel_rfl) (by kernel_rfl) (z0o (ls := [(1, l_strings_trimLeftByte_1L)]) rfl rfl ⟨by kernel_rfl, fun _ => rfl, zf9, z0p (by kernel_rfl)⟩) fun k x => by kernel_rfl
noncomputable def y3e : Env := { te := te, spec := [(93, z9t)], body := [] }
def y2l : z2a := []
def z6s (k : Nat) (a0 : ByteArray) (a1 : ByteArray) : Option (ByteArray) :=
 if ((a0.toList == (⟨#[]⟩ : ByteArray).toList)) = false then
 if ((a1.toList == (⟨#[]⟩ : ByteArray).toList)) = true then
 some a0
 else
 if ((a1.size : Int) == 1) = true then
 if (0 : Int) < (a1.size : Int) then
 if decide (((a1.data.getD 0 0).toNat : Int) < 128) = true then
 if (0 : Int) < (a1.size : Int) then
 (z6l fuel a0 ((a1.data.getD 0 0).toNat : Int)).bind fun r1 =>
 some r1
 else none
 else none
 else none
 else none
 else
 some a0
def zj2 (k : Nat) : Vm.Spec := { ps := [.str, .str], rs := [.imm .str], f := fun x => z6s k x.1 x.2 }
noncomputable def zm2 : Vm.Spec := zj2 fuel
theorem zq8 : Vm.Spec.holds Tryd.prog 87 zm2 := z15 (E := y3e) (L := y2l) (fn := Tryd.f87) (Z := zj2) (z1t ok) (z0u (by exact ⟨⟨by kernel_rfl, zh3⟩, trivial⟩)) z16 (z0a rfl) (z01 rfl) (by kernel_rfl) (by kernel_rfl) (z0v rfl) fun k x => by kernel_rfl
noncomputable def zy8 : Env := { te := te, spec := [(87, zm2)], body := [] }
def l_nat_N_Text_10H : Ann := { slots := [(5, .one (.val (.int .u32))), (6, .one (.fix (.pbox 24 0))), (7, .one (.val (.int .i64)))], objs := [(24, .box [.val (.arr 9 (.int .u8))])] }
def zx4 : Ann := { slots := [(6, .one (.fix (.pbox 24 0)))], objs := [(24, .box [.val (.arr 9 (.int .u8))])] }
def zx3 : Ann := { slots := [], objs := [] }
def l_nat_N_Text_5H : Ann := { slots := [(0, .one (.val (.slice (.int .u32)))), (3, .one (.own 56 (.int .u8))), (4, .one (.val (.int .i64)))], objs := [(56, .buf (.int .u8))] }
def y0m : Ann := { slots := [(3, .one (.own 56 (.int .u8)))], objs := [(56, .buf (.int .u8))] }
def y0l : Ann := { slots := [], objs := [] }
def z53 : Nat → Int → Int → List Int → Option (LR zx4 zx3)
 | 0, _, _, _ => none
 | m + 1, s5, s7, b24_0 =>
  if decide (s7 ≥ 0) = true then
  if (0 : Int) ≤ s7 then
  if s7 < 9 then
  z53 m (IntKind.u32.wrap (s5.tdiv 10)) (IntKind.i64.wrap (s7 - 1)) (b24_0.set s7.toNat (IntKind.u8.wrap (IntKind.u32.wrap (48 + (s5.tmod 10)))))
  else none
  else none
  else
  some (.exit (b24_0, ()))
def l_nat_N_Text_10L : LSpec := { h := l_nat_N_Text_10H, x := zx4, r := zx3, xid := 2, rt := false, pins := [24], f := fun k d => z53 k d.1 d.2.1 d.2.2.1 }
def z5p : Nat → List Int → Int → List Int → Option (LR y0m y0l)
 | 0, _, _, _ => none
 | m + 1, s0, s4, b56 =>
  if decide (s4 ≥ 0) = true then
  if (0 : Int) ≤ s4 then
  if s4 < s0.length then
  match z53 m (s0.getD s4.toNat 0) 8 (List.replicate 9 0) with
  | none => none
  | some (.exit d1) =>
   if (b56.length + ((d1.1.take 9).drop 0).length) * 1 ≤ 140737488355328 then
   z5p m s0 (IntKind.i64.wrap (s4 - 1)) (b56 ++ ((d1.1.take 9).drop 0))
   else none
  | some (.ret d1) =>
   none
  else none
  else none
  else
  some (.exit (b56, ()))
def l_nat_N_Text_5L : LSpec := { h := l_nat_N_Text_5H, x := y0m, r := y0l, xid := 0, rt := false, pins := [], f := fun k d => z5p k d.1 d.2.1 d.2.2.1 }
def zt1 : z2a := [([74], [(5, l_nat_N_Text_5L), (10, l_nat_N_Text_10L)])]
def z6w (k : Nat) (a0 : List Int) : Option (ByteArray) :=
 if ((a0.length : Int) == 0) = true then
 some (⟨#[48]⟩ : ByteArray)
 else
 if (0 : Int) ≤ IntKind.i64.wrap (9 * (a0.length : Int)) then
 if (IntKind.i64.wrap (9 * (a0.length : Int))) * 1 ≤ 281474976710656 then
 match z5p k a0 (IntKind.i64.wrap ((a0.length : Int) - 1)) (List.replicate 0 0) with
 | none => none
 | some (.exit d1) =>
  (z6s fuel (⟨(d1.1.map fun n => UInt8.ofNat n.toNat).toArray⟩ : ByteArray) (⟨#[48]⟩ : ByteArray)).bind fun r2 =>
  some r2
 | some (.ret d1) =>
  none
 else none
 else none
theorem y1j (m : Nat) (d : dens l_nat_N_Text_10H.tys) : l_nat_N_Text_10L.f (m + 1) d = round zy8 zt1 m [74] 44 (z2w (z1g Tryd.f74) 1) l_nat_N_Text_10L (l_nat_N_Text_10L.f m) d := by kernel_rfl
theorem y31 (m : Nat) (d : dens l_nat_N_Text_5H.tys) : l_nat_N_Text_5L.f (m + 1) d = round zy8 zt1 m [74] 44 (z2w (z1g Tryd.f74) 0) l_nat_N_Text_5L (l_nat_N_Text_5L.f m) d := by kernel_rfl
def y3p (k : Nat) : Vm.Spec := { ps := [.slice (.int .u32)], rs := [.imm .str], f := fun x => z6w k x }
noncomputable def zz5 : Vm.Spec := y3p fuel
theorem zm5 : Vm.Spec.holds Tryd.prog 74 zz5 := z15 (E := zy8) (L := zt1) (fn := Tryd.f74) (Z := y3p) (z1t ok) (z0u (by exact ⟨⟨by kernel_rfl, zq8⟩, trivial⟩)) z16 (z0a rfl) (z01 rfl) (by kernel_rfl) (by kernel_rfl) (z0o (ls := [(5, l_nat_N_Text_5L), (10, l_nat_N_Text_10L)]) rfl rfl ⟨by kernel_rfl, fun _ => rfl, y31, by kernel_rfl, fun _ => rfl, y1j, z0p (by kernel_rfl)⟩) fun k x => by kernel_rfl
noncomputable def yr7 : Env := { te := te, spec := [(74, zz5), (75, z9a)], body := [] }
def yj0 : z2a := []
def z8j (k : Nat) (a0 : Bool × ((List Int) × (List Int))) : Option (ByteArray) :=
 if ((a0.2.1.length : Int) == 0) = true then
 some (⟨#[48]⟩ : ByteArray)
 else
 (z6w fuel a0.2.1).bind fun r1 =>
 if a0.1 = true then
 if (⟨#[45]⟩ : ByteArray).size + r1.size ≤ 4611686018427387904 then
 (z34 fuel a0).bind fun r2 =>
 (z6w fuel r2).bind fun r3 =>
 if (!(r3.toList == (⟨#[49]⟩ : ByteArray).toList)) = true then
 if (⟨#[47]⟩ : ByteArray).size + r3.size ≤ 4611686018427387904 then
 if ((⟨#[45]⟩ : ByteArray) ++ r1).size + ((⟨#[47]⟩ : ByteArray) ++ r3).size ≤ 4611686018427387904 then
 some (((⟨#[45]⟩ : ByteArray) ++ r1) ++ ((⟨#[47]⟩ : ByteArray) ++ r3))
 else none
 else none
 else
 some ((⟨#[45]⟩ : ByteArray) ++ r1)
 else none
 else
 (z34 fuel a0).bind fun r4 =>
 (z6w fuel r4).bind fun r5 =>
 if (!(r5.toList == (⟨#[49]⟩ : ByteArray).toList)) = true then
 if (⟨#[47]⟩ : ByteArray).size + r5.size ≤ 4611686018427387904 then
 if r1.size + ((⟨#[47]⟩ : ByteArray) ++ r5).size ≤ 4611686018427387904 then
 some (r1 ++ ((⟨#[47]⟩ : ByteArray) ++ r5))
 else none
 else none
 else
 some r1
def y6p (k : Nat) : Vm.Spec := { ps := [qT], rs := [.imm .str], f := fun x => z8j k x }
noncomputable def zt9 : Vm.Spec := y6p fuel
theorem za9 : Vm.Spec.holds Tryd.prog 53 zt9 := z15 (E := yr7) (L := yj0) (fn := Tryd.f53) (Z := y6p) (z1t ok) (z0u (by exact ⟨⟨by kernel_rfl, zm5⟩, ⟨by kernel_rfl, z63⟩, trivial⟩)) z16 (z0a rfl) (z01 rfl) (by kernel_rfl) (by kernel_rfl) (z0v rfl) fun k x => by kernel_rfl
noncomputable def y9s : Env := { te := te, spec := [(74, zz5)], body := [] }
def y7x : z2a := []
def z6f (k : Nat) (a0 : List Int) : Option (Int) :=
 (z6w fuel a0).bind fun r1 =>
 some (r1.size : Int)
def y02 (k : Nat) : Vm.Spec := { ps := [.slice (.int .u32)], rs := [.imm (.int .i64)], f := fun x => z6f k x }
noncomputable def y1o : Vm.Spec := y02 fuel
theorem y1g : Vm.Spec.holds Tryd.prog 81 y1o := z15 (E := y9s) (L := y7x) (fn := Tryd.f81) (Z := y02) (z1t ok) (z0u (by exact ⟨⟨by kernel_rfl, zm5⟩, trivial⟩)) z16 (z0a rfl) (z01 rfl) (by kernel_rfl) (by kernel_rfl) (z0v rfl) fun k x => by kernel_rfl
noncomputable def w1k : Env := { te := te, spec := [(81, y1o)], body := [] }
def ys0 : z2a := []
def zh7 (k : Nat) (a0 : Bool × ((List Int) × (List Int))) : Option (Int) :=
 (z6f fuel a0.2.1).bind fun r1 =>
 if decide (r1 > 2000) = false then
 (z6f fuel a0.2.2).bind fun r2 =>
 if decide (r2 > 2000) = true then
 some 2
 else
 some 0
 else
 some 2
def y83 (k : Nat) : Vm.Spec := { ps := [qT], rs := [.imm (.int .i64)], f := fun x => zh7 k x }
noncomputable def y54 : Vm.Spec := y83 fuel
theorem zx0 : Vm.Spec.holds Tryd.prog 59 y54 := z15 (E := w1k) (L := ys0) (fn := Tryd.f59) (Z := y83) (z1t ok) (z0u (by exact ⟨⟨by kernel_rfl, y1g⟩, trivial⟩)) z16 (z0a rfl) (z01 rfl) (by kernel_rfl) (by kernel_rfl) (z0v rfl) fun k x => by kernel_rfl
noncomputable def y63 : Env := { te := te, spec := [(53, zt9), (59, y54)], body := [] }
def l_matrix_Out_3H : Ann := { slots := [(4, .one (.own 92 .str)), (8, .one (.val (.slice qT))), (9, .one (.val (.int .i64))), (10, .one (.val (.int .i64)))], objs := [(92, .buf .str)] }
def y0g : Ann := { slots := [(4, .one (.own 92 .str))], objs := [(92, .buf .str)] }
def y0f : Ann := { slots := [(2, .one (.fix .nil)), (3, .one (.val (.int .i64)))], objs := [] }
def z4y : Nat → List (Bool × ((List Int) × (List Int))) → Int → Int → List ByteArray → Option (LR y0g y0f)
 | 0, _, _, _, _ => none
 | m + 1, s8, s9, s10, b92 =>
  if decide (s10 < s9) = true then
  if (0 : Int) ≤ s10 then
  if s10 < s8.length then
  (zh7 fuel ((s8.getD s10.toNat (false, ([], []))).1, ((s8.getD s10.toNat (false, ([], []))).2))).bind fun r1 =>
  if (r1 != 0) = true then
  some (.ret (r1, ()))
  else
  (z8j fuel ((s8.getD s10.toNat (false, ([], []))).1, ((s8.getD s10.toNat (false, ([], []))).2))).bind fun r2 =>
  if (b92.length + 1) * 16 ≤ 140737488355328 then
  z4y m s8 s9 (IntKind.i64.wrap (s10 + 1)) (b92 ++ [r2])
  else none
  else none
  else none
  else
  some (.exit (b92, ()))
def l_matrix_Out_3L : LSpec := { h := l_matrix_Out_3H, x := y0g, r := y0f, xid := 0, rt := true, pins := [], f := fun k d => z4y k d.1 d.2.1 d.2.2.1 d.2.2.2.1 }
def y3g : z2a := [([58], [(3, l_matrix_Out_3L)])]
def z5z (k : Nat) (a0 : List (Bool × ((List Int) × (List Int)))) : Option (List ByteArray × Int) :=
 match z4y k a0 (a0.length : Int) 0 [] with
 | none => none
 | some (.exit d1) =>
  some (d1.1, 0)
 | some (.ret d1) =>
  some ([], d1.1)
theorem y2x (m : Nat) (d : dens l_matrix_Out_3H.tys) : l_matrix_Out_3L.f (m + 1) d = round y63 y3g m [58] 26 (z2w (z1g Tryd.f58) 0) l_matrix_Out_3L (l_matrix_Out_3L.f m) d := by kernel_rfl
def y3n (k : Nat) : Vm.Spec := { ps := [.slice qT], rs := [.fresh .str, .imm (.int .i64)], f := fun x => z5z k x }
noncomputable def y6b : Vm.Spec := y3n fuel
theorem y41 : Vm.Spec.holds Tryd.prog 58 y6b := z15 (E := y63) (L := y3g) (fn := Tryd.f58) (Z := y3n) (z1t ok) (z0u (by exact ⟨⟨by kernel_rfl, za9⟩, ⟨by kernel_rfl, zx0⟩, trivial⟩)) z16 (z0a rfl) (z01 rfl) (by kernel_rfl) (by kernel_rfl) (z0o (ls := [(3, l_matrix_Out_3L)]) rfl rfl ⟨by kernel_rfl, fun _ => rfl, y2x, z0p (by kernel_rfl)⟩) fun k x => by kernel_rfl
noncomputable def y75 : Env := { te := te, spec := [(53, zt9), (58, y6b), (59, y54)], body := [] }
def y52 : z2a := []
def z13 (k : Nat) (a0 : Int) (a1 : List (Bool × ((List Int) × (List Int)))) (a2 : List (Bool × ((List Int) × (List Int)))) (a3 : List (Bool × ((List Int) × (List Int)))) (a4 : Bool × ((List Int) × (List Int))) : Option ((Int × ((List ByteArray) × ((List ByteArray) × ((List ByteArray) × ByteArray)))) × Int) :=
 (z5z fuel a1).bind fun r1 =>
 if (r1.2 != 0) = true then
 some ((0, ([], ([], ([], ByteArray.empty)))), r1.2)
 else
 (z5z fuel a2).bind fun r2 =>
 if (r2.2 != 0) = true then
 some ((0, ([], ([], ([], ByteArray.empty)))), r2.2)
 else
 (z5z fuel a3).bind fun r3 =>
 if (r3.2 != 0) = true then
 some ((0, ([], ([], ([], ByteArray.empty)))), r3.2)
 else
 (zh7 fuel a4).bind fun r4 =>
 if (r4 != 0) = true then
 some ((0, ([], ([], ([], ByteArray.empty)))), r4)
 else
 if (a0 == 0) = true then
 (z8j fuel a4).bind fun r5 =>
 some ((a0, (r1.1, (r2.1, (r3.1, r5)))), 0)
 else
 some ((a0, (r1.1, (r2.1, (r3.1, ByteArray.empty)))), 0)
def zp6 (k : Nat) : Vm.Spec := { ps := [.int .i64, .slice qT, .slice qT, .slice qT, qT], rs := [.imm (.pair (.int .i64) (.pair (.slice .str) (.pair (.slice .str) (.pair (.slice .str) .str)))), .imm (.int .i64)], f := fun x => z13 k x.1 x.2.1 x.2.2.1 x.2.2.2.1 x.2.2.2.2 }
noncomputable def zw3 : Vm.Spec := zp6 fuel
theorem zy2 : Vm.Spec.holds Tryd.prog 31 zw3 := z15 (E := y75) (L := y52) (fn := Tryd.f31) (Z := zp6) (z1t ok) (z0u (by exact ⟨⟨by kernel_rfl, za9⟩, ⟨by kernel_rfl, y41⟩, ⟨by kernel_rfl, zx0⟩, trivial⟩)) z16 (z0a rfl) (z01 rfl) (by kernel_rfl) (by kernel_rfl) (z0v rfl) fun k x => by kernel_rfl
end Go.Proofs.YtcdcoeofhnfjdaaDoor
