/- Pure functions, printed by a program of this session out of the program. -/
import Derived.Test.YtcdcoeofhnfjdaaDoorVmD
import Derived.Test.YtcdcoeofhnfjdaaDoorSh
set_option linter.unusedVariables false
namespace Go.Proofs.YtcdcoeofhnfjdaaDoor
open Go Vm Go.Proofs
abbrev qT : Ty := .pair .bool (.pair (.slice (.int .u32)) (.slice (.int .u32)))
def te : TE := [(2, ⟨.int .i64, .sc, 8⟩),
  (3, ⟨.int .i64, .sc, 8⟩),
  (4, ⟨.bool, .sc, 1⟩),
  (5, ⟨.int .u8, .sc, 1⟩),
  (9, ⟨.str, .sc, 16⟩),
  (22, ⟨.slice (.slice .str), .slice 25, 24⟩),
  (23, ⟨.slice (.slice .str), .slice 25, 24⟩),
  (24, ⟨.slice .str, .slice 30, 24⟩),
  (25, ⟨.slice .str, .slice 30, 24⟩),
  (27, ⟨.pair (.slice (.slice .str)) (.pair (.slice .str) (.slice .str)), .st [23, 25, 25], 72⟩),
  (30, ⟨.str, .sc, 16⟩),
  (32, ⟨.pair (.int .i64) (.pair (.slice .str) (.pair (.slice .str) (.pair (.slice .str) .str))), .st [3, 25, 25, 25, 30], 96⟩),
  (33, ⟨.int .i64, .sc, 8⟩),
  (60, ⟨.slice (.slice (.slice .str)), .slice 23, 24⟩),
  (65, ⟨.opq, .ptr 73, 8⟩),
  (68, ⟨.slice qT, .slice 77, 24⟩),
  (70, ⟨.slice (.slice qT), .slice 68, 24⟩),
  (71, ⟨.slice (.int .i64), .slice 3, 24⟩),
  (73, ⟨.pair (.slice (.slice qT)) (.pair (.slice (.int .i64)) (.pair (.int .i64) (.int .i64))), .st [70, 71, 3, 3], 64⟩),
  (75, ⟨.slice (.int .u32), .slice 125, 24⟩),
  (77, ⟨qT, .st [4, 75, 75], 56⟩),
  (94, ⟨.slice (.int .i64), .slice 33, 24⟩),
  (99, ⟨.int .u64, .sc, 8⟩),
  (110, ⟨.arr 3 (.int .i64), .ar 3 3, 24⟩),
  (111, ⟨.arr 3 (.arr 3 (.int .i64)), .ar 3 110, 72⟩),
  (125, ⟨.int .u32, .sc, 4⟩),
  (126, ⟨.slice (.int .u8), .slice 5, 24⟩),
  (129, ⟨.arr 9 (.int .u8), .ar 9 5, 9⟩),
  (131, ⟨.int .u64, .sc, 8⟩)]
theorem ok : EOk Tryd.prog { te := te, spec := [], body := [] } := wb6 (by kernel_rfl)
theorem z1f : Tryd.prog.follows .mixedOrders = true := by kernel_rfl
noncomputable def yv6 : Env := { te := te, spec := [], body := [] }
def l_nat_Of_2H : Ann := { slots := [(0, .one (.val (.int .i64))), (3, .one (.own 44 (.int .u32)))], objs := [(44, .buf (.int .u32))] }
def y7u : Ann := { slots := [(3, .one (.own 44 (.int .u32)))], objs := [(44, .buf (.int .u32))] }
def y7t : Ann := { slots := [], objs := [] }
def ze6 : Nat → Int → List Int → Option (LR y7u y7t)
 | 0, _, _ => none
 | m + 1, s0, b44 =>
  if decide (s0 > 0) = true then
  if (b44.length + 1) * 4 ≤ 140737488355328 then
  ze6 m (IntKind.i64.wrap (s0.tdiv 1000000000)) (b44 ++ [IntKind.u32.wrap (s0.tmod 1000000000)])
  else none
  else
  some (.exit (b44, ()))
def l_nat_Of_2L : LSpec := { h := l_nat_Of_2H, x := y7u, r := y7t, xid := 0, rt := false, pins := [], f := fun k d => ze6 k d.1 d.2.1 }
def yf1 : z2g := [([66], [(2, l_nat_Of_2L)])]
def z5t (k : Nat) (a0 : Int) : Option (List Int) :=
 match ze6 k a0 [] with
 | none => none
 | some (.exit d1) =>
  some d1.1
 | some (.ret d1) =>
  none
theorem y7v (m : Nat) (d : dens l_nat_Of_2H.tys) : l_nat_Of_2L.f (m + 1) d = round yv6 yf1 m [66] 15 (z31 (z1h Tryd.f66) 0) l_nat_Of_2L (l_nat_Of_2L.f m) d := by kernel_rfl
def yg1 (k : Nat) : Vm.Spec := { ps := [.int .i64], rs := [.fresh (.int .u32)], f := fun x => z5t k x }
noncomputable def zz2 : Vm.Spec := yg1 fuel
theorem z7y : Vm.Spec.holds Tryd.prog 66 zz2 := z1d (E := yv6) (L := yf1) (fn := Tryd.f66) (Z := yg1) (z26 ok) (z0w (by exact trivial)) z1f (z0e rfl) (z01 rfl) (by kernel_rfl) (by kernel_rfl) (z0r (ls := [(2, l_nat_Of_2L)]) rfl rfl ⟨by kernel_rfl, fun _ => rfl, y7v, z0s (by kernel_rfl)⟩) fun k x => by kernel_rfl
noncomputable def zo8 : Env := { te := te, spec := [], body := [] }
def zl3 : z2g := []
def z4q (k : Nat) (a0 : ByteArray) (a1 : ByteArray) : Option (Bool) :=
 if decide ((a0.size : Int) ≥ (a1.size : Int)) = true then
 if (0 : Int) ≤ (a1.size : Int) then
 if (a1.size : Int) ≤ a0.size then
 some (((a0.extract 0 (a1.size : Int).toNat).toList == a1.toList))
 else none
 else none
 else
 some false
def z8j (k : Nat) : Vm.Spec := { ps := [.str, .str], rs := [.imm .bool], f := fun x => z4q k x.1 x.2 }
noncomputable def z8y : Vm.Spec := z8j fuel
theorem zc8 : Vm.Spec.holds Tryd.prog 88 z8y := z1d (E := zo8) (L := zl3) (fn := Tryd.f88) (Z := z8j) (z26 ok) (z0w (by exact trivial)) z1f (z0e rfl) (z01 rfl) (by kernel_rfl) (by kernel_rfl) (z0v rfl) fun k x => by kernel_rfl
noncomputable def zo7 : Env := { te := te, spec := [(88, z8y)], body := [] }
def zl2 : z2g := []
def z4p (k : Nat) (a0 : ByteArray) (a1 : ByteArray) : Option (ByteArray × Bool) :=
 (z4q fuel a0 a1).bind fun r1 =>
 if (!r1) = true then
 some (a0, false)
 else
 if (0 : Int) ≤ (a1.size : Int) then
 if (a1.size : Int) ≤ a0.size then
 some (a0.extract (a1.size : Int).toNat a0.size, true)
 else none
 else none
def z8i (k : Nat) : Vm.Spec := { ps := [.str, .str], rs := [.imm .str, .imm .bool], f := fun x => z4p k x.1 x.2 }
noncomputable def z8x : Vm.Spec := z8i fuel
theorem zc7 : Vm.Spec.holds Tryd.prog 83 z8x := z1d (E := zo7) (L := zl2) (fn := Tryd.f83) (Z := z8i) (z26 ok) (z0w (by exact ⟨⟨by kernel_rfl, zc8⟩, trivial⟩)) z1f (z0e rfl) (z01 rfl) (by kernel_rfl) (by kernel_rfl) (z0v rfl) fun k x => by kernel_rfl
noncomputable def y1i : Env := { te := te, spec := [(83, z8x)], body := [] }
def y07 : z2g := []
def z2i (k : Nat) (a0 : ByteArray) (a1 : ByteArray) : Option (ByteArray × Bool) :=
 (z4p fuel a0 a1).bind fun r1 =>
 some (r1.1, r1.2)
def zd4 (k : Nat) : Vm.Spec := { ps := [.str, .str], rs := [.imm .str, .imm .bool], f := fun x => z2i k x.1 x.2 }
noncomputable def z87 : Vm.Spec := zd4 fuel
theorem z7z : Vm.Spec.holds Tryd.prog 67 z87 := z1d (E := y1i) (L := y07) (fn := Tryd.f67) (Z := zd4) (z26 ok) (z0w (by exact ⟨⟨by kernel_rfl, zc7⟩, trivial⟩)) z1f (z0e rfl) (z01 rfl) (by kernel_rfl) (by kernel_rfl) (z0v rfl) fun k x => by kernel_rfl
noncomputable def y43 : Env := { te := te, spec := [(89, Vm.sIndex)], body := [] }
def y2l : z2g := []
def z7d (k : Nat) (a0 : ByteArray) (a1 : ByteArray) : Option (ByteArray × ByteArray × Bool) :=
 (Vm.stdIndex a0 a1).bind fun r1 =>
 if decide (r1 ≥ 0) = true then
 if (0 : Int) ≤ r1 then
 if r1 ≤ a0.size then
 if (0 : Int) ≤ IntKind.i64.wrap (r1 + (a1.size : Int)) then
 if IntKind.i64.wrap (r1 + (a1.size : Int)) ≤ a0.size then
 some (a0.extract 0 r1.toNat, a0.extract (IntKind.i64.wrap (r1 + (a1.size : Int))).toNat a0.size, true)
 else none
 else none
 else none
 else none
 else
 some (a0, (⟨#[]⟩ : ByteArray), false)
def zi6 (k : Nat) : Vm.Spec := { ps := [.str, .str], rs := [.imm .str, .imm .str, .imm .bool], f := fun x => z7d k x.1 x.2 }
noncomputable def zl4 : Vm.Spec := zi6 fuel
theorem zq5 : Vm.Spec.holds Tryd.prog 84 zl4 := z1d (E := y43) (L := y2l) (fn := Tryd.f84) (Z := zi6) (z26 ok) (z0w (by exact ⟨⟨by kernel_rfl, w3k⟩, trivial⟩)) z1f (z0e rfl) (z01 rfl) (by kernel_rfl) (by kernel_rfl) (z0v rfl) fun k x => by kernel_rfl
noncomputable def ya1 : Env := { te := te, spec := [(84, zl4)], body := [] }
def y8p : z2g := []
def z5c (k : Nat) (a0 : ByteArray) (a1 : ByteArray) : Option (ByteArray × ByteArray × Bool) :=
 (z7d fuel a0 a1).bind fun r1 =>
 some (r1.1, r1.2.1, r1.2.2)
def y0o (k : Nat) : Vm.Spec := { ps := [.str, .str], rs := [.imm .str, .imm .str, .imm .bool], f := fun x => z5c k x.1 x.2 }
noncomputable def zp6 : Vm.Spec := y0o fuel
theorem zg5 : Vm.Spec.holds Tryd.prog 68 zp6 := z1d (E := ya1) (L := y8p) (fn := Tryd.f68) (Z := y0o) (z26 ok) (z0w (by exact ⟨⟨by kernel_rfl, zq5⟩, trivial⟩)) z1f (z0e rfl) (z01 rfl) (by kernel_rfl) (by kernel_rfl) (z0v rfl) fun k x => by kernel_rfl
noncomputable def zz1 : Env := { te := te, spec := [], body := [(85, Tryd.f85)] }
def l_nat_Read_7H : Ann := { slots := [(5, .one (.val (.int .u32))), (20, .one (.val (.slice (.int .u8)))), (21, .one (.val (.int .i64))), (22, .one (.val (.int .i64)))], objs := [] }
def y3l : Ann := { slots := [(5, .one (.val (.int .u32)))], objs := [] }
def y3k : Ann := { slots := [], objs := [] }
def l_nat_Read_3H : Ann := { slots := [(0, .one (.val .str)), (3, .one (.own 144 (.int .u32))), (4, .one (.val (.int .i64)))], objs := [(144, .buf (.int .u32))] }
def y3j : Ann := { slots := [(3, .one (.own 144 (.int .u32)))], objs := [(144, .buf (.int .u32))] }
def y3i : Ann := { slots := [], objs := [] }
def l_nat_N_trim__nat_Read_1H : Ann := { slots := [(0, .one (.pre 148 (.int .u32)))], objs := [(148, .buf (.int .u32))] }
def z81 : Ann := { slots := [(0, .one (.pre 148 (.int .u32)))], objs := [(148, .buf (.int .u32))] }
def z80 : Ann := { slots := [], objs := [] }
def z8p : Nat → Int → List Int → Int → Int → Option (LR y3l y3k)
 | 0, _, _, _, _ => none
 | m + 1, s5, s20, s21, s22 =>
  if decide (s22 < s21) = true then
  if (0 : Int) ≤ s22 then
  if s22 < s20.length then
  z8p m (IntKind.u32.wrap ((IntKind.u32.wrap (s5 * 10)) + (IntKind.u32.wrap (IntKind.u8.wrap ((s20.getD s22.toNat 0) - 48))))) s20 s21 (IntKind.i64.wrap (s22 + 1))
  else none
  else none
  else
  some (.exit (s5, ()))
def l_nat_Read_7L : LSpec := { h := l_nat_Read_7H, x := y3l, r := y3k, xid := 2, rt := false, pins := [], f := fun k d => z8p k d.1 d.2.1 d.2.2.1 d.2.2.2.1 }
def z8o : Nat → ByteArray → Int → List Int → Option (LR y3j y3i)
 | 0, _, _, _ => none
 | m + 1, s0, s4, b144 =>
  if decide (s4 > 0) = true then
  if (0 : Int) ≤ s4 then
  if s4 ≤ s0.size then
  if (0 : Int) ≤ (if IntKind.i64.wrap (s4 - 9) > 0 then IntKind.i64.wrap (s4 - 9) else 0) then
  if (if IntKind.i64.wrap (s4 - 9) > 0 then IntKind.i64.wrap (s4 - 9) else 0) ≤ s4 then
  match z8p m 0 ((s0.extract (if IntKind.i64.wrap (s4 - 9) > 0 then IntKind.i64.wrap (s4 - 9) else 0).toNat s4.toNat).data.toList.map fun c => (c.toNat : Int)) (((s0.extract (if IntKind.i64.wrap (s4 - 9) > 0 then IntKind.i64.wrap (s4 - 9) else 0).toNat s4.toNat).data.toList.map fun c => (c.toNat : Int)).length : Int) 0 with
  | none => none
  | some (.exit d1) =>
   if (b144.length + 1) * 4 ≤ 140737488355328 then
   z8o m s0 (IntKind.i64.wrap (s4 - 9)) (b144 ++ [d1.1])
   else none
  | some (.ret d1) =>
   none
  else none
  else none
  else none
  else none
  else
  some (.exit (b144, ()))
def l_nat_Read_3L : LSpec := { h := l_nat_Read_3H, x := y3j, r := y3i, xid := 0, rt := false, pins := [], f := fun k d => z8o k d.1 d.2.1 d.2.2.1 }
def z2q : Nat → Nat → List Int → Option (LR z81 z80)
 | 0, _, _ => none
 | m + 1, s0, b148 =>
  if decide ((s0 : Int) > 0) = true then
  if (0 : Int) ≤ IntKind.i64.wrap ((s0 : Int) - 1) then
  if IntKind.i64.wrap ((s0 : Int) - 1) < s0 then
  if (b148.getD ((IntKind.i64.wrap ((s0 : Int) - 1)).toNat) 0 == 0) = true then
  if (0 : Int) ≤ IntKind.i64.wrap ((s0 : Int) - 1) then
  if IntKind.i64.wrap ((s0 : Int) - 1) ≤ s0 then
  z2q m ((IntKind.i64.wrap ((s0 : Int) - 1)).toNat) b148
  else none
  else none
  else
  some (.exit (s0, b148, ()))
  else none
  else none
  else
  some (.exit (s0, b148, ()))
def l_nat_N_trim__nat_Read_1L : LSpec := { h := l_nat_N_trim__nat_Read_1H, x := z81, r := z80, xid := 0, rt := false, pins := [148], f := fun k d => z2q k d.1 d.2.1 }
def zp1 : z2g := [([69], [(3, l_nat_Read_3L), (7, l_nat_Read_7L)]), ([85, 69], [(1, l_nat_N_trim__nat_Read_1L)])]
def z3m (k : Nat) (a0 : ByteArray) : Option (List Int) :=
 match z8o k a0 (a0.size : Int) [] with
 | none => none
 | some (.exit d1) =>
  match z2q k d1.1.length d1.1 with
  | none => none
  | some (.exit d2) =>
   some (d2.2.1.take d2.1)
  | some (.ret d2) =>
   none
 | some (.ret d1) =>
  none
theorem y4o (m : Nat) (d : dens l_nat_Read_7H.tys) : l_nat_Read_7L.f (m + 1) d = round zz1 zp1 m [69] 39 (z31 (z1h Tryd.f69) 1) l_nat_Read_7L (l_nat_Read_7L.f m) d := by kernel_rfl
theorem y4n (m : Nat) (d : dens l_nat_Read_3H.tys) : l_nat_Read_3L.f (m + 1) d = round zz1 zp1 m [69] 39 (z31 (z1h Tryd.f69) 0) l_nat_Read_3L (l_nat_Read_3L.f m) d := by kernel_rfl
theorem zd0 (m : Nat) (d : dens l_nat_N_trim__nat_Read_1H.tys) : l_nat_N_trim__nat_Read_1L.f (m + 1) d = round zz1 zp1 m [85, 69] 21 (z31 (z1h Tryd.f85) 0) l_nat_N_trim__nat_Read_1L (l_nat_N_trim__nat_Read_1L.f m) d := by kernel_rfl
def y6z (k : Nat) : Vm.Spec := { ps := [.str], rs := [.fresh (.int .u32)], f := fun x => z3m k x }
noncomputable def y46 : Vm.Spec := y6z fuel
theorem zs6 : Vm.Spec.holds Tryd.prog 69 y46 := z1d (E := zz1) (L := zp1) (fn := Tryd.f69) (Z := y6z) (z26 ok) (z0w (by exact trivial)) z1f (zf8 (by exact ⟨by kernel_rfl, by kernel_rfl, trivial⟩)) (z5i (by exact ⟨(z32 [[69]] (by exact ⟨z0r (ls := [(1, l_nat_N_trim__nat_Read_1L)]) rfl rfl ⟨by kernel_rfl, fun _ => rfl, zd0, z0s (by kernel_rfl)⟩,  trivial⟩) rfl),  trivial⟩)) (by kernel_rfl) (by kernel_rfl) (z0r (ls := [(3, l_nat_Read_3L), (7, l_nat_Read_7L)]) rfl rfl ⟨by kernel_rfl, fun _ => rfl, y4n, by kernel_rfl, fun _ => rfl, y4o, z0s (by kernel_rfl)⟩) fun k x => by kernel_rfl
noncomputable def y6p : Env := { te := te, spec := [], body := [] }
def l_nat_Check_4H : Ann := { slots := [(18, .one (.val (.slice (.int .u8)))), (19, .one (.val (.int .i64))), (20, .one (.val (.int .i64)))], objs := [] }
def y0y : Ann := { slots := [], objs := [] }
def y0x : Ann := { slots := [(2, .one (.val (.int .i64)))], objs := [] }
def z67 : Nat → List Int → Int → Int → Option (LR y0y y0x)
 | 0, _, _, _ => none
 | m + 1, s18, s19, s20 =>
  if decide (s20 < s19) = true then
  if (0 : Int) ≤ s20 then
  if s20 < s18.length then
  if decide (s18.getD s20.toNat 0 < 48) = false then
  if decide (s18.getD s20.toNat 0 > 57) = true then
  some (.ret (5, ()))
  else
  z67 m s18 s19 (IntKind.i64.wrap (s20 + 1))
  else
  some (.ret (5, ()))
  else none
  else none
  else
  some (.exit ())
def l_nat_Check_4L : LSpec := { h := l_nat_Check_4H, x := y0y, r := y0x, xid := 0, rt := true, pins := [], f := fun k d => z67 k d.1 d.2.1 d.2.2.1 }
def y56 : z2g := [([71], [(4, l_nat_Check_4L)])]
def z62 (k : Nat) (a0 : ByteArray) : Option (Int) :=
 if ((a0.toList == (⟨#[]⟩ : ByteArray).toList)) = false then
 if (0 : Int) < (a0.size : Int) then
 if (((a0.data.getD 0 0).toNat : Int) == 48) = true then
 if decide ((a0.size : Int) > 1) = true then
 some 5
 else
 match z67 k (a0.data.toList.map fun c => (c.toNat : Int)) ((a0.data.toList.map fun c => (c.toNat : Int)).length : Int) 0 with
 | none => none
 | some (.exit d1) =>
  if decide ((a0.size : Int) > 2000) = true then
  some 2
  else
  some 0
 | some (.ret d1) =>
  some d1.1
 else
 match z67 k (a0.data.toList.map fun c => (c.toNat : Int)) ((a0.data.toList.map fun c => (c.toNat : Int)).length : Int) 0 with
 | none => none
 | some (.exit d2) =>
  if decide ((a0.size : Int) > 2000) = true then
  some 2
  else
  some 0
 | some (.ret d2) =>
  some d2.1
 else none
 else
 some 5
theorem y3a (m : Nat) (d : dens l_nat_Check_4H.tys) : l_nat_Check_4L.f (m + 1) d = round y6p y56 m [71] 34 (z31 (z1h Tryd.f71) 0) l_nat_Check_4L (l_nat_Check_4L.f m) d := by kernel_rfl
def y5c (k : Nat) : Vm.Spec := { ps := [.str], rs := [.imm (.int .i64)], f := fun x => z62 k x }
noncomputable def y6w : Vm.Spec := y5c fuel
theorem y4h : Vm.Spec.holds Tryd.prog 71 y6w := z1d (E := y6p) (L := y56) (fn := Tryd.f71) (Z := y5c) (z26 ok) (z0w (by exact trivial)) z1f (z0e rfl) (z01 rfl) (by kernel_rfl) (by kernel_rfl) (z0r (ls := [(4, l_nat_Check_4L)]) rfl rfl ⟨by kernel_rfl, fun _ => rfl, y3a, z0s (by kernel_rfl)⟩) fun k x => by kernel_rfl
noncomputable def y6r : Env := { te := te, spec := [], body := [] }
def l_nat_N_Cmp_6H : Ann := { slots := [(0, .one (.val (.slice (.int .u32)))), (1, .one (.val (.slice (.int .u32)))), (5, .one (.val (.int .i64)))], objs := [] }
def y12 : Ann := { slots := [], objs := [] }
def y11 : Ann := { slots := [(4, .one (.val (.int .i64)))], objs := [] }
def z7f : Nat → List Int → List Int → Int → Option (LR y12 y11)
 | 0, _, _, _ => none
 | m + 1, s0, s1, s5 =>
  if decide (s5 ≥ 0) = true then
  if (0 : Int) ≤ s5 then
  if s5 < s0.length then
  if (0 : Int) ≤ s5 then
  if s5 < s1.length then
  if decide (s0.getD s5.toNat 0 < s1.getD s5.toNat 0) = true then
  some (.ret ((-1), ()))
  else
  if (0 : Int) ≤ s5 then
  if s5 < s0.length then
  if (0 : Int) ≤ s5 then
  if s5 < s1.length then
  if decide (s0.getD s5.toNat 0 > s1.getD s5.toNat 0) = true then
  some (.ret (1, ()))
  else
  z7f m s0 s1 (IntKind.i64.wrap (s5 - 1))
  else none
  else none
  else none
  else none
  else none
  else none
  else none
  else none
  else
  some (.exit ())
def l_nat_N_Cmp_6L : LSpec := { h := l_nat_N_Cmp_6H, x := y12, r := y11, xid := 0, rt := true, pins := [], f := fun k d => z7f k d.1 d.2.1 d.2.2.1 }
def y58 : z2g := [([73], [(6, l_nat_N_Cmp_6L)])]
def z4f (k : Nat) (a0 : List Int) (a1 : List Int) : Option (Int) :=
 if ((a0.length : Int) != (a1.length : Int)) = true then
 if decide ((a0.length : Int) < (a1.length : Int)) = true then
 some (-1)
 else
 some 1
 else
 match z7f k a0 a1 (IntKind.i64.wrap ((a0.length : Int) - 1)) with
 | none => none
 | some (.exit d1) =>
  some 0
 | some (.ret d1) =>
  some d1.1
theorem y3c (m : Nat) (d : dens l_nat_N_Cmp_6H.tys) : l_nat_N_Cmp_6L.f (m + 1) d = round y6r y58 m [73] 43 (z31 (z1h Tryd.f73) 0) l_nat_N_Cmp_6L (l_nat_N_Cmp_6L.f m) d := by kernel_rfl
def y5e (k : Nat) : Vm.Spec := { ps := [.slice (.int .u32), .slice (.int .u32)], rs := [.imm (.int .i64)], f := fun x => z4f k x.1 x.2 }
noncomputable def zf2 : Vm.Spec := y5e fuel
theorem z7a : Vm.Spec.holds Tryd.prog 73 zf2 := z1d (E := y6r) (L := y58) (fn := Tryd.f73) (Z := y5e) (z26 ok) (z0w (by exact trivial)) z1f (z0e rfl) (z01 rfl) (by kernel_rfl) (by kernel_rfl) (z0r (ls := [(6, l_nat_N_Cmp_6L)]) rfl rfl ⟨by kernel_rfl, fun _ => rfl, y3c, z0s (by kernel_rfl)⟩) fun k x => by kernel_rfl
noncomputable def zo6 : Env := { te := te, spec := [], body := [(85, Tryd.f85)] }
def l_nat_N_Mul_7H : Ann := { slots := [(5, .one (.own 68 (.int .u32))), (6, .one (.val (.int .i64))), (7, .one (.val (.int .u32))), (8, .one (.val (.int .u64))), (25, .one (.val (.slice (.int .u32)))), (26, .one (.val (.int .i64))), (27, .one (.val (.int .i64)))], objs := [(68, .buf (.int .u32))] }
def y1a : Ann := { slots := [(5, .one (.own 68 (.int .u32))), (8, .one (.val (.int .u64)))], objs := [(68, .buf (.int .u32))] }
def y19 : Ann := { slots := [], objs := [] }
def l_nat_N_Mul_3H : Ann := { slots := [(1, .one (.val (.slice (.int .u32)))), (5, .one (.own 68 (.int .u32))), (18, .one (.val (.slice (.int .u32)))), (19, .one (.val (.int .i64))), (20, .one (.val (.int .i64)))], objs := [(68, .buf (.int .u32))] }
def y18 : Ann := { slots := [(5, .one (.own 68 (.int .u32)))], objs := [(68, .buf (.int .u32))] }
def y17 : Ann := { slots := [], objs := [] }
def l_nat_N_trim__nat_N_Mul_1H : Ann := { slots := [(0, .one (.pre 68 (.int .u32)))], objs := [(68, .buf (.int .u32))] }
def z7p : Ann := { slots := [(0, .one (.pre 68 (.int .u32)))], objs := [(68, .buf (.int .u32))] }
def z7o : Ann := { slots := [], objs := [] }
def z7i : Nat → Int → Int → Int → List Int → Int → Int → List Int → Option (LR y1a y19)
 | 0, _, _, _, _, _, _, _ => none
 | m + 1, s6, s7, s8, s25, s26, s27, b68 =>
  if decide (s27 < s26) = true then
  if (0 : Int) ≤ s27 then
  if s27 < s25.length then
  if (0 : Int) ≤ IntKind.i64.wrap (s6 + s27) then
  if IntKind.i64.wrap (s6 + s27) < b68.length then
  if (0 : Int) ≤ IntKind.i64.wrap (s6 + s27) then
  if IntKind.i64.wrap (s6 + s27) < b68.length then
  z7i m s6 s7 (IntKind.u64.wrap ((IntKind.u64.wrap ((IntKind.u64.wrap ((IntKind.u64.wrap ((IntKind.u64.wrap (s7)) * (IntKind.u64.wrap (s25.getD s27.toNat 0)))) + (IntKind.u64.wrap (b68.getD ((IntKind.i64.wrap (s6 + s27)).toNat) 0)))) + s8)).tdiv 1000000000)) s25 s26 (IntKind.i64.wrap (s27 + 1)) (b68.set ((IntKind.i64.wrap (s6 + s27)).toNat) (IntKind.u32.wrap ((IntKind.u64.wrap ((IntKind.u64.wrap ((IntKind.u64.wrap ((IntKind.u64.wrap (s7)) * (IntKind.u64.wrap (s25.getD s27.toNat 0)))) + (IntKind.u64.wrap (b68.getD ((IntKind.i64.wrap (s6 + s27)).toNat) 0)))) + s8)).tmod 1000000000)))
  else none
  else none
  else none
  else none
  else none
  else none
  else
  some (.exit (s8, b68, ()))
def l_nat_N_Mul_7L : LSpec := { h := l_nat_N_Mul_7H, x := y1a, r := y19, xid := 2, rt := false, pins := [68], f := fun k d => z7i k d.1 d.2.1 d.2.2.1 d.2.2.2.1 d.2.2.2.2.1 d.2.2.2.2.2.1 d.2.2.2.2.2.2.1 }
def z7h : Nat → List Int → List Int → Int → Int → List Int → Option (LR y18 y17)
 | 0, _, _, _, _, _ => none
 | m + 1, s1, s18, s19, s20, b68 =>
  if decide (s20 < s19) = true then
  if (0 : Int) ≤ s20 then
  if s20 < s18.length then
  match z7i m s20 (s18.getD s20.toNat 0) 0 s1 (s1.length : Int) 0 b68 with
  | none => none
  | some (.exit d1) =>
   if (0 : Int) ≤ IntKind.i64.wrap (s20 + (s1.length : Int)) then
   if IntKind.i64.wrap (s20 + (s1.length : Int)) < d1.2.1.length then
   z7h m s1 s18 s19 (IntKind.i64.wrap (s20 + 1)) (d1.2.1.set ((IntKind.i64.wrap (s20 + (s1.length : Int))).toNat) (IntKind.u32.wrap (d1.1)))
   else none
   else none
  | some (.ret d1) =>
   none
  else none
  else none
  else
  some (.exit (b68, ()))
def l_nat_N_Mul_3L : LSpec := { h := l_nat_N_Mul_3H, x := y18, r := y17, xid := 0, rt := false, pins := [68], f := fun k d => z7h k d.1 d.2.1 d.2.2.1 d.2.2.2.1 d.2.2.2.2.1 }
def z2n : Nat → Nat → List Int → Option (LR z7p z7o)
 | 0, _, _ => none
 | m + 1, s0, b68 =>
  if decide ((s0 : Int) > 0) = true then
  if (0 : Int) ≤ IntKind.i64.wrap ((s0 : Int) - 1) then
  if IntKind.i64.wrap ((s0 : Int) - 1) < s0 then
  if (b68.getD ((IntKind.i64.wrap ((s0 : Int) - 1)).toNat) 0 == 0) = true then
  if (0 : Int) ≤ IntKind.i64.wrap ((s0 : Int) - 1) then
  if IntKind.i64.wrap ((s0 : Int) - 1) ≤ s0 then
  z2n m ((IntKind.i64.wrap ((s0 : Int) - 1)).toNat) b68
  else none
  else none
  else
  some (.exit (s0, b68, ()))
  else none
  else none
  else
  some (.exit (s0, b68, ()))
def l_nat_N_trim__nat_N_Mul_1L : LSpec := { h := l_nat_N_trim__nat_N_Mul_1H, x := z7p, r := z7o, xid := 0, rt := false, pins := [68], f := fun k d => z2n k d.1 d.2.1 }
def zi1 : z2g := [([77], [(3, l_nat_N_Mul_3L), (7, l_nat_N_Mul_7L)]), ([85, 77], [(1, l_nat_N_trim__nat_N_Mul_1L)])]
def z4g (k : Nat) (a0 : List Int) (a1 : List Int) : Option (List Int) :=
 if (0 : Int) ≤ IntKind.i64.wrap ((a0.length : Int) + (a1.length : Int)) then
 if IntKind.i64.wrap ((a0.length : Int) + (a1.length : Int)) ≤ IntKind.i64.wrap ((a0.length : Int) + (a1.length : Int)) then
 if (IntKind.i64.wrap ((a0.length : Int) + (a1.length : Int))) * 4 ≤ 281474976710656 then
 match z7h k a1 a0 (a0.length : Int) 0 (List.replicate ((IntKind.i64.wrap ((a0.length : Int) + (a1.length : Int))).toNat) 0) with
 | none => none
 | some (.exit d1) =>
  match z2n k d1.1.length d1.1 with
  | none => none
  | some (.exit d2) =>
   some (d2.2.1.take d2.1)
  | some (.ret d2) =>
   none
 | some (.ret d1) =>
  none
 else none
 else none
 else none
theorem y3g (m : Nat) (d : dens l_nat_N_Mul_7H.tys) : l_nat_N_Mul_7L.f (m + 1) d = round zo6 zi1 m [77] 69 (z31 (z1h Tryd.f77) 1) l_nat_N_Mul_7L (l_nat_N_Mul_7L.f m) d := by kernel_rfl
theorem y3f (m : Nat) (d : dens l_nat_N_Mul_3H.tys) : l_nat_N_Mul_3L.f (m + 1) d = round zo6 zi1 m [77] 69 (z31 (z1h Tryd.f77) 0) l_nat_N_Mul_3L (l_nat_N_Mul_3L.f m) d := by kernel_rfl
theorem zb3 (m : Nat) (d : dens l_nat_N_trim__nat_N_Mul_1H.tys) : l_nat_N_trim__nat_N_Mul_1L.f (m + 1) d = round zo6 zi1 m [85, 77] 21 (z31 (z1h Tryd.f85) 0) l_nat_N_trim__nat_N_Mul_1L (l_nat_N_trim__nat_N_Mul_1L.f m) d := by kernel_rfl
def y5h (k : Nat) : Vm.Spec := { ps := [.slice (.int .u32), .slice (.int .u32)], rs := [.fresh (.int .u32)], f := fun x => z4g k x.1 x.2 }
noncomputable def zf3 : Vm.Spec := y5h fuel
theorem z7b : Vm.Spec.holds Tryd.prog 77 zf3 := z1d (E := zo6) (L := zi1) (fn := Tryd.f77) (Z := y5h) (z26 ok) (z0w (by exact trivial)) z1f (zf8 (by exact ⟨by kernel_rfl, by kernel_rfl, trivial⟩)) (z5i (by exact ⟨(z32 [[77]] (by exact ⟨z0r (ls := [(1, l_nat_N_trim__nat_N_Mul_1L)]) rfl rfl ⟨by kernel_rfl, fun _ => rfl, zb3, z0s (by kernel_rfl)⟩,  trivial⟩) rfl),  trivial⟩)) (by kernel_rfl) (by kernel_rfl) (z0r (ls := [(3, l_nat_N_Mul_3L), (7, l_nat_N_Mul_7L)]) rfl rfl ⟨by kernel_rfl, fun _ => rfl, y3f, by kernel_rfl, fun _ => rfl, y3g, z0s (by kernel_rfl)⟩) fun k x => by kernel_rfl
noncomputable def y1h : Env := { te := te, spec := [], body := [(85, Tryd.f85)] }
def l_nat_N_Sub_4H : Ann := { slots := [(0, .one (.val (.slice (.int .u32)))), (1, .one (.val (.slice (.int .u32)))), (5, .one (.own 44 (.int .u32))), (6, .one (.val (.int .i64))), (13, .one (.val (.int .i64))), (14, .one (.val (.int .i64)))], objs := [(44, .buf (.int .u32))] }
def y1c : Ann := { slots := [(5, .one (.own 44 (.int .u32)))], objs := [(44, .buf (.int .u32))] }
def y1b : Ann := { slots := [], objs := [] }
def l_nat_N_trim__nat_N_Sub_1H : Ann := { slots := [(0, .one (.pre 44 (.int .u32)))], objs := [(44, .buf (.int .u32))] }
def z7r : Ann := { slots := [(0, .one (.pre 44 (.int .u32)))], objs := [(44, .buf (.int .u32))] }
def z7q : Ann := { slots := [], objs := [] }
def z3z : Nat → List Int → List Int → Int → Int → Int → List Int → Option (LR y1c y1b)
 | 0, _, _, _, _, _, _ => none
 | m + 1, s0, s1, s6, s13, s14, b44 =>
  if decide (s14 < s13) = true then
  if (0 : Int) ≤ s14 then
  if s14 < s0.length then
  if decide (s14 < (s1.length : Int)) = true then
  if (0 : Int) ≤ s14 then
  if s14 < s1.length then
  if decide (IntKind.i64.wrap ((IntKind.i64.wrap ((IntKind.i64.wrap (s0.getD s14.toNat 0)) - s6)) - (IntKind.i64.wrap (s1.getD s14.toNat 0))) < 0) = true then
  if (0 : Int) ≤ s14 then
  if s14 < b44.length then
  z3z m s0 s1 1 s13 (IntKind.i64.wrap (s14 + 1)) (b44.set s14.toNat (IntKind.u32.wrap (IntKind.i64.wrap ((IntKind.i64.wrap ((IntKind.i64.wrap ((IntKind.i64.wrap (s0.getD s14.toNat 0)) - s6)) - (IntKind.i64.wrap (s1.getD s14.toNat 0)))) + 1000000000))))
  else none
  else none
  else
  if (0 : Int) ≤ s14 then
  if s14 < b44.length then
  z3z m s0 s1 0 s13 (IntKind.i64.wrap (s14 + 1)) (b44.set s14.toNat (IntKind.u32.wrap (IntKind.i64.wrap ((IntKind.i64.wrap ((IntKind.i64.wrap (s0.getD s14.toNat 0)) - s6)) - (IntKind.i64.wrap (s1.getD s14.toNat 0))))))
  else none
  else none
  else none
  else none
  else
  if decide (IntKind.i64.wrap ((IntKind.i64.wrap (s0.getD s14.toNat 0)) - s6) < 0) = true then
  if (0 : Int) ≤ s14 then
  if s14 < b44.length then
  z3z m s0 s1 1 s13 (IntKind.i64.wrap (s14 + 1)) (b44.set s14.toNat (IntKind.u32.wrap (IntKind.i64.wrap ((IntKind.i64.wrap ((IntKind.i64.wrap (s0.getD s14.toNat 0)) - s6)) + 1000000000))))
  else none
  else none
  else
  if (0 : Int) ≤ s14 then
  if s14 < b44.length then
  z3z m s0 s1 0 s13 (IntKind.i64.wrap (s14 + 1)) (b44.set s14.toNat (IntKind.u32.wrap (IntKind.i64.wrap ((IntKind.i64.wrap (s0.getD s14.toNat 0)) - s6))))
  else none
  else none
  else none
  else none
  else
  some (.exit (b44, ()))
def l_nat_N_Sub_4L : LSpec := { h := l_nat_N_Sub_4H, x := y1c, r := y1b, xid := 0, rt := false, pins := [44], f := fun k d => z3z k d.1 d.2.1 d.2.2.1 d.2.2.2.1 d.2.2.2.2.1 d.2.2.2.2.2.1 }
def z2o : Nat → Nat → List Int → Option (LR z7r z7q)
 | 0, _, _ => none
 | m + 1, s0, b44 =>
  if decide ((s0 : Int) > 0) = true then
  if (0 : Int) ≤ IntKind.i64.wrap ((s0 : Int) - 1) then
  if IntKind.i64.wrap ((s0 : Int) - 1) < s0 then
  if (b44.getD ((IntKind.i64.wrap ((s0 : Int) - 1)).toNat) 0 == 0) = true then
  if (0 : Int) ≤ IntKind.i64.wrap ((s0 : Int) - 1) then
  if IntKind.i64.wrap ((s0 : Int) - 1) ≤ s0 then
  z2o m ((IntKind.i64.wrap ((s0 : Int) - 1)).toNat) b44
  else none
  else none
  else
  some (.exit (s0, b44, ()))
  else none
  else none
  else
  some (.exit (s0, b44, ()))
def l_nat_N_trim__nat_N_Sub_1L : LSpec := { h := l_nat_N_trim__nat_N_Sub_1H, x := z7r, r := z7q, xid := 0, rt := false, pins := [44], f := fun k d => z2o k d.1 d.2.1 }
def zu8 : z2g := [([80], [(4, l_nat_N_Sub_4L)]), ([85, 80], [(1, l_nat_N_trim__nat_N_Sub_1L)])]
def zg3 (k : Nat) (a0 : List Int) (a1 : List Int) : Option (List Int) :=
 if (0 : Int) ≤ (a0.length : Int) then
 if (a0.length : Int) ≤ (a0.length : Int) then
 if (a0.length : Int) * 4 ≤ 281474976710656 then
 match z3z k a0 a1 0 (a0.length : Int) 0 (List.replicate ((a0.length : Int).toNat) 0) with
 | none => none
 | some (.exit d1) =>
  match z2o k d1.1.length d1.1 with
  | none => none
  | some (.exit d2) =>
   some (d2.2.1.take d2.1)
  | some (.ret d2) =>
   none
 | some (.ret d1) =>
  none
 else none
 else none
 else none
theorem y3h (m : Nat) (d : dens l_nat_N_Sub_4H.tys) : l_nat_N_Sub_4L.f (m + 1) d = round y1h zu8 m [80] 47 (z31 (z1h Tryd.f80) 0) l_nat_N_Sub_4L (l_nat_N_Sub_4L.f m) d := by kernel_rfl
theorem zb4 (m : Nat) (d : dens l_nat_N_trim__nat_N_Sub_1H.tys) : l_nat_N_trim__nat_N_Sub_1L.f (m + 1) d = round y1h zu8 m [85, 80] 21 (z31 (z1h Tryd.f85) 0) l_nat_N_trim__nat_N_Sub_1L (l_nat_N_trim__nat_N_Sub_1L.f m) d := by kernel_rfl
def y5i (k : Nat) : Vm.Spec := { ps := [.slice (.int .u32), .slice (.int .u32)], rs := [.fresh (.int .u32)], f := fun x => zg3 k x.1 x.2 }
noncomputable def y6y : Vm.Spec := y5i fuel
theorem y4j : Vm.Spec.holds Tryd.prog 80 y6y := z1d (E := y1h) (L := zu8) (fn := Tryd.f80) (Z := y5i) (z26 ok) (z0w (by exact trivial)) z1f (zf8 (by exact ⟨by kernel_rfl, by kernel_rfl, trivial⟩)) (z5i (by exact ⟨(z32 [[80]] (by exact ⟨z0r (ls := [(1, l_nat_N_trim__nat_N_Sub_1L)]) rfl rfl ⟨by kernel_rfl, fun _ => rfl, zb4, z0s (by kernel_rfl)⟩,  trivial⟩) rfl),  trivial⟩)) (by kernel_rfl) (by kernel_rfl) (z0r (ls := [(4, l_nat_N_Sub_4L)]) rfl rfl ⟨by kernel_rfl, fun _ => rfl, y3h, z0s (by kernel_rfl)⟩) fun k x => by kernel_rfl
noncomputable def y54 : Env := { te := te, spec := [], body := [] }
def l_nat_N_trim_1H : Ann := { slots := [(0, .one (.val (.slice (.int .u32))))], objs := [] }
def zx7 : Ann := { slots := [(0, .one (.val (.slice (.int .u32))))], objs := [] }
def zx6 : Ann := { slots := [], objs := [] }
def z6g : Nat → List Int → Option (LR zx7 zx6)
 | 0, _ => none
 | m + 1, s0 =>
  if decide ((s0.length : Int) > 0) = true then
  if (0 : Int) ≤ IntKind.i64.wrap ((s0.length : Int) - 1) then
  if IntKind.i64.wrap ((s0.length : Int) - 1) < s0.length then
  if (s0.getD ((IntKind.i64.wrap ((s0.length : Int) - 1)).toNat) 0 == 0) = true then
  if (0 : Int) ≤ IntKind.i64.wrap ((s0.length : Int) - 1) then
  if IntKind.i64.wrap ((s0.length : Int) - 1) ≤ s0.length then
  z6g m ((s0.take (IntKind.i64.wrap ((s0.length : Int) - 1)).toNat).drop 0)
  else none
  else none
  else
  some (.exit (s0, ()))
  else none
  else none
  else
  some (.exit (s0, ()))
def l_nat_N_trim_1L : LSpec := { h := l_nat_N_trim_1H, x := zx7, r := zx6, xid := 0, rt := false, pins := [], f := fun k d => z6g k d.1 }
def y2k : z2g := [([85], [(1, l_nat_N_trim_1L)])]
def z6u (k : Nat) (a0 : List Int) : Option (List Int) :=
 match z6g k a0 with
 | none => none
 | some (.exit d1) =>
  some d1.1
 | some (.ret d1) =>
  none
theorem y23 (m : Nat) (d : dens l_nat_N_trim_1H.tys) : l_nat_N_trim_1L.f (m + 1) d = round y54 y2k m [85] 21 (z31 (z1h Tryd.f85) 0) l_nat_N_trim_1L (l_nat_N_trim_1L.f m) d := by kernel_rfl
def y2s (k : Nat) : Vm.Spec := { ps := [.slice (.int .u32)], rs := [.imm (.slice (.int .u32))], f := fun x => z6u k x }
noncomputable def zv2 : Vm.Spec := y2s fuel
theorem zi8 : Vm.Spec.holds Tryd.prog 85 zv2 := z1d (E := y54) (L := y2k) (fn := Tryd.f85) (Z := y2s) (z26 ok) (z0w (by exact trivial)) z1f (z0e rfl) (z01 rfl) (by kernel_rfl) (by kernel_rfl) (z0r (ls := [(1, l_nat_N_trim_1L)]) rfl rfl ⟨by kernel_rfl, fun _ => rfl, y23, z0s (by kernel_rfl)⟩) fun k x => by kernel_rfl
noncomputable def y2f : Env := { te := te, spec := [(85, zv2)], body := [] }
def l_nat_N_short_4H : Ann := { slots := [(0, .one (.val (.slice (.int .u32)))), (1, .one (.val (.int .u32))), (6, .one (.own 44 (.int .u32))), (7, .one (.val (.int .u64))), (8, .one (.val (.int .i64)))], objs := [(44, .buf (.int .u32))] }
def zt2 : Ann := { slots := [(6, .one (.own 44 (.int .u32))), (7, .one (.val (.int .u64)))], objs := [(44, .buf (.int .u32))] }
def zt1 : Ann := { slots := [], objs := [] }
def z53 : Nat → List Int → Int → Int → Int → List Int → Option (LR zt2 zt1)
 | 0, _, _, _, _, _ => none
 | m + 1, s0, s1, s7, s8, b44 =>
  if decide (s8 ≥ 0) = true then
  if (0 : Int) ≤ s8 then
  if s8 < s0.length then
  if IntKind.u64.wrap (s1) = 0 then
  none
  else
  if (0 : Int) ≤ s8 then
  if s8 < b44.length then
  if IntKind.u64.wrap (s1) = 0 then
  none
  else
  z53 m s0 s1 ((IntKind.u64.wrap ((IntKind.u64.wrap (s7 * 1000000000)) + (IntKind.u64.wrap (s0.getD s8.toNat 0)))).tmod (IntKind.u64.wrap (s1))) (IntKind.i64.wrap (s8 - 1)) (b44.set s8.toNat (IntKind.u32.wrap (IntKind.u64.wrap ((IntKind.u64.wrap ((IntKind.u64.wrap (s7 * 1000000000)) + (IntKind.u64.wrap (s0.getD s8.toNat 0)))).tdiv (IntKind.u64.wrap (s1))))))
  else none
  else none
  else none
  else none
  else
  some (.exit (s7, b44, ()))
def l_nat_N_short_4L : LSpec := { h := l_nat_N_short_4H, x := zt2, r := zt1, xid := 0, rt := false, pins := [44], f := fun k d => z53 k d.1 d.2.1 d.2.2.1 d.2.2.2.1 d.2.2.2.2.1 }
def y0h : z2g := [([90], [(4, l_nat_N_short_4L)])]
def z94 (k : Nat) (a0 : List Int) (a1 : Int) : Option ((List Int) × (List Int)) :=
 if (0 : Int) ≤ (a0.length : Int) then
 if (a0.length : Int) ≤ (a0.length : Int) then
 if (a0.length : Int) * 4 ≤ 281474976710656 then
 match z53 k a0 a1 0 (IntKind.i64.wrap ((a0.length : Int) - 1)) (List.replicate ((a0.length : Int).toNat) 0) with
 | none => none
 | some (.exit d1) =>
  (z6u fuel d1.2.1).bind fun r2 =>
  (z6u fuel [IntKind.u32.wrap (d1.1)]).bind fun r3 =>
  some (r2, r3)
 | some (.ret d1) =>
  none
 else none
 else none
 else none
theorem y0e (m : Nat) (d : dens l_nat_N_short_4H.tys) : l_nat_N_short_4L.f (m + 1) d = round y2f y0h m [90] 45 (z31 (z1h Tryd.f90) 0) l_nat_N_short_4L (l_nat_N_short_4L.f m) d := by kernel_rfl
def y0m (k : Nat) : Vm.Spec := { ps := [.slice (.int .u32), .int .u32], rs := [.imm (.slice (.int .u32)), .imm (.slice (.int .u32))], f := fun x => z94 k x.1 x.2 }
noncomputable def y2n : Vm.Spec := y0m fuel
theorem y1v : Vm.Spec.holds Tryd.prog 90 y2n := z1d (E := y2f) (L := y0h) (fn := Tryd.f90) (Z := y0m) (z26 ok) (z0w (by exact ⟨⟨by kernel_rfl, zi8⟩, trivial⟩)) z1f (z0e rfl) (z01 rfl) (by kernel_rfl) (by kernel_rfl) (z0r (ls := [(4, l_nat_N_short_4L)]) rfl rfl ⟨by kernel_rfl, fun _ => rfl, y0e, z0s (by kernel_rfl)⟩) fun k x => by kernel_rfl
noncomputable def z9g : Env := { te := te, spec := [(73, zf2), (77, zf3), (85, zv2), (90, y2n)], body := [(91, Tryd.f91), (92, Tryd.f92)] }
def l_nat_N_Div_7H : Ann := { slots := [(0, .one (.val (.slice (.int .u32)))), (7, .one (.own 188 (.int .u32)))], objs := [(188, .buf (.int .u32))] }
def y14 : Ann := { slots := [(7, .one (.own 188 (.int .u32)))], objs := [(188, .buf (.int .u32))] }
def y13 : Ann := { slots := [], objs := [] }
def l_nat_N_Div_16H : Ann := { slots := [(7, .one (.own 188 (.int .u32))), (8, .one (.own 204 (.int .u32))), (9, .one (.val (.int .i64))), (11, .one (.val (.int .i64))), (13, .one (.val (.int .u64))), (14, .one (.val (.int .u64)))], objs := [(188, .buf (.int .u32)), (204, .buf (.int .u32))] }
def zg8 : Ann := { slots := [(7, .one (.own 188 (.int .u32))), (8, .one (.own 204 (.int .u32))), (13, .one (.val (.int .u64)))], objs := [(188, .buf (.int .u32)), (204, .buf (.int .u32))] }
def zg7 : Ann := { slots := [], objs := [] }
def l_nat_N_minus__nat_N_Div_4H : Ann := { slots := [(0, .one (.own 188 (.int .u32))), (1, .one (.own 204 (.int .u32))), (2, .one (.val (.int .i64))), (3, .one (.val (.int .u64))), (9, .one (.val (.int .i64))), (10, .one (.val (.int .u64))), (11, .one (.val (.int .i64)))], objs := [(188, .buf (.int .u32)), (204, .buf (.int .u32))] }
def z72 : Ann := { slots := [(9, .one (.val (.int .i64)))], objs := [(188, .buf (.int .u32)), (204, .buf (.int .u32))] }
def z71 : Ann := { slots := [], objs := [] }
def l_nat_N_plus__nat_N_Div_2H : Ann := { slots := [(0, .one (.own 188 (.int .u32))), (1, .one (.own 204 (.int .u32))), (2, .one (.val (.int .i64))), (6, .one (.val (.int .u32))), (7, .one (.val (.int .i64)))], objs := [(188, .buf (.int .u32)), (204, .buf (.int .u32))] }
def z7n : Ann := { slots := [], objs := [(188, .buf (.int .u32)), (204, .buf (.int .u32))] }
def z7m : Ann := { slots := [], objs := [] }
def l_nat_N_Div_12H : Ann := { slots := [(7, .one (.own 188 (.int .u32))), (8, .one (.own 204 (.int .u32))), (9, .one (.val (.int .i64))), (10, .one (.own 264 (.int .u32))), (11, .one (.val (.int .i64)))], objs := [(188, .buf (.int .u32)), (204, .buf (.int .u32)), (264, .buf (.int .u32))] }
def zx3 : Ann := { slots := [(7, .one (.own 188 (.int .u32))), (10, .one (.own 264 (.int .u32)))], objs := [(188, .buf (.int .u32)), (264, .buf (.int .u32)), (204, .buf (.int .u32))] }
def zx2 : Ann := { slots := [], objs := [] }
def z97 : Nat → List Int → List Int → Option (LR y14 y13)
 | 0, _, _ => none
 | m + 1, s0, b188 =>
  if decide ((b188.length : Int) ≤ (s0.length : Int)) = true then
  if (b188.length + 1) * 4 ≤ 140737488355328 then
  z97 m s0 (b188 ++ [0])
  else none
  else
  some (.exit (b188, ()))
def l_nat_N_Div_7L : LSpec := { h := l_nat_N_Div_7H, x := y14, r := y13, xid := 0, rt := false, pins := [], f := fun k d => z97 k d.1 d.2.1 }
def z5n : Nat → Int → Int → Int → Int → List Int → List Int → Option (LR zg8 zg7)
 | 0, _, _, _, _, _, _ => none
 | m + 1, s9, s11, s13, s14, b188, b204 =>
  if decide (s13 ≥ 1000000000) = false then
  if (0 : Int) ≤ IntKind.i64.wrap (s9 - 2) then
  if IntKind.i64.wrap (s9 - 2) < b204.length then
  if (0 : Int) ≤ IntKind.i64.wrap ((IntKind.i64.wrap (s11 + s9)) - 2) then
  if IntKind.i64.wrap ((IntKind.i64.wrap (s11 + s9)) - 2) < b188.length then
  if decide (IntKind.u64.wrap (s13 * (IntKind.u64.wrap (b204.getD ((IntKind.i64.wrap (s9 - 2)).toNat) 0))) > IntKind.u64.wrap ((IntKind.u64.wrap (s14 * 1000000000)) + (IntKind.u64.wrap (b188.getD ((IntKind.i64.wrap ((IntKind.i64.wrap (s11 + s9)) - 2)).toNat) 0)))) = true then
  if (0 : Int) ≤ IntKind.i64.wrap (s9 - 1) then
  if IntKind.i64.wrap (s9 - 1) < b204.length then
  if decide (IntKind.u64.wrap (s14 + (IntKind.u64.wrap (b204.getD ((IntKind.i64.wrap (s9 - 1)).toNat) 0))) ≥ 1000000000) = true then
  some (.exit (IntKind.u64.wrap (s13 - 1), b188, b204, ()))
  else
  z5n m s9 s11 (IntKind.u64.wrap (s13 - 1)) (IntKind.u64.wrap (s14 + (IntKind.u64.wrap (b204.getD ((IntKind.i64.wrap (s9 - 1)).toNat) 0)))) b188 b204
  else none
  else none
  else
  some (.exit (s13, b188, b204, ()))
  else none
  else none
  else none
  else none
  else
  if (0 : Int) ≤ IntKind.i64.wrap (s9 - 1) then
  if IntKind.i64.wrap (s9 - 1) < b204.length then
  if decide (IntKind.u64.wrap (s14 + (IntKind.u64.wrap (b204.getD ((IntKind.i64.wrap (s9 - 1)).toNat) 0))) ≥ 1000000000) = true then
  some (.exit (IntKind.u64.wrap (s13 - 1), b188, b204, ()))
  else
  z5n m s9 s11 (IntKind.u64.wrap (s13 - 1)) (IntKind.u64.wrap (s14 + (IntKind.u64.wrap (b204.getD ((IntKind.i64.wrap (s9 - 1)).toNat) 0)))) b188 b204
  else none
  else none
def l_nat_N_Div_16L : LSpec := { h := l_nat_N_Div_16H, x := zg8, r := zg7, xid := 4, rt := false, pins := [188, 204], f := fun k d => z5n k d.1 d.2.1 d.2.2.1 d.2.2.2.1 d.2.2.2.2.1 d.2.2.2.2.2.1 }
def z11 : Nat → Int → Int → Int → Int → Int → List Int → List Int → Option (LR z72 z71)
 | 0, _, _, _, _, _, _, _ => none
 | m + 1, s2, s3, s9, s10, s11, b188, b204 =>
  if decide (s11 ≤ (b204.length : Int)) = true then
  if decide (s11 < (b204.length : Int)) = true then
  if (0 : Int) ≤ s11 then
  if s11 < b204.length then
  if (0 : Int) ≤ IntKind.i64.wrap (s2 + s11) then
  if IntKind.i64.wrap (s2 + s11) < b188.length then
  if decide (IntKind.i64.wrap ((IntKind.i64.wrap ((IntKind.i64.wrap (b188.getD ((IntKind.i64.wrap (s2 + s11)).toNat) 0)) - (IntKind.i64.wrap ((IntKind.u64.wrap (s10 + (IntKind.u64.wrap (s3 * (IntKind.u64.wrap (b204.getD s11.toNat 0)))))).tmod 1000000000)))) - s9) < 0) = true then
  if (0 : Int) ≤ IntKind.i64.wrap (s2 + s11) then
  if IntKind.i64.wrap (s2 + s11) < b188.length then
  z11 m s2 s3 1 (IntKind.u64.wrap ((IntKind.u64.wrap (s10 + (IntKind.u64.wrap (s3 * (IntKind.u64.wrap (b204.getD s11.toNat 0)))))).tdiv 1000000000)) (IntKind.i64.wrap (s11 + 1)) (b188.set ((IntKind.i64.wrap (s2 + s11)).toNat) (IntKind.u32.wrap (IntKind.i64.wrap ((IntKind.i64.wrap ((IntKind.i64.wrap ((IntKind.i64.wrap (b188.getD ((IntKind.i64.wrap (s2 + s11)).toNat) 0)) - (IntKind.i64.wrap ((IntKind.u64.wrap (s10 + (IntKind.u64.wrap (s3 * (IntKind.u64.wrap (b204.getD s11.toNat 0)))))).tmod 1000000000)))) - s9)) + 1000000000)))) b204
  else none
  else none
  else
  if (0 : Int) ≤ IntKind.i64.wrap (s2 + s11) then
  if IntKind.i64.wrap (s2 + s11) < b188.length then
  z11 m s2 s3 0 (IntKind.u64.wrap ((IntKind.u64.wrap (s10 + (IntKind.u64.wrap (s3 * (IntKind.u64.wrap (b204.getD s11.toNat 0)))))).tdiv 1000000000)) (IntKind.i64.wrap (s11 + 1)) (b188.set ((IntKind.i64.wrap (s2 + s11)).toNat) (IntKind.u32.wrap (IntKind.i64.wrap ((IntKind.i64.wrap ((IntKind.i64.wrap (b188.getD ((IntKind.i64.wrap (s2 + s11)).toNat) 0)) - (IntKind.i64.wrap ((IntKind.u64.wrap (s10 + (IntKind.u64.wrap (s3 * (IntKind.u64.wrap (b204.getD s11.toNat 0)))))).tmod 1000000000)))) - s9)))) b204
  else none
  else none
  else none
  else none
  else none
  else none
  else
  if (0 : Int) ≤ IntKind.i64.wrap (s2 + s11) then
  if IntKind.i64.wrap (s2 + s11) < b188.length then
  if decide (IntKind.i64.wrap ((IntKind.i64.wrap ((IntKind.i64.wrap (b188.getD ((IntKind.i64.wrap (s2 + s11)).toNat) 0)) - (IntKind.i64.wrap (s10.tmod 1000000000)))) - s9) < 0) = true then
  if (0 : Int) ≤ IntKind.i64.wrap (s2 + s11) then
  if IntKind.i64.wrap (s2 + s11) < b188.length then
  z11 m s2 s3 1 (IntKind.u64.wrap (s10.tdiv 1000000000)) (IntKind.i64.wrap (s11 + 1)) (b188.set ((IntKind.i64.wrap (s2 + s11)).toNat) (IntKind.u32.wrap (IntKind.i64.wrap ((IntKind.i64.wrap ((IntKind.i64.wrap ((IntKind.i64.wrap (b188.getD ((IntKind.i64.wrap (s2 + s11)).toNat) 0)) - (IntKind.i64.wrap (s10.tmod 1000000000)))) - s9)) + 1000000000)))) b204
  else none
  else none
  else
  if (0 : Int) ≤ IntKind.i64.wrap (s2 + s11) then
  if IntKind.i64.wrap (s2 + s11) < b188.length then
  z11 m s2 s3 0 (IntKind.u64.wrap (s10.tdiv 1000000000)) (IntKind.i64.wrap (s11 + 1)) (b188.set ((IntKind.i64.wrap (s2 + s11)).toNat) (IntKind.u32.wrap (IntKind.i64.wrap ((IntKind.i64.wrap ((IntKind.i64.wrap (b188.getD ((IntKind.i64.wrap (s2 + s11)).toNat) 0)) - (IntKind.i64.wrap (s10.tmod 1000000000)))) - s9)))) b204
  else none
  else none
  else none
  else none
  else
  some (.exit (s9, b188, b204, ()))
def l_nat_N_minus__nat_N_Div_4L : LSpec := { h := l_nat_N_minus__nat_N_Div_4H, x := z72, r := z71, xid := 0, rt := false, pins := [188, 204], f := fun k d => z11 k d.1 d.2.1 d.2.2.1 d.2.2.2.1 d.2.2.2.2.1 d.2.2.2.2.2.1 d.2.2.2.2.2.2.1 }
def z1o : Nat → Int → Int → Int → List Int → List Int → Option (LR z7n z7m)
 | 0, _, _, _, _, _ => none
 | m + 1, s2, s6, s7, b188, b204 =>
  if decide (s7 ≤ (b204.length : Int)) = true then
  if (0 : Int) ≤ IntKind.i64.wrap (s2 + s7) then
  if IntKind.i64.wrap (s2 + s7) < b188.length then
  if decide (s7 < (b204.length : Int)) = true then
  if (0 : Int) ≤ s7 then
  if s7 < b204.length then
  if (0 : Int) ≤ IntKind.i64.wrap (s2 + s7) then
  if IntKind.i64.wrap (s2 + s7) < b188.length then
  z1o m s2 (IntKind.u32.wrap ((IntKind.u32.wrap ((IntKind.u32.wrap ((b188.getD ((IntKind.i64.wrap (s2 + s7)).toNat) 0) + s6)) + (b204.getD s7.toNat 0))).tdiv 1000000000)) (IntKind.i64.wrap (s7 + 1)) (b188.set ((IntKind.i64.wrap (s2 + s7)).toNat) ((IntKind.u32.wrap ((IntKind.u32.wrap ((b188.getD ((IntKind.i64.wrap (s2 + s7)).toNat) 0) + s6)) + (b204.getD s7.toNat 0))).tmod 1000000000)) b204
  else none
  else none
  else none
  else none
  else
  if (0 : Int) ≤ IntKind.i64.wrap (s2 + s7) then
  if IntKind.i64.wrap (s2 + s7) < b188.length then
  z1o m s2 (IntKind.u32.wrap ((IntKind.u32.wrap ((b188.getD ((IntKind.i64.wrap (s2 + s7)).toNat) 0) + s6)).tdiv 1000000000)) (IntKind.i64.wrap (s7 + 1)) (b188.set ((IntKind.i64.wrap (s2 + s7)).toNat) ((IntKind.u32.wrap ((b188.getD ((IntKind.i64.wrap (s2 + s7)).toNat) 0) + s6)).tmod 1000000000)) b204
  else none
  else none
  else none
  else none
  else
  some (.exit (b188, b204, ()))
def l_nat_N_plus__nat_N_Div_2L : LSpec := { h := l_nat_N_plus__nat_N_Div_2H, x := z7n, r := z7m, xid := 0, rt := false, pins := [188, 204], f := fun k d => z1o k d.1 d.2.1 d.2.2.1 d.2.2.2.1 d.2.2.2.2.1 }
def z4w : Nat → Int → Int → List Int → List Int → List Int → Option (LR zx3 zx2)
 | 0, _, _, _, _, _ => none
 | m + 1, s9, s11, b188, b204, b264 =>
  if decide (s11 ≥ 0) = true then
  if (0 : Int) ≤ IntKind.i64.wrap (s11 + s9) then
  if IntKind.i64.wrap (s11 + s9) < b188.length then
  if (0 : Int) ≤ IntKind.i64.wrap ((IntKind.i64.wrap (s11 + s9)) - 1) then
  if IntKind.i64.wrap ((IntKind.i64.wrap (s11 + s9)) - 1) < b188.length then
  if (0 : Int) ≤ IntKind.i64.wrap (s9 - 1) then
  if IntKind.i64.wrap (s9 - 1) < b204.length then
  if IntKind.u64.wrap (b204.getD ((IntKind.i64.wrap (s9 - 1)).toNat) 0) = 0 then
  none
  else
  if (0 : Int) ≤ IntKind.i64.wrap (s9 - 1) then
  if IntKind.i64.wrap (s9 - 1) < b204.length then
  if IntKind.u64.wrap (b204.getD ((IntKind.i64.wrap (s9 - 1)).toNat) 0) = 0 then
  none
  else
  match z5n m s9 s11 (IntKind.u64.wrap ((IntKind.u64.wrap ((IntKind.u64.wrap ((IntKind.u64.wrap (b188.getD ((IntKind.i64.wrap (s11 + s9)).toNat) 0)) * 1000000000)) + (IntKind.u64.wrap (b188.getD ((IntKind.i64.wrap ((IntKind.i64.wrap (s11 + s9)) - 1)).toNat) 0)))).tdiv (IntKind.u64.wrap (b204.getD ((IntKind.i64.wrap (s9 - 1)).toNat) 0)))) ((IntKind.u64.wrap ((IntKind.u64.wrap ((IntKind.u64.wrap (b188.getD ((IntKind.i64.wrap (s11 + s9)).toNat) 0)) * 1000000000)) + (IntKind.u64.wrap (b188.getD ((IntKind.i64.wrap ((IntKind.i64.wrap (s11 + s9)) - 1)).toNat) 0)))).tmod (IntKind.u64.wrap (b204.getD ((IntKind.i64.wrap (s9 - 1)).toNat) 0))) b188 b204 with
  | none => none
  | some (.exit d1) =>
   match z11 m s11 d1.1 0 0 0 d1.2.1 d1.2.2.1 with
   | none => none
   | some (.exit d2) =>
    if decide (d2.1 > 0) = true then
    match z1o m s11 0 0 d2.2.1 d2.2.2.1 with
    | none => none
    | some (.exit d3) =>
     if (0 : Int) ≤ s11 then
     if s11 < b264.length then
     z4w m s9 (IntKind.i64.wrap (s11 - 1)) d3.1 d3.2.1 (b264.set s11.toNat (IntKind.u32.wrap (IntKind.u64.wrap (d1.1 - 1))))
     else none
     else none
    | some (.ret d3) =>
     none
    else
    if (0 : Int) ≤ s11 then
    if s11 < b264.length then
    z4w m s9 (IntKind.i64.wrap (s11 - 1)) d2.2.1 d2.2.2.1 (b264.set s11.toNat (IntKind.u32.wrap (d1.1)))
    else none
    else none
   | some (.ret d2) =>
    none
  | some (.ret d1) =>
   none
  else none
  else none
  else none
  else none
  else none
  else none
  else none
  else none
  else
  some (.exit (b188, b264, b204, ()))
def l_nat_N_Div_12L : LSpec := { h := l_nat_N_Div_12H, x := zx3, r := zx2, xid := 2, rt := false, pins := [188, 204, 264], f := fun k d => z4w k d.1 d.2.1 d.2.2.1 d.2.2.2.1 d.2.2.2.2.1 }
def z8f : z2g := [([86], [(7, l_nat_N_Div_7L), (12, l_nat_N_Div_12L), (16, l_nat_N_Div_16L)]), ([91, 86], [(4, l_nat_N_minus__nat_N_Div_4L)]), ([92, 86], [(2, l_nat_N_plus__nat_N_Div_2L)])]
def z9i (k : Nat) (a0 : List Int) (a1 : List Int) : Option ((List Int) × (List Int)) :=
 (z4f fuel a0 a1).bind fun r1 =>
 if decide (r1 < 0) = true then
 some ([], a0)
 else
 if ((a1.length : Int) == 1) = true then
 if (0 : Int) < a1.length then
 (z94 fuel a0 (a1.getD 0 0)).bind fun r2 =>
 some (r2.1, r2.2)
 else none
 else
 if (0 : Int) ≤ IntKind.i64.wrap ((a1.length : Int) - 1) then
 if IntKind.i64.wrap ((a1.length : Int) - 1) < a1.length then
 if IntKind.u64.wrap ((IntKind.u64.wrap (a1.getD ((IntKind.i64.wrap ((a1.length : Int) - 1)).toNat) 0)) + 1) = 0 then
 none
 else
 (z4g fuel a0 [IntKind.u32.wrap (IntKind.u64.wrap ((1000000000 : Int).tdiv (IntKind.u64.wrap ((IntKind.u64.wrap (a1.getD ((IntKind.i64.wrap ((a1.length : Int) - 1)).toNat) 0)) + 1))))]).bind fun r3 =>
 if (r3.length + 1) * 4 ≤ 140737488355328 then
 (z4g fuel a1 [IntKind.u32.wrap (IntKind.u64.wrap ((1000000000 : Int).tdiv (IntKind.u64.wrap ((IntKind.u64.wrap (a1.getD ((IntKind.i64.wrap ((a1.length : Int) - 1)).toNat) 0)) + 1))))]).bind fun r4 =>
 match z97 k a0 (r3 ++ [0]) with
 | none => none
 | some (.exit d5) =>
  if (0 : Int) ≤ IntKind.i64.wrap ((d5.1.length : Int) - (r4.length : Int)) then
  if IntKind.i64.wrap ((d5.1.length : Int) - (r4.length : Int)) ≤ IntKind.i64.wrap ((d5.1.length : Int) - (r4.length : Int)) then
  if (IntKind.i64.wrap ((d5.1.length : Int) - (r4.length : Int))) * 4 ≤ 281474976710656 then
  match z4w k (r4.length : Int) (IntKind.i64.wrap ((IntKind.i64.wrap ((d5.1.length : Int) - (r4.length : Int))) - 1)) d5.1 r4 (List.replicate ((IntKind.i64.wrap ((d5.1.length : Int) - (r4.length : Int))).toNat) 0) with
  | none => none
  | some (.exit d6) =>
   (z6u fuel d6.1).bind fun r7 =>
   (z94 fuel r7 (IntKind.u32.wrap (IntKind.u64.wrap ((1000000000 : Int).tdiv (IntKind.u64.wrap ((IntKind.u64.wrap (a1.getD ((IntKind.i64.wrap ((a1.length : Int) - 1)).toNat) 0)) + 1)))))).bind fun r8 =>
   (z6u fuel d6.2.1).bind fun r9 =>
   some (r9, r8.1)
  | some (.ret d6) =>
   none
  else none
  else none
  else none
 | some (.ret d5) =>
  none
 else none
 else none
 else none
theorem y3d (m : Nat) (d : dens l_nat_N_Div_7H.tys) : l_nat_N_Div_7L.f (m + 1) d = round z9g z8f m [86] 171 (z31 (z1h Tryd.f86) 0) l_nat_N_Div_7L (l_nat_N_Div_7L.f m) d := by kernel_rfl
theorem y21 (m : Nat) (d : dens l_nat_N_Div_16H.tys) : l_nat_N_Div_16L.f (m + 1) d = round z9g z8f m [86] 171 (z31 (z1h Tryd.f86) 2) l_nat_N_Div_16L (l_nat_N_Div_16L.f m) d := by kernel_rfl
theorem z9o (m : Nat) (d : dens l_nat_N_minus__nat_N_Div_4H.tys) : l_nat_N_minus__nat_N_Div_4L.f (m + 1) d = round z9g z8f m [91, 86] 62 (z31 (z1h Tryd.f91) 0) l_nat_N_minus__nat_N_Div_4L (l_nat_N_minus__nat_N_Div_4L.f m) d := by kernel_rfl
theorem zb2 (m : Nat) (d : dens l_nat_N_plus__nat_N_Div_2H.tys) : l_nat_N_plus__nat_N_Div_2L.f (m + 1) d = round z9g z8f m [92, 86] 42 (z31 (z1h Tryd.f92) 0) l_nat_N_plus__nat_N_Div_2L (l_nat_N_plus__nat_N_Div_2L.f m) d := by kernel_rfl
theorem y20 (m : Nat) (d : dens l_nat_N_Div_12H.tys) : l_nat_N_Div_12L.f (m + 1) d = round z9g z8f m [86] 171 (z31 (z1h Tryd.f86) 1) l_nat_N_Div_12L (l_nat_N_Div_12L.f m) d := by kernel_rfl
def y5f (k : Nat) : Vm.Spec := { ps := [.slice (.int .u32), .slice (.int .u32)], rs := [.imm (.slice (.int .u32)), .imm (.slice (.int .u32))], f := fun x => z9i k x.1 x.2 }
noncomputable def y1l : Vm.Spec := y5f fuel
theorem zm2 : Vm.Spec.holds Tryd.prog 86 y1l := z1d (E := z9g) (L := z8f) (fn := Tryd.f86) (Z := y5f) (z26 ok) (z0w (by exact ⟨⟨by kernel_rfl, z7a⟩, ⟨by kernel_rfl, z7b⟩, ⟨by kernel_rfl, zi8⟩, ⟨by kernel_rfl, y1v⟩, trivial⟩)) z1f (zf8 (by exact ⟨by kernel_rfl, by kernel_rfl, by kernel_rfl, by kernel_rfl, trivial⟩)) (z5i (by exact ⟨(z32 [[86]] (by exact ⟨z0r (ls := [(4, l_nat_N_minus__nat_N_Div_4L)]) rfl rfl ⟨by kernel_rfl, fun _ => rfl, z9o, z0s (by kernel_rfl)⟩,  trivial⟩) rfl), (z32 [[86]] (by exact ⟨z0r (ls := [(2, l_nat_N_plus__nat_N_Div_2L)]) rfl rfl ⟨by kernel_rfl, fun _ => rfl, zb2, z0s (by kernel_rfl)⟩,  trivial⟩) rfl),  trivial⟩)) (by kernel_rfl) (by kernel_rfl) (z0r (ls := [(7, l_nat_N_Div_7L), (12, l_nat_N_Div_12L), (16, l_nat_N_Div_16L)]) rfl rfl ⟨by kernel_rfl, fun _ => rfl, y3d, by kernel_rfl, fun _ => rfl, y20, by kernel_rfl, fun _ => rfl, y21, z0s (by kernel_rfl)⟩) fun k x => by kernel_rfl
noncomputable def y6s : Env := { te := te, spec := [(86, y1l)], body := [] }
def l_nat_N_Gcd_1H : Ann := { slots := [(0, .one (.val (.slice (.int .u32)))), (1, .one (.val (.slice (.int .u32))))], objs := [] }
def y16 : Ann := { slots := [(0, .one (.val (.slice (.int .u32))))], objs := [] }
def y15 : Ann := { slots := [], objs := [] }
def z7g : Nat → List Int → List Int → Option (LR y16 y15)
 | 0, _, _ => none
 | m + 1, s0, s1 =>
  if decide ((s1.length : Int) > 0) = true then
  (z9i fuel s0 s1).bind fun r1 =>
  z7g m s1 r1.2
  else
  some (.exit (s0, ()))
def l_nat_N_Gcd_1L : LSpec := { h := l_nat_N_Gcd_1H, x := y16, r := y15, xid := 0, rt := false, pins := [], f := fun k d => z7g k d.1 d.2.1 }
def y59 : z2g := [([72], [(1, l_nat_N_Gcd_1L)])]
def z63 (k : Nat) (a0 : List Int) (a1 : List Int) : Option (List Int) :=
 match z7g k a0 a1 with
 | none => none
 | some (.exit d1) =>
  some d1.1
 | some (.ret d1) =>
  none
theorem y3e (m : Nat) (d : dens l_nat_N_Gcd_1H.tys) : l_nat_N_Gcd_1L.f (m + 1) d = round y6s y59 m [72] 19 (z31 (z1h Tryd.f72) 0) l_nat_N_Gcd_1L (l_nat_N_Gcd_1L.f m) d := by kernel_rfl
def y5g (k : Nat) : Vm.Spec := { ps := [.slice (.int .u32), .slice (.int .u32)], rs := [.imm (.slice (.int .u32))], f := fun x => z63 k x.1 x.2 }
noncomputable def y1m : Vm.Spec := y5g fuel
theorem zm3 : Vm.Spec.holds Tryd.prog 72 y1m := z1d (E := y6s) (L := y59) (fn := Tryd.f72) (Z := y5g) (z26 ok) (z0w (by exact ⟨⟨by kernel_rfl, zm2⟩, trivial⟩)) z1f (z0e rfl) (z01 rfl) (by kernel_rfl) (by kernel_rfl) (z0r (ls := [(1, l_nat_N_Gcd_1L)]) rfl rfl ⟨by kernel_rfl, fun _ => rfl, y3e, z0s (by kernel_rfl)⟩) fun k x => by kernel_rfl
noncomputable def yn7 : Env := { te := te, spec := [(66, zz2), (67, z87), (68, zp6), (69, y46), (71, y6w), (72, y1m), (73, zf2)], body := [] }
def yf2 : z2g := []
def z8a (k : Nat) (a0 : ByteArray) : Option (Int) :=
 (z2i fuel a0 (⟨#[45]⟩ : ByteArray)).bind fun r1 =>
 (z5c fuel r1.1 (⟨#[47]⟩ : ByteArray)).bind fun r2 =>
 (z62 fuel r2.1).bind fun r3 =>
 if r2.2.2 = true then
 (z62 fuel r2.2.1).bind fun r4 =>
 if (r3 == 5) = false then
 if (r4 == 5) = false then
 if r1.2 = true then
 if ((r2.1.toList == (⟨#[48]⟩ : ByteArray).toList)) = true then
 some 5
 else
 if (r3 != 0) = false then
 if (r4 != 0) = true then
 some 2
 else
 if r2.2.2 = true then
 if ((r2.2.1.toList == (⟨#[48]⟩ : ByteArray).toList)) = false then
 if ((r2.2.1.toList == (⟨#[49]⟩ : ByteArray).toList)) = false then
 (z3m fuel r2.1).bind fun r5 =>
 (z3m fuel r2.2.1).bind fun r6 =>
 (z63 fuel r5 r6).bind fun r7 =>
 (z5t fuel 1).bind fun r8 =>
 (z4f fuel r7 r8).bind fun r9 =>
 if (r9 != 0) = true then
 some 3
 else
 some 0
 else
 some 3
 else
 some 3
 else
 some 0
 else
 some 2
 else
 if (r3 != 0) = false then
 if (r4 != 0) = true then
 some 2
 else
 if r2.2.2 = true then
 if ((r2.2.1.toList == (⟨#[48]⟩ : ByteArray).toList)) = false then
 if ((r2.2.1.toList == (⟨#[49]⟩ : ByteArray).toList)) = false then
 (z3m fuel r2.1).bind fun r10 =>
 (z3m fuel r2.2.1).bind fun r11 =>
 (z63 fuel r10 r11).bind fun r12 =>
 (z5t fuel 1).bind fun r13 =>
 (z4f fuel r12 r13).bind fun r14 =>
 if (r14 != 0) = true then
 some 3
 else
 some 0
 else
 some 3
 else
 some 3
 else
 some 0
 else
 some 2
 else
 some 5
 else
 some 5
 else
 if (r3 == 5) = false then
 if r1.2 = true then
 if ((r2.1.toList == (⟨#[48]⟩ : ByteArray).toList)) = true then
 some 5
 else
 if (r3 != 0) = false then
 if r2.2.2 = true then
 if ((r2.2.1.toList == (⟨#[48]⟩ : ByteArray).toList)) = false then
 if ((r2.2.1.toList == (⟨#[49]⟩ : ByteArray).toList)) = false then
 (z3m fuel r2.1).bind fun r15 =>
 (z3m fuel r2.2.1).bind fun r16 =>
 (z63 fuel r15 r16).bind fun r17 =>
 (z5t fuel 1).bind fun r18 =>
 (z4f fuel r17 r18).bind fun r19 =>
 if (r19 != 0) = true then
 some 3
 else
 some 0
 else
 some 3
 else
 some 3
 else
 some 0
 else
 some 2
 else
 if (r3 != 0) = false then
 if r2.2.2 = true then
 if ((r2.2.1.toList == (⟨#[48]⟩ : ByteArray).toList)) = false then
 if ((r2.2.1.toList == (⟨#[49]⟩ : ByteArray).toList)) = false then
 (z3m fuel r2.1).bind fun r20 =>
 (z3m fuel r2.2.1).bind fun r21 =>
 (z63 fuel r20 r21).bind fun r22 =>
 (z5t fuel 1).bind fun r23 =>
 (z4f fuel r22 r23).bind fun r24 =>
 if (r24 != 0) = true then
 some 3
 else
 some 0
 else
 some 3
 else
 some 3
 else
 some 0
 else
 some 2
 else
 some 5
def y5j (k : Nat) : Vm.Spec := { ps := [.str], rs := [.imm (.int .i64)], f := fun x => z8a k x }
noncomputable def y1n : Vm.Spec := y5j fuel
theorem zm4 : Vm.Spec.holds Tryd.prog 52 y1n := z1d (E := yn7) (L := yf2) (fn := Tryd.f52) (Z := y5j) (z26 ok) (z0w (by exact ⟨⟨by kernel_rfl, z7y⟩, ⟨by kernel_rfl, z7z⟩, ⟨by kernel_rfl, zg5⟩, ⟨by kernel_rfl, zs6⟩, ⟨by kernel_rfl, y4h⟩, ⟨by kernel_rfl, zm3⟩, ⟨by kernel_rfl, z7a⟩, trivial⟩)) z1f (z0e rfl) (z01 rfl) (by kernel_rfl) (by kernel_rfl) (z0v rfl) fun k x => by kernel_rfl
noncomputable def y0g : Env := { te := te, spec := [(52, y1n)], body := [] }
def l_rat_CheckAll_2H : Ann := { slots := [(6, .one (.val (.slice .str))), (7, .one (.val (.int .i64))), (8, .one (.val (.int .i64)))], objs := [] }
def zn6 : Ann := { slots := [], objs := [] }
def zn5 : Ann := { slots := [(2, .one (.val (.int .i64)))], objs := [] }
def z2k : Nat → List ByteArray → Int → Int → Option (LR zn6 zn5)
 | 0, _, _, _ => none
 | m + 1, s6, s7, s8 =>
  if decide (s8 < s7) = true then
  if (0 : Int) ≤ s8 then
  if s8 < s6.length then
  (z8a fuel (s6.getD s8.toNat ByteArray.empty)).bind fun r1 =>
  if (r1 != 0) = true then
  some (.ret (r1, ()))
  else
  z2k m s6 s7 (IntKind.i64.wrap (s8 + 1))
  else none
  else none
  else
  some (.exit ())
def l_rat_CheckAll_2L : LSpec := { h := l_rat_CheckAll_2H, x := zn6, r := zn5, xid := 0, rt := true, pins := [], f := fun k d => z2k k d.1 d.2.1 d.2.2.1 }
def zu9 : z2g := [([56], [(2, l_rat_CheckAll_2L)])]
def z5k (k : Nat) (a0 : List ByteArray) : Option (Int) :=
 match z2k k a0 (a0.length : Int) 0 with
 | none => none
 | some (.exit d1) =>
  some 0
 | some (.ret d1) =>
  some d1.1
theorem zx8 (m : Nat) (d : dens l_rat_CheckAll_2H.tys) : l_rat_CheckAll_2L.f (m + 1) d = round y0g zu9 m [56] 18 (z31 (z1h Tryd.f56) 0) l_rat_CheckAll_2L (l_rat_CheckAll_2L.f m) d := by kernel_rfl
def zv9 (k : Nat) : Vm.Spec := { ps := [.slice .str], rs := [.imm (.int .i64)], f := fun x => z5k k x }
noncomputable def y0l : Vm.Spec := zv9 fuel
theorem y0b : Vm.Spec.holds Tryd.prog 56 y0l := z1d (E := y0g) (L := zu9) (fn := Tryd.f56) (Z := zv9) (z26 ok) (z0w (by exact ⟨⟨by kernel_rfl, zm4⟩, trivial⟩)) z1f (z0e rfl) (z01 rfl) (by kernel_rfl) (by kernel_rfl) (z0r (ls := [(2, l_rat_CheckAll_2L)]) rfl rfl ⟨by kernel_rfl, fun _ => rfl, zx8, z0s (by kernel_rfl)⟩) fun k x => by kernel_rfl
noncomputable def y42 : Env := { te := te, spec := [(56, y0l)], body := [] }
def y2h : z2g := []
def z17 (k : Nat) (a0 : List ByteArray) : Option (Int) :=
 if decide ((a0.length : Int) > 40) = true then
 some 2
 else
 (z5k fuel a0).bind fun r1 =>
 some r1
def zi5 (k : Nat) : Vm.Spec := { ps := [.slice .str], rs := [.imm (.int .i64)], f := fun x => z17 k x }
noncomputable def z78 : Vm.Spec := zi5 fuel
theorem z61 : Vm.Spec.holds Tryd.prog 19 z78 := z1d (E := y42) (L := y2h) (fn := Tryd.f19) (Z := zi5) (z26 ok) (z0w (by exact ⟨⟨by kernel_rfl, y0b⟩, trivial⟩)) z1f (z0e rfl) (z01 rfl) (by kernel_rfl) (by kernel_rfl) (z0v rfl) fun k x => by kernel_rfl
noncomputable def y0f : Env := { te := te, spec := [(19, z78)], body := [] }
def l_matrix_Check_4H : Ann := { slots := [(0, .one (.val (.slice (.slice .str)))), (9, .one (.val (.slice (.slice .str)))), (10, .one (.val (.int .i64))), (11, .one (.val (.int .i64)))], objs := [] }
def zn4 : Ann := { slots := [], objs := [] }
def zn3 : Ann := { slots := [(2, .one (.val (.int .i64)))], objs := [] }
def z3r : Nat → List (List ByteArray) → List (List ByteArray) → Int → Int → Option (LR zn4 zn3)
 | 0, _, _, _, _ => none
 | m + 1, s0, s9, s10, s11 =>
  if decide (s11 < s10) = true then
  if (0 : Int) ≤ s11 then
  if s11 < s9.length then
  if (0 : Int) < s0.length then
  if (((s9.getD s11.toNat []).length : Int) != ((s0.getD 0 []).length : Int)) = true then
  some (.ret (3, ()))
  else
  (z17 fuel (s9.getD s11.toNat [])).bind fun r1 =>
  if (r1 != 0) = true then
  some (.ret (r1, ()))
  else
  z3r m s0 s9 s10 (IntKind.i64.wrap (s11 + 1))
  else none
  else none
  else none
  else
  some (.exit ())
def l_matrix_Check_4L : LSpec := { h := l_matrix_Check_4H, x := zn4, r := zn3, xid := 0, rt := true, pins := [], f := fun k d => z3r k d.1 d.2.1 d.2.2.1 d.2.2.2.1 }
def zu7 : z2g := [([39], [(4, l_matrix_Check_4L)])]
def z7x (k : Nat) (a0 : List (List ByteArray)) : Option (Int) :=
 if decide ((a0.length : Int) > 40) = true then
 some 2
 else
 match z3r k a0 a0 (a0.length : Int) 0 with
 | none => none
 | some (.exit d1) =>
  some 0
 | some (.ret d1) =>
  some d1.1
theorem zw7 (m : Nat) (d : dens l_matrix_Check_4H.tys) : l_matrix_Check_4L.f (m + 1) d = round y0f zu7 m [39] 28 (z31 (z1h Tryd.f39) 0) l_matrix_Check_4L (l_matrix_Check_4L.f m) d := by kernel_rfl
def zv6 (k : Nat) : Vm.Spec := { ps := [.slice (.slice .str)], rs := [.imm (.int .i64)], f := fun x => z7x k x }
noncomputable def y0i : Vm.Spec := zv6 fuel
theorem y08 : Vm.Spec.holds Tryd.prog 39 y0i := z1d (E := y0f) (L := zu7) (fn := Tryd.f39) (Z := zv6) (z26 ok) (z0w (by exact ⟨⟨by kernel_rfl, z61⟩, trivial⟩)) z1f (z0e rfl) (z01 rfl) (by kernel_rfl) (by kernel_rfl) (z0r (ls := [(4, l_matrix_Check_4L)]) rfl rfl ⟨by kernel_rfl, fun _ => rfl, zw7, z0s (by kernel_rfl)⟩) fun k x => by kernel_rfl
noncomputable def y8m : Env := { te := te, spec := [], body := [] }
def y6u : z2g := []
def z9y (k : Nat) (a0 : List (List ByteArray)) : Option (Int) :=
 if ((a0.length : Int) == 0) = true then
 some 0
 else
 if (0 : Int) < a0.length then
 some ((a0.getD 0 []).length : Int)
 else none
def zv7 (k : Nat) : Vm.Spec := { ps := [.slice (.slice .str)], rs := [.imm (.int .i64)], f := fun x => z9y k x }
noncomputable def y0j : Vm.Spec := zv7 fuel
theorem y09 : Vm.Spec.holds Tryd.prog 40 y0j := z1d (E := y8m) (L := y6u) (fn := Tryd.f40) (Z := zv7) (z26 ok) (z0w (by exact trivial)) z1f (z0e rfl) (z01 rfl) (by kernel_rfl) (by kernel_rfl) (z0v rfl) fun k x => by kernel_rfl
noncomputable def y6t : Env := { te := te, spec := [(19, z78), (39, y0i), (40, y0j)], body := [] }
def y64 : z2g := []
def z2t (k : Nat) (a0 : (List (List ByteArray)) × ((List ByteArray) × (List ByteArray))) : Option (Int) :=
 if decide ((a0.1.length : Int) > 40) = false then
 if decide ((a0.2.2.length : Int) > 40) = true then
 some 2
 else
 (z7x fuel a0.1).bind fun r1 =>
 if (r1 != 0) = true then
 some r1
 else
 (z17 fuel a0.2.1).bind fun r2 =>
 if (r2 != 0) = true then
 some r2
 else
 (z17 fuel a0.2.2).bind fun r3 =>
 if (r3 != 0) = true then
 some r3
 else
 if ((a0.1.length : Int) != (a0.2.1.length : Int)) = false then
 if decide ((a0.1.length : Int) > 0) = true then
 (z9y fuel a0.1).bind fun r4 =>
 if (r4 != (a0.2.2.length : Int)) = true then
 some 3
 else
 some 0
 else
 some 0
 else
 some 3
 else
 some 2
def zs0 (k : Nat) : Vm.Spec := { ps := [.pair (.slice (.slice .str)) (.pair (.slice .str) (.slice .str))], rs := [.imm (.int .i64)], f := fun x => z2t k x }
noncomputable def z6q : Vm.Spec := zs0 fuel
theorem z5b : Vm.Spec.holds Tryd.prog 10 z6q := z1d (E := y6t) (L := y64) (fn := Tryd.f10) (Z := zs0) (z26 ok) (z0w (by exact ⟨⟨by kernel_rfl, z61⟩, ⟨by kernel_rfl, y08⟩, ⟨by kernel_rfl, y09⟩, trivial⟩)) z1f (z0e rfl) (z01 rfl) (by kernel_rfl) (by kernel_rfl) (z0v rfl) fun k x => by kernel_rfl
noncomputable def w5i : Env := { te := te, spec := [(66, zz2), (67, z87), (68, zp6), (69, y46)], body := [] }
def w21 : z2g := []
def zq4 (k : Nat) (a0 : ByteArray) : Option (Bool × ((List Int) × (List Int))) :=
 (z2i fuel a0 (⟨#[45]⟩ : ByteArray)).bind fun r1 =>
 (z5c fuel r1.1 (⟨#[47]⟩ : ByteArray)).bind fun r2 =>
 (z3m fuel r2.1).bind fun r3 =>
 (z5t fuel 1).bind fun r4 =>
 if r2.2.2 = true then
 (z3m fuel r2.2.1).bind fun r5 =>
 some (r1.2, (r3, r5))
 else
 some (r1.2, (r3, r4))
def yg2 (k : Nat) : Vm.Spec := { ps := [.str], rs := [.imm qT], f := fun x => zq4 k x }
noncomputable def ya3 : Vm.Spec := yg2 fuel
theorem y0u : Vm.Spec.holds Tryd.prog 44 ya3 := z1d (E := w5i) (L := w21) (fn := Tryd.f44) (Z := yg2) (z26 ok) (z0w (by exact ⟨⟨by kernel_rfl, z7y⟩, ⟨by kernel_rfl, z7z⟩, ⟨by kernel_rfl, zg5⟩, ⟨by kernel_rfl, zs6⟩, trivial⟩)) z1f (z0e rfl) (z01 rfl) (by kernel_rfl) (by kernel_rfl) (z0v rfl) fun k x => by kernel_rfl
noncomputable def y53 : Env := { te := te, spec := [(44, ya3)], body := [] }
def l_matrix_Row_3H : Ann := { slots := [(3, .one (.own 64 qT)), (6, .one (.val (.slice .str))), (7, .one (.val (.int .i64))), (8, .one (.val (.int .i64)))], objs := [(64, .buf qT)] }
def zx1 : Ann := { slots := [(3, .one (.own 64 qT))], objs := [(64, .buf qT)] }
def zx0 : Ann := { slots := [], objs := [] }
def z6f : Nat → List ByteArray → Int → Int → List (Bool × ((List Int) × (List Int))) → Option (LR zx1 zx0)
 | 0, _, _, _, _ => none
 | m + 1, s6, s7, s8, b64 =>
  if decide (s8 < s7) = true then
  if (0 : Int) ≤ s8 then
  if s8 < s6.length then
  (zq4 fuel (s6.getD s8.toNat ByteArray.empty)).bind fun r1 =>
  if (b64.length + 1) * 56 ≤ 140737488355328 then
  z6f m s6 s7 (IntKind.i64.wrap (s8 + 1)) (b64 ++ [r1])
  else none
  else none
  else none
  else
  some (.exit (b64, ()))
def l_matrix_Row_3L : LSpec := { h := l_matrix_Row_3H, x := zx1, r := zx0, xid := 0, rt := false, pins := [], f := fun k d => z6f k d.1 d.2.1 d.2.2.1 d.2.2.2.1 }
def y2j : z2g := [([33], [(3, l_matrix_Row_3L)])]
def z2h (k : Nat) (a0 : List ByteArray) : Option (List (Bool × ((List Int) × (List Int)))) :=
 match z6f k a0 (a0.length : Int) 0 [] with
 | none => none
 | some (.exit d1) =>
  some d1.1
 | some (.ret d1) =>
  none
theorem y1z (m : Nat) (d : dens l_matrix_Row_3H.tys) : l_matrix_Row_3L.f (m + 1) d = round y53 y2j m [33] 19 (z31 (z1h Tryd.f33) 0) l_matrix_Row_3L (l_matrix_Row_3L.f m) d := by kernel_rfl
def y2q (k : Nat) : Vm.Spec := { ps := [.slice .str], rs := [.fresh qT], f := fun x => z2h k x }
noncomputable def zi2 : Vm.Spec := y2q fuel
theorem z93 : Vm.Spec.holds Tryd.prog 33 zi2 := z1d (E := y53) (L := y2j) (fn := Tryd.f33) (Z := y2q) (z26 ok) (z0w (by exact ⟨⟨by kernel_rfl, y0u⟩, trivial⟩)) z1f (z0e rfl) (z01 rfl) (by kernel_rfl) (by kernel_rfl) (z0r (ls := [(3, l_matrix_Row_3L)]) rfl rfl ⟨by kernel_rfl, fun _ => rfl, y1z, z0s (by kernel_rfl)⟩) fun k x => by kernel_rfl
noncomputable def w1z : Env := { te := te, spec := [(66, zz2)], body := [] }
def w0s : z2g := []
def z6v (k : Nat) (a0 : Int) : Option (Bool × ((List Int) × (List Int))) :=
 if decide (a0 < 0) = true then
 (z5t fuel (IntKind.i64.wrap (0 - a0))).bind fun r1 =>
 (z5t fuel 1).bind fun r2 =>
 some (true, (r1, r2))
 else
 (z5t fuel a0).bind fun r3 =>
 (z5t fuel 1).bind fun r4 =>
 some (false, (r3, r4))
def y91 (k : Nat) : Vm.Spec := { ps := [.int .i64], rs := [.imm qT], f := fun x => z6v k x }
noncomputable def yg0 : Vm.Spec := y91 fuel
theorem y7i : Vm.Spec.holds Tryd.prog 37 yg0 := z1d (E := w1z) (L := w0s) (fn := Tryd.f37) (Z := y91) (z26 ok) (z0w (by exact ⟨⟨by kernel_rfl, z7y⟩, trivial⟩)) z1f (z0e rfl) (z01 rfl) (by kernel_rfl) (by kernel_rfl) (z0v rfl) fun k x => by kernel_rfl
noncomputable def y6o : Env := { te := te, spec := [(33, zi2)], body := [] }
def l_matrix_In_3H : Ann := { slots := [(3, .one (.own 64 (.slice qT))), (6, .one (.val (.slice (.slice .str)))), (7, .one (.val (.int .i64))), (8, .one (.val (.int .i64)))], objs := [(64, .buf (.slice qT))] }
def y0w : Ann := { slots := [(3, .one (.own 64 (.slice qT)))], objs := [(64, .buf (.slice qT))] }
def y0v : Ann := { slots := [], objs := [] }
def z7e : Nat → List (List ByteArray) → Int → Int → List (List (Bool × ((List Int) × (List Int)))) → Option (LR y0w y0v)
 | 0, _, _, _, _ => none
 | m + 1, s6, s7, s8, b64 =>
  if decide (s8 < s7) = true then
  if (0 : Int) ≤ s8 then
  if s8 < s6.length then
  (z2h fuel (s6.getD s8.toNat [])).bind fun r1 =>
  if (b64.length + 1) * 24 ≤ 140737488355328 then
  z7e m s6 s7 (IntKind.i64.wrap (s8 + 1)) (b64 ++ [r1])
  else none
  else none
  else none
  else
  some (.exit (b64, ()))
def l_matrix_In_3L : LSpec := { h := l_matrix_In_3H, x := y0w, r := y0v, xid := 0, rt := false, pins := [], f := fun k d => z7e k d.1 d.2.1 d.2.2.1 d.2.2.2.1 }
def y55 : z2g := [([42], [(3, l_matrix_In_3L)])]
def z9h (k : Nat) (a0 : List (List ByteArray)) : Option (List (List (Bool × ((List Int) × (List Int))))) :=
 match z7e k a0 (a0.length : Int) 0 [] with
 | none => none
 | some (.exit d1) =>
  some d1.1
 | some (.ret d1) =>
  none
theorem y39 (m : Nat) (d : dens l_matrix_In_3H.tys) : l_matrix_In_3L.f (m + 1) d = round y6o y55 m [42] 19 (z31 (z1h Tryd.f42) 0) l_matrix_In_3L (l_matrix_In_3L.f m) d := by kernel_rfl
def y5b (k : Nat) : Vm.Spec := { ps := [.slice (.slice .str)], rs := [.fresh (.slice qT)], f := fun x => z9h k x }
noncomputable def y1k : Vm.Spec := y5b fuel
theorem zm1 : Vm.Spec.holds Tryd.prog 42 y1k := z1d (E := y6o) (L := y55) (fn := Tryd.f42) (Z := y5b) (z26 ok) (z0w (by exact ⟨⟨by kernel_rfl, z93⟩, trivial⟩)) z1f (z0e rfl) (z01 rfl) (by kernel_rfl) (by kernel_rfl) (z0r (ls := [(3, l_matrix_In_3L)]) rfl rfl ⟨by kernel_rfl, fun _ => rfl, y39, z0s (by kernel_rfl)⟩) fun k x => by kernel_rfl
noncomputable def yo1 : Env := { te := te, spec := [], body := [] }
def yf6 : z2g := []
def z8b (k : Nat) (a0 : Bool × ((List Int) × (List Int))) : Option (Bool × ((List Int) × (List Int))) :=
 if ((a0.2.1.length : Int) == 0) = true then
 some a0
 else
 some (!a0.1, a0.2)
def y5n (k : Nat) : Vm.Spec := { ps := [qT], rs := [.imm qT], f := fun x => z8b k x }
noncomputable def y1o : Vm.Spec := y5n fuel
theorem zm5 : Vm.Spec.holds Tryd.prog 38 y1o := z1d (E := yo1) (L := yf6) (fn := Tryd.f38) (Z := y5n) (z26 ok) (z0w (by exact trivial)) z1f (z0e rfl) (z01 rfl) (by kernel_rfl) (by kernel_rfl) (z0v rfl) fun k x => by kernel_rfl
noncomputable def yf0 : Env := { te := te, spec := [], body := [] }
def ya2 : z2g := []
def z1i (k : Nat) (a0 : Bool × ((List Int) × (List Int))) : Option (Int) :=
 if ((a0.2.1.length : Int) == 0) = true then
 some 0
 else
 if a0.1 = true then
 some (-1)
 else
 some 1
def y2t (k : Nat) : Vm.Spec := { ps := [qT], rs := [.imm (.int .i64)], f := fun x => z1i k x }
noncomputable def z5y : Vm.Spec := y2t fuel
theorem z3e : Vm.Spec.holds Tryd.prog 49 z5y := z1d (E := yf0) (L := ya2) (fn := Tryd.f49) (Z := y2t) (z26 ok) (z0w (by exact trivial)) z1f (z0e rfl) (z01 rfl) (by kernel_rfl) (by kernel_rfl) (z0v rfl) fun k x => by kernel_rfl
noncomputable def ya0 : Env := { te := te, spec := [(66, zz2)], body := [] }
def y8o : z2g := []
def z2w (k : Nat) (a0 : Bool × ((List Int) × (List Int))) : Option (List Int) :=
 if ((a0.2.2.length : Int) == 0) = true then
 (z5t fuel 1).bind fun r1 =>
 some r1
 else
 some a0.2.2
def y0n (k : Nat) : Vm.Spec := { ps := [qT], rs := [.imm (.slice (.int .u32))], f := fun x => z2w k x }
noncomputable def z8v : Vm.Spec := y0n fuel
theorem z64 : Vm.Spec.holds Tryd.prog 75 z8v := z1d (E := ya0) (L := y8o) (fn := Tryd.f75) (Z := y0n) (z26 ok) (z0w (by exact ⟨⟨by kernel_rfl, z7y⟩, trivial⟩)) z1f (z0e rfl) (z01 rfl) (by kernel_rfl) (by kernel_rfl) (z0v rfl) fun k x => by kernel_rfl
noncomputable def w20 : Env := { te := te, spec := [(66, zz2), (72, y1m), (73, zf2), (86, y1l)], body := [] }
def w0t : z2g := []
def za8 (k : Nat) (a0 : Bool) (a1 : List Int) (a2 : List Int) : Option (Bool × ((List Int) × (List Int))) :=
 if ((a1.length : Int) == 0) = true then
 some (false, ([], []))
 else
 (z63 fuel a1 a2).bind fun r1 =>
 (z5t fuel 1).bind fun r2 =>
 (z4f fuel r1 r2).bind fun r3 =>
 if decide (r3 > 0) = true then
 (z9i fuel a1 r1).bind fun r4 =>
 (z9i fuel a2 r1).bind fun r5 =>
 some (a0, (r4.1, r5.1))
 else
 some (a0, (a1, a2))
def y92 (k : Nat) : Vm.Spec := { ps := [.bool, .slice (.int .u32), .slice (.int .u32)], rs := [.imm qT], f := fun x => za8 k x.1 x.2.1 x.2.2 }
noncomputable def y2o : Vm.Spec := y92 fuel
theorem zg4 : Vm.Spec.holds Tryd.prog 78 y2o := z1d (E := w20) (L := w0t) (fn := Tryd.f78) (Z := y92) (z26 ok) (z0w (by exact ⟨⟨by kernel_rfl, z7y⟩, ⟨by kernel_rfl, zm3⟩, ⟨by kernel_rfl, z7a⟩, ⟨by kernel_rfl, zm2⟩, trivial⟩)) z1f (z0e rfl) (z01 rfl) (by kernel_rfl) (by kernel_rfl) (z0v rfl) fun k x => by kernel_rfl
noncomputable def y6q : Env := { te := te, spec := [], body := [] }
def l_nat_N_Add_6H : Ann := { slots := [(1, .one (.val (.slice (.int .u32)))), (5, .one (.own 76 (.int .u32))), (6, .one (.val (.int .u32))), (20, .one (.val (.slice (.int .u32)))), (21, .one (.val (.int .i64))), (22, .one (.val (.int .i64)))], objs := [(76, .buf (.int .u32))] }
def y10 : Ann := { slots := [(5, .one (.own 76 (.int .u32))), (6, .one (.val (.int .u32)))], objs := [(76, .buf (.int .u32))] }
def y0z : Ann := { slots := [], objs := [] }
def z5d : Nat → List Int → Int → List Int → Int → Int → List Int → Option (LR y10 y0z)
 | 0, _, _, _, _, _, _ => none
 | m + 1, s1, s6, s20, s21, s22, b76 =>
  if decide (s22 < s21) = true then
  if (0 : Int) ≤ s22 then
  if s22 < s20.length then
  if decide (s22 < (s1.length : Int)) = true then
  if (0 : Int) ≤ s22 then
  if s22 < s1.length then
  if (b76.length + 1) * 4 ≤ 140737488355328 then
  z5d m s1 (IntKind.u32.wrap ((IntKind.u32.wrap ((IntKind.u32.wrap ((s20.getD s22.toNat 0) + s6)) + (s1.getD s22.toNat 0))).tdiv 1000000000)) s20 s21 (IntKind.i64.wrap (s22 + 1)) (b76 ++ [(IntKind.u32.wrap ((IntKind.u32.wrap ((s20.getD s22.toNat 0) + s6)) + (s1.getD s22.toNat 0))).tmod 1000000000])
  else none
  else none
  else none
  else
  if (b76.length + 1) * 4 ≤ 140737488355328 then
  z5d m s1 (IntKind.u32.wrap ((IntKind.u32.wrap ((s20.getD s22.toNat 0) + s6)).tdiv 1000000000)) s20 s21 (IntKind.i64.wrap (s22 + 1)) (b76 ++ [(IntKind.u32.wrap ((s20.getD s22.toNat 0) + s6)).tmod 1000000000])
  else none
  else none
  else none
  else
  some (.exit (s6, b76, ()))
def l_nat_N_Add_6L : LSpec := { h := l_nat_N_Add_6H, x := y10, r := y0z, xid := 0, rt := false, pins := [], f := fun k d => z5d k d.1 d.2.1 d.2.2.1 d.2.2.2.1 d.2.2.2.2.1 d.2.2.2.2.2.1 }
def y57 : z2g := [([79], [(6, l_nat_N_Add_6L)])]
def zq3 (k : Nat) (a0 : List Int) (a1 : List Int) : Option (List Int) :=
 if decide ((a0.length : Int) < (a1.length : Int)) = true then
 if (0 : Int) ≤ IntKind.i64.wrap ((a1.length : Int) + 1) then
 if (IntKind.i64.wrap ((a1.length : Int) + 1)) * 4 ≤ 281474976710656 then
 match z5d k a0 0 a1 (a1.length : Int) 0 (List.replicate 0 0) with
 | none => none
 | some (.exit d1) =>
  if decide (d1.1 > 0) = true then
  if (d1.2.1.length + 1) * 4 ≤ 140737488355328 then
  some (d1.2.1 ++ [d1.1])
  else none
  else
  some d1.2.1
 | some (.ret d1) =>
  none
 else none
 else none
 else
 if (0 : Int) ≤ IntKind.i64.wrap ((a0.length : Int) + 1) then
 if (IntKind.i64.wrap ((a0.length : Int) + 1)) * 4 ≤ 281474976710656 then
 match z5d k a1 0 a0 (a0.length : Int) 0 (List.replicate 0 0) with
 | none => none
 | some (.exit d2) =>
  if decide (d2.1 > 0) = true then
  if (d2.2.1.length + 1) * 4 ≤ 140737488355328 then
  some (d2.2.1 ++ [d2.1])
  else none
  else
  some d2.2.1
 | some (.ret d2) =>
  none
 else none
 else none
theorem y3b (m : Nat) (d : dens l_nat_N_Add_6H.tys) : l_nat_N_Add_6L.f (m + 1) d = round y6q y57 m [79] 55 (z31 (z1h Tryd.f79) 0) l_nat_N_Add_6L (l_nat_N_Add_6L.f m) d := by kernel_rfl
def y5d (k : Nat) : Vm.Spec := { ps := [.slice (.int .u32), .slice (.int .u32)], rs := [.fresh (.int .u32)], f := fun x => zq3 k x.1 x.2 }
noncomputable def y6x : Vm.Spec := y5d fuel
theorem y4i : Vm.Spec.holds Tryd.prog 79 y6x := z1d (E := y6q) (L := y57) (fn := Tryd.f79) (Z := y5d) (z26 ok) (z0w (by exact trivial)) z1f (z0e rfl) (z01 rfl) (by kernel_rfl) (by kernel_rfl) (z0r (ls := [(6, l_nat_N_Add_6L)]) rfl rfl ⟨by kernel_rfl, fun _ => rfl, y3b, z0s (by kernel_rfl)⟩) fun k x => by kernel_rfl
noncomputable def yn8 : Env := { te := te, spec := [(73, zf2), (75, z8v), (77, zf3), (78, y2o), (79, y6x), (80, y6y)], body := [] }
def yf3 : z2g := []
def z6w (k : Nat) (a0 : Bool × ((List Int) × (List Int))) (a1 : Bool × ((List Int) × (List Int))) : Option (Bool × ((List Int) × (List Int))) :=
 if ((a0.2.1.length : Int) == 0) = true then
 some a1
 else
 if ((a1.2.1.length : Int) == 0) = true then
 some a0
 else
 (z2w fuel a1).bind fun r1 =>
 (z4g fuel a0.2.1 r1).bind fun r2 =>
 (z2w fuel a0).bind fun r3 =>
 (z4g fuel a1.2.1 r3).bind fun r4 =>
 (z2w fuel a0).bind fun r5 =>
 (z2w fuel a1).bind fun r6 =>
 (z4g fuel r5 r6).bind fun r7 =>
 if (a0.1 == a1.1) = true then
 (zq3 fuel r2 r4).bind fun r8 =>
 (za8 fuel a0.1 r8 r7).bind fun r9 =>
 some r9
 else
 (z4f fuel r2 r4).bind fun r10 =>
 if decide (r10 ≥ 0) = true then
 (zg3 fuel r2 r4).bind fun r11 =>
 (za8 fuel a0.1 r11 r7).bind fun r12 =>
 some r12
 else
 (zg3 fuel r4 r2).bind fun r13 =>
 (za8 fuel a1.1 r13 r7).bind fun r14 =>
 some r14
def y5k (k : Nat) : Vm.Spec := { ps := [qT, qT], rs := [.imm qT], f := fun x => z6w k x.1 x.2 }
noncomputable def zp3 : Vm.Spec := y5k fuel
theorem z9j : Vm.Spec.holds Tryd.prog 55 zp3 := z1d (E := yn8) (L := yf3) (fn := Tryd.f55) (Z := y5k) (z26 ok) (z0w (by exact ⟨⟨by kernel_rfl, z7a⟩, ⟨by kernel_rfl, z64⟩, ⟨by kernel_rfl, z7b⟩, ⟨by kernel_rfl, zg4⟩, ⟨by kernel_rfl, y4i⟩, ⟨by kernel_rfl, y4j⟩, trivial⟩)) z1f (z0e rfl) (z01 rfl) (by kernel_rfl) (by kernel_rfl) (z0v rfl) fun k x => by kernel_rfl
noncomputable def yo4 : Env := { te := te, spec := [(38, y1o), (55, zp3)], body := [] }
def yf9 : z2g := []
def z50 (k : Nat) (a0 : Bool × ((List Int) × (List Int))) (a1 : Bool × ((List Int) × (List Int))) : Option (Bool × ((List Int) × (List Int))) :=
 (z8b fuel a1).bind fun r1 =>
 (z6w fuel a0 r1).bind fun r2 =>
 some r2
def y5q (k : Nat) : Vm.Spec := { ps := [qT, qT], rs := [.imm qT], f := fun x => z50 k x.1 x.2 }
noncomputable def zf4 : Vm.Spec := y5q fuel
theorem z7c : Vm.Spec.holds Tryd.prog 63 zf4 := z1d (E := yo4) (L := yf9) (fn := Tryd.f63) (Z := y5q) (z26 ok) (z0w (by exact ⟨⟨by kernel_rfl, zm5⟩, ⟨by kernel_rfl, z9j⟩, trivial⟩)) z1f (z0e rfl) (z01 rfl) (by kernel_rfl) (by kernel_rfl) (z0v rfl) fun k x => by kernel_rfl
noncomputable def yo0 : Env := { te := te, spec := [(75, z8v), (77, zf3), (78, y2o)], body := [] }
def yf5 : z2g := []
def z36 (k : Nat) (a0 : Bool × ((List Int) × (List Int))) (a1 : Bool × ((List Int) × (List Int))) : Option (Bool × ((List Int) × (List Int))) :=
 if ((a0.2.1.length : Int) == 0) = false then
 if ((a1.2.1.length : Int) == 0) = true then
 some (false, ([], []))
 else
 (z4g fuel a0.2.1 a1.2.1).bind fun r1 =>
 (z2w fuel a0).bind fun r2 =>
 (z2w fuel a1).bind fun r3 =>
 (z4g fuel r2 r3).bind fun r4 =>
 (za8 fuel (!(a0.1 == a1.1)) r1 r4).bind fun r5 =>
 some r5
 else
 some (false, ([], []))
def y5m (k : Nat) : Vm.Spec := { ps := [qT, qT], rs := [.imm qT], f := fun x => z36 k x.1 x.2 }
noncomputable def zp5 : Vm.Spec := y5m fuel
theorem z9l : Vm.Spec.holds Tryd.prog 64 zp5 := z1d (E := yo0) (L := yf5) (fn := Tryd.f64) (Z := y5m) (z26 ok) (z0w (by exact ⟨⟨by kernel_rfl, z64⟩, ⟨by kernel_rfl, z7b⟩, ⟨by kernel_rfl, zg4⟩, trivial⟩)) z1f (z0e rfl) (z01 rfl) (by kernel_rfl) (by kernel_rfl) (z0v rfl) fun k x => by kernel_rfl
noncomputable def yo3 : Env := { te := te, spec := [(75, z8v), (77, zf3), (78, y2o)], body := [] }
def yf8 : z2g := []
def z5l (k : Nat) (a0 : Bool × ((List Int) × (List Int))) (a1 : Bool × ((List Int) × (List Int))) : Option (Bool × ((List Int) × (List Int))) :=
 if ((a0.2.1.length : Int) == 0) = false then
 if ((a1.2.1.length : Int) == 0) = true then
 some (false, ([], []))
 else
 (z2w fuel a1).bind fun r1 =>
 (z4g fuel a0.2.1 r1).bind fun r2 =>
 (z2w fuel a0).bind fun r3 =>
 (z4g fuel r3 a1.2.1).bind fun r4 =>
 (za8 fuel (!(a0.1 == a1.1)) r2 r4).bind fun r5 =>
 some r5
 else
 some (false, ([], []))
def y5p (k : Nat) : Vm.Spec := { ps := [qT, qT], rs := [.imm qT], f := fun x => z5l k x.1 x.2 }
noncomputable def y1q : Vm.Spec := y5p fuel
theorem zm7 : Vm.Spec.holds Tryd.prog 82 y1q := z1d (E := yo3) (L := yf8) (fn := Tryd.f82) (Z := y5p) (z26 ok) (z0w (by exact ⟨⟨by kernel_rfl, z64⟩, ⟨by kernel_rfl, z7b⟩, ⟨by kernel_rfl, zg4⟩, trivial⟩)) z1f (z0e rfl) (z01 rfl) (by kernel_rfl) (by kernel_rfl) (z0v rfl) fun k x => by kernel_rfl
noncomputable def yn9 : Env := { te := te, spec := [(49, z5y), (63, zf4)], body := [] }
def yf4 : z2g := []
def z6x (k : Nat) (a0 : Bool × ((List Int) × (List Int))) (a1 : Bool × ((List Int) × (List Int))) : Option (Int) :=
 (z50 fuel a0 a1).bind fun r1 =>
 (z1i fuel r1).bind fun r2 =>
 some r2
def y5l (k : Nat) : Vm.Spec := { ps := [qT, qT], rs := [.imm (.int .i64)], f := fun x => z6x k x.1 x.2 }
noncomputable def zp4 : Vm.Spec := y5l fuel
theorem z9k : Vm.Spec.holds Tryd.prog 48 zp4 := z1d (E := yn9) (L := yf4) (fn := Tryd.f48) (Z := y5l) (z26 ok) (z0w (by exact ⟨⟨by kernel_rfl, z3e⟩, ⟨by kernel_rfl, z7c⟩, trivial⟩)) z1f (z0e rfl) (z01 rfl) (by kernel_rfl) (by kernel_rfl) (z0v rfl) fun k x => by kernel_rfl
noncomputable def z9a : Env := { te := te, spec := [], body := [] }
def l_strings_trimLeftByte_1H : Ann := { slots := [(0, .one (.val .str)), (1, .one (.val (.int .u8)))], objs := [] }
def z83 : Ann := { slots := [(0, .one (.val .str))], objs := [] }
def z82 : Ann := { slots := [], objs := [] }
def z2r : Nat → ByteArray → Int → Option (LR z83 z82)
 | 0, _, _ => none
 | m + 1, s0, s1 =>
  if decide ((s0.size : Int) > 0) = true then
  if (0 : Int) < (s0.size : Int) then
  if (((s0.data.getD 0 0).toNat : Int) == s1) = true then
  if (1 : Int) ≤ s0.size then
  z2r m (s0.extract 1 s0.size) s1
  else none
  else
  some (.exit (s0, ()))
  else none
  else
  some (.exit (s0, ()))
def l_strings_trimLeftByte_1L : LSpec := { h := l_strings_trimLeftByte_1H, x := z83, r := z82, xid := 0, rt := false, pins := [], f := fun k d => z2r k d.1 d.2.1 }
def z8u : z2g := [([93], [(1, l_strings_trimLeftByte_1L)])]
def z6j (k : Nat) (a0 : ByteArray) (a1 : Int) : Option (ByteArray) :=
 match z2r k a0 a1 with
 | none => none
 | some (.exit d1) =>
  some d1.1
 | some (.ret d1) =>
  none
theorem zd1 (m : Nat) (d : dens l_strings_trimLeftByte_1H.tys) : l_strings_trimLeftByte_1L.f (m + 1) d = round z9a z8u m [93] 17 (z31 (z1h Tryd.f93) 0) l_strings_trimLeftByte_1L (l_strings_trimLeftByte_1L.f m) d := by kernel_rfl
def z8z (k : Nat) : Vm.Spec := { ps := [.str, .int .u8], rs := [.imm .str], f := fun x => z6j k x.1 x.2 }
noncomputable def z9b : Vm.Spec := z8z fuel
theorem zd9 : Vm.Spec.holds Tryd.prog 93 z9b := z1d (E := z9a) (L := z8u) (fn := Tryd.f93) (Z := z8z) (z26 ok) (z0w (by exact trivial)) z1f (z0e rfl) (z01 rfl) (by kernel_rfl) (by kernel_rfl) (z0r (ls := [(1, l_strings_trimLeftByte_1L)]) rfl rfl ⟨by kernel_rfl, fun _ => rfl, zd1, z0s (by kernel_rfl)⟩) fun k x => by kernel_rfl
noncomputable def y2g : Env := { te := te, spec := [(93, z9b)], body := [] }
def y1j : z2g := []
def z6n (k : Nat) (a0 : ByteArray) (a1 : ByteArray) : Option (ByteArray) :=
 if ((a0.toList == (⟨#[]⟩ : ByteArray).toList)) = false then
 if ((a1.toList == (⟨#[]⟩ : ByteArray).toList)) = true then
 some a0
 else
 if ((a1.size : Int) == 1) = true then
 if (0 : Int) < (a1.size : Int) then
 if decide (((a1.data.getD 0 0).toNat : Int) < 128) = true then
 if (0 : Int) < (a1.size : Int) then
 (z6j fuel a0 ((a1.data.getD 0 0).toNat : Int)).bind fun r1 =>
 some r1
 else none
 else none
 else none
 else none
 else
 some a0
def zf7 (k : Nat) : Vm.Spec := { ps := [.str, .str], rs := [.imm .str], f := fun x => z6n k x.1 x.2 }
noncomputable def zi4 : Vm.Spec := zf7 fuel
theorem zm9 : Vm.Spec.holds Tryd.prog 87 zi4 := z1d (E := y2g) (L := y1j) (fn := Tryd.f87) (Z := zf7) (z26 ok) (z0w (by exact ⟨⟨by kernel_rfl, zd9⟩, trivial⟩)) z1f (z0e rfl) (z01 rfl) (by kernel_rfl) (by kernel_rfl) (z0v rfl) fun k x => by kernel_rfl
noncomputable def zu4 : Env := { te := te, spec := [(87, zi4)], body := [] }
def l_nat_N_Text_10H : Ann := { slots := [(5, .one (.val (.int .u32))), (6, .one (.fix (.pbox 24 0))), (7, .one (.val (.int .i64)))], objs := [(24, .box [.val (.arr 9 (.int .u8))])] }
def zt0 : Ann := { slots := [(6, .one (.fix (.pbox 24 0)))], objs := [(24, .box [.val (.arr 9 (.int .u8))])] }
def zs9 : Ann := { slots := [], objs := [] }
def l_nat_N_Text_5H : Ann := { slots := [(0, .one (.val (.slice (.int .u32)))), (3, .one (.own 56 (.int .u8))), (4, .one (.val (.int .i64)))], objs := [(56, .buf (.int .u8))] }
def zx5 : Ann := { slots := [(3, .one (.own 56 (.int .u8)))], objs := [(56, .buf (.int .u8))] }
def zx4 : Ann := { slots := [], objs := [] }
def z52 : Nat → Int → Int → List Int → Option (LR zt0 zs9)
 | 0, _, _, _ => none
 | m + 1, s5, s7, b24_0 =>
  if decide (s7 ≥ 0) = true then
  if (0 : Int) ≤ s7 then
  if s7 < 9 then
  z52 m (IntKind.u32.wrap (s5.tdiv 10)) (IntKind.i64.wrap (s7 - 1)) (b24_0.set s7.toNat (IntKind.u8.wrap (IntKind.u32.wrap (48 + (s5.tmod 10)))))
  else none
  else none
  else
  some (.exit (b24_0, ()))
def l_nat_N_Text_10L : LSpec := { h := l_nat_N_Text_10H, x := zt0, r := zs9, xid := 2, rt := false, pins := [24], f := fun k d => z52 k d.1 d.2.1 d.2.2.1 }
def z5o : Nat → List Int → Int → List Int → Option (LR zx5 zx4)
 | 0, _, _, _ => none
 | m + 1, s0, s4, b56 =>
  if decide (s4 ≥ 0) = true then
  if (0 : Int) ≤ s4 then
  if s4 < s0.length then
  match z52 m (s0.getD s4.toNat 0) 8 (List.replicate 9 0) with
  | none => none
  | some (.exit d1) =>
   if (b56.length + ((d1.1.take 9).drop 0).length) * 1 ≤ 140737488355328 then
   z5o m s0 (IntKind.i64.wrap (s4 - 1)) (b56 ++ ((d1.1.take 9).drop 0))
   else none
  | some (.ret d1) =>
   none
  else none
  else none
  else
  some (.exit (b56, ()))
def l_nat_N_Text_5L : LSpec := { h := l_nat_N_Text_5H, x := zx5, r := zx4, xid := 0, rt := false, pins := [], f := fun k d => z5o k d.1 d.2.1 d.2.2.1 }
def zp0 : z2g := [([74], [(5, l_nat_N_Text_5L), (10, l_nat_N_Text_10L)])]
def z6t (k : Nat) (a0 : List Int) : Option (ByteArray) :=
 if ((a0.length : Int) == 0) = true then
 some (⟨#[48]⟩ : ByteArray)
 else
 if (0 : Int) ≤ IntKind.i64.wrap (9 * (a0.length : Int)) then
 if (IntKind.i64.wrap (9 * (a0.length : Int))) * 1 ≤ 281474976710656 then
 match z5o k a0 (IntKind.i64.wrap ((a0.length : Int) - 1)) (List.replicate 0 0) with
 | none => none
 | some (.exit d1) =>
  (z6n fuel (⟨(d1.1.map fun n => UInt8.ofNat n.toNat).toArray⟩ : ByteArray) (⟨#[48]⟩ : ByteArray)).bind fun r2 =>
  some r2
 | some (.ret d1) =>
  none
 else none
 else none
theorem y0d (m : Nat) (d : dens l_nat_N_Text_10H.tys) : l_nat_N_Text_10L.f (m + 1) d = round zu4 zp0 m [74] 44 (z31 (z1h Tryd.f74) 1) l_nat_N_Text_10L (l_nat_N_Text_10L.f m) d := by kernel_rfl
theorem y22 (m : Nat) (d : dens l_nat_N_Text_5H.tys) : l_nat_N_Text_5L.f (m + 1) d = round zu4 zp0 m [74] 44 (z31 (z1h Tryd.f74) 0) l_nat_N_Text_5L (l_nat_N_Text_5L.f m) d := by kernel_rfl
def y2r (k : Nat) : Vm.Spec := { ps := [.slice (.int .u32)], rs := [.imm .str], f := fun x => z6t k x }
noncomputable def zv1 : Vm.Spec := y2r fuel
theorem zi7 : Vm.Spec.holds Tryd.prog 74 zv1 := z1d (E := zu4) (L := zp0) (fn := Tryd.f74) (Z := y2r) (z26 ok) (z0w (by exact ⟨⟨by kernel_rfl, zm9⟩, trivial⟩)) z1f (z0e rfl) (z01 rfl) (by kernel_rfl) (by kernel_rfl) (z0r (ls := [(5, l_nat_N_Text_5L), (10, l_nat_N_Text_10L)]) rfl rfl ⟨by kernel_rfl, fun _ => rfl, y22, by kernel_rfl, fun _ => rfl, y0d, z0s (by kernel_rfl)⟩) fun k x => by kernel_rfl
noncomputable def yo2 : Env := { te := te, spec := [(74, zv1), (75, z8v)], body := [] }
def yf7 : z2g := []
def z9m (k : Nat) (a0 : Bool × ((List Int) × (List Int))) : Option (ByteArray) :=
 if ((a0.2.1.length : Int) == 0) = true then
 some (⟨#[48]⟩ : ByteArray)
 else
 (z6t fuel a0.2.1).bind fun r1 =>
 if a0.1 = true then
 if (⟨#[45]⟩ : ByteArray).size + r1.size ≤ 4611686018427387904 then
 (z2w fuel a0).bind fun r2 =>
 (z6t fuel r2).bind fun r3 =>
 if (!(r3.toList == (⟨#[49]⟩ : ByteArray).toList)) = true then
 if (⟨#[47]⟩ : ByteArray).size + r3.size ≤ 4611686018427387904 then
 if ((⟨#[45]⟩ : ByteArray) ++ r1).size + ((⟨#[47]⟩ : ByteArray) ++ r3).size ≤ 4611686018427387904 then
 some (((⟨#[45]⟩ : ByteArray) ++ r1) ++ ((⟨#[47]⟩ : ByteArray) ++ r3))
 else none
 else none
 else
 some ((⟨#[45]⟩ : ByteArray) ++ r1)
 else none
 else
 (z2w fuel a0).bind fun r4 =>
 (z6t fuel r4).bind fun r5 =>
 if (!(r5.toList == (⟨#[49]⟩ : ByteArray).toList)) = true then
 if (⟨#[47]⟩ : ByteArray).size + r5.size ≤ 4611686018427387904 then
 if r1.size + ((⟨#[47]⟩ : ByteArray) ++ r5).size ≤ 4611686018427387904 then
 some (r1 ++ ((⟨#[47]⟩ : ByteArray) ++ r5))
 else none
 else none
 else
 some r1
def y5o (k : Nat) : Vm.Spec := { ps := [qT], rs := [.imm .str], f := fun x => z9m k x }
noncomputable def y1p : Vm.Spec := y5o fuel
theorem zm6 : Vm.Spec.holds Tryd.prog 53 y1p := z1d (E := yo2) (L := yf7) (fn := Tryd.f53) (Z := y5o) (z26 ok) (z0w (by exact ⟨⟨by kernel_rfl, zi7⟩, ⟨by kernel_rfl, z64⟩, trivial⟩)) z1f (z0e rfl) (z01 rfl) (by kernel_rfl) (by kernel_rfl) (z0v rfl) fun k x => by kernel_rfl
noncomputable def y8n : Env := { te := te, spec := [(74, zv1)], body := [] }
def y6v : z2g := []
def z6e (k : Nat) (a0 : List Int) : Option (Int) :=
 (z6t fuel a0).bind fun r1 =>
 some (r1.size : Int)
def zv8 (k : Nat) : Vm.Spec := { ps := [.slice (.int .u32)], rs := [.imm (.int .i64)], f := fun x => z6e k x }
noncomputable def y0k : Vm.Spec := zv8 fuel
theorem y0a : Vm.Spec.holds Tryd.prog 81 y0k := z1d (E := y8n) (L := y6v) (fn := Tryd.f81) (Z := zv8) (z26 ok) (z0w (by exact ⟨⟨by kernel_rfl, zi7⟩, trivial⟩)) z1f (z0e rfl) (z01 rfl) (by kernel_rfl) (by kernel_rfl) (z0v rfl) fun k x => by kernel_rfl
noncomputable def w0r : Env := { te := te, spec := [(81, y0k)], body := [] }
def yo5 : z2g := []
def ze3 (k : Nat) (a0 : Bool × ((List Int) × (List Int))) : Option (Int) :=
 (z6e fuel a0.2.1).bind fun r1 =>
 if decide (r1 > 2000) = false then
 (z6e fuel a0.2.2).bind fun r2 =>
 if decide (r2 > 2000) = true then
 some 2
 else
 some 0
 else
 some 2
def y70 (k : Nat) : Vm.Spec := { ps := [qT], rs := [.imm (.int .i64)], f := fun x => ze3 k x }
noncomputable def y47 : Vm.Spec := y70 fuel
theorem zs7 : Vm.Spec.holds Tryd.prog 59 y47 := z1d (E := w0r) (L := yo5) (fn := Tryd.f59) (Z := y70) (z26 ok) (z0w (by exact ⟨⟨by kernel_rfl, y0a⟩, trivial⟩)) z1f (z0e rfl) (z01 rfl) (by kernel_rfl) (by kernel_rfl) (z0v rfl) fun k x => by kernel_rfl
noncomputable def y52 : Env := { te := te, spec := [(53, y1p), (59, y47)], body := [] }
def l_matrix_Out_3H : Ann := { slots := [(4, .one (.own 92 .str)), (8, .one (.val (.slice qT))), (9, .one (.val (.int .i64))), (10, .one (.val (.int .i64)))], objs := [(92, .buf .str)] }
def zw9 : Ann := { slots := [(4, .one (.own 92 .str))], objs := [(92, .buf .str)] }
def zw8 : Ann := { slots := [(2, .one (.fix .nil)), (3, .one (.val (.int .i64)))], objs := [] }
def z4v : Nat → List (Bool × ((List Int) × (List Int))) → Int → Int → List ByteArray → Option (LR zw9 zw8)
 | 0, _, _, _, _ => none
 | m + 1, s8, s9, s10, b92 =>
  if decide (s10 < s9) = true then
  if (0 : Int) ≤ s10 then
  if s10 < s8.length then
  (ze3 fuel ((s8.getD s10.toNat (false, ([], []))).1, ((s8.getD s10.toNat (false, ([], []))).2))).bind fun r1 =>
  if (r1 != 0) = true then
  some (.ret (r1, ()))
  else
  (z9m fuel ((s8.getD s10.toNat (false, ([], []))).1, ((s8.getD s10.toNat (false, ([], []))).2))).bind fun r2 =>
  if (b92.length + 1) * 16 ≤ 140737488355328 then
  z4v m s8 s9 (IntKind.i64.wrap (s10 + 1)) (b92 ++ [r2])
  else none
  else none
  else none
  else
  some (.exit (b92, ()))
def l_matrix_Out_3L : LSpec := { h := l_matrix_Out_3H, x := zw9, r := zw8, xid := 0, rt := true, pins := [], f := fun k d => z4v k d.1 d.2.1 d.2.2.1 d.2.2.2.1 }
def y2i : z2g := [([58], [(3, l_matrix_Out_3L)])]
def z60 (k : Nat) (a0 : List (Bool × ((List Int) × (List Int)))) : Option (List ByteArray × Int) :=
 match z4v k a0 (a0.length : Int) 0 [] with
 | none => none
 | some (.exit d1) =>
  some (d1.1, 0)
 | some (.ret d1) =>
  some ([], d1.1)
theorem y1y (m : Nat) (d : dens l_matrix_Out_3H.tys) : l_matrix_Out_3L.f (m + 1) d = round y52 y2i m [58] 26 (z31 (z1h Tryd.f58) 0) l_matrix_Out_3L (l_matrix_Out_3L.f m) d := by kernel_rfl
def y2p (k : Nat) : Vm.Spec := { ps := [.slice qT], rs := [.fresh .str, .imm (.int .i64)], f := fun x => z60 k x }
noncomputable def y5a : Vm.Spec := y2p fuel
theorem y34 : Vm.Spec.holds Tryd.prog 58 y5a := z1d (E := y52) (L := y2i) (fn := Tryd.f58) (Z := y2p) (z26 ok) (z0w (by exact ⟨⟨by kernel_rfl, zm6⟩, ⟨by kernel_rfl, zs7⟩, trivial⟩)) z1f (z0e rfl) (z01 rfl) (by kernel_rfl) (by kernel_rfl) (z0r (ls := [(3, l_matrix_Out_3L)]) rfl rfl ⟨by kernel_rfl, fun _ => rfl, y1y, z0s (by kernel_rfl)⟩) fun k x => by kernel_rfl
noncomputable def y63 : Env := { te := te, spec := [(53, y1p), (58, y5a), (59, y47)], body := [] }
def y45 : z2g := []
def z12 (k : Nat) (a0 : Int) (a1 : List (Bool × ((List Int) × (List Int)))) (a2 : List (Bool × ((List Int) × (List Int)))) (a3 : List (Bool × ((List Int) × (List Int)))) (a4 : Bool × ((List Int) × (List Int))) : Option ((Int × ((List ByteArray) × ((List ByteArray) × ((List ByteArray) × ByteArray)))) × Int) :=
 (z60 fuel a1).bind fun r1 =>
 if (r1.2 != 0) = true then
 some ((0, ([], ([], ([], ByteArray.empty)))), r1.2)
 else
 (z60 fuel a2).bind fun r2 =>
 if (r2.2 != 0) = true then
 some ((0, ([], ([], ([], ByteArray.empty)))), r2.2)
 else
 (z60 fuel a3).bind fun r3 =>
 if (r3.2 != 0) = true then
 some ((0, ([], ([], ([], ByteArray.empty)))), r3.2)
 else
 (ze3 fuel a4).bind fun r4 =>
 if (r4 != 0) = true then
 some ((0, ([], ([], ([], ByteArray.empty)))), r4)
 else
 if (a0 == 0) = true then
 (z9m fuel a4).bind fun r5 =>
 some ((a0, (r1.1, (r2.1, (r3.1, r5)))), 0)
 else
 some ((a0, (r1.1, (r2.1, (r3.1, ByteArray.empty)))), 0)
def zl6 (k : Nat) : Vm.Spec := { ps := [.int .i64, .slice qT, .slice qT, .slice qT, qT], rs := [.imm (.pair (.int .i64) (.pair (.slice .str) (.pair (.slice .str) (.pair (.slice .str) .str)))), .imm (.int .i64)], f := fun x => z12 k x.1 x.2.1 x.2.2.1 x.2.2.2.1 x.2.2.2.2 }
noncomputable def zr9 : Vm.Spec := zl6 fuel
theorem zt8 : Vm.Spec.holds Tryd.prog 31 zr9 := z1d (E := y63) (L := y45) (fn := Tryd.f31) (Z := zl6) (z26 ok) (z0w (by exact ⟨⟨by kernel_rfl, zm6⟩, ⟨by kernel_rfl, y34⟩, ⟨by kernel_rfl, zs7⟩, trivial⟩)) z1f (z0e rfl) (z01 rfl) (by kernel_rfl) (by kernel_rfl) (z0v rfl) fun k x => by kernel_rfl
end Go.Proofs.YtcdcoeofhnfjdaaDoor
