/- Pure functions, printed by a program of this session out of the program. -/
import Derived.Test.YtcdcoeofhnfjdaaGreatDoorVmD
import Derived.Test.YtcdcoeofhnfjdaaGreatDoorSh
set_option linter.unusedVariables false
namespace Go.Proofs.YtcdcoeofhnfjdaaGreatDoor
open Go Vm Go.Proofs
abbrev qT : Ty := .pair .bool (.pair (.slice (.int .u32)) (.slice (.int .u32)))
def a0 : Ann := { slots := [], objs := [] }
def te : TE := [(2, ⟨.int .i64, .sc, 8⟩),
  (3, ⟨.int .i64, .sc, 8⟩),
  (4, ⟨.bool, .sc, 1⟩),
  (5, ⟨.int .u8, .sc, 1⟩),
  (9, ⟨.str, .sc, 16⟩),
  (23, ⟨.slice (.slice .str), .slice 28, 24⟩),
  (26, ⟨.str, .sc, 16⟩),
  (27, ⟨.slice .str, .slice 26, 24⟩),
  (28, ⟨.slice .str, .slice 26, 24⟩),
  (30, ⟨.pair .str (.pair (.slice .str) (.slice .str)), .st [26, 28, 28], 64⟩),
  (31, ⟨.int .i64, .sc, 8⟩),
  (45, ⟨.slice (.int .i64), .slice 3, 24⟩),
  (51, ⟨.slice (.slice (.slice .str)), .slice 23, 24⟩),
  (57, ⟨.slice (.slice qT), .slice 66, 24⟩),
  (60, ⟨.slice (.int .u32), .slice 124, 24⟩),
  (62, ⟨qT, .st [4, 60, 60], 56⟩),
  (66, ⟨.slice qT, .slice 62, 24⟩),
  (71, ⟨.pair (.slice (.slice .str)) (.pair (.slice .str) (.slice .str)), .st [23, 28, 28], 72⟩),
  (73, ⟨.pair (.int .i64) (.pair (.slice .str) (.pair (.slice .str) (.pair (.slice .str) .str))), .st [3, 28, 28, 28, 26], 96⟩),
  (89, ⟨.slice (.int .i64), .slice 31, 24⟩),
  (100, ⟨.int .u64, .sc, 8⟩),
  (104, ⟨.opq, .ptr 108, 8⟩),
  (108, ⟨.pair (.slice (.slice qT)) (.pair (.slice (.int .i64)) (.pair (.int .i64) (.int .i64))), .st [57, 45, 3, 3], 64⟩),
  (124, ⟨.int .u32, .sc, 4⟩),
  (125, ⟨.int .u64, .sc, 8⟩),
  (133, ⟨.slice (.int .u8), .slice 5, 24⟩),
  (141, ⟨.arr 9 (.int .u8), .ar 9 5, 9⟩)]
theorem ok : EOk Tryz.prog { te := te, spec := [], body := [] } := v0b (by kernel_rfl)
theorem z0w : Tryz.prog.follows .mixedOrders = true := by kernel_rfl
noncomputable def wh4 : Env := { te := te, spec := [], body := [] }
def w3q : Ann := { slots := [(0, .one (.val (.int .i64))), (3, .one (.own 44 (.int .u32)))], objs := [(44, .buf (.int .u32))] }
def yg8 : Ann := { slots := [(3, .one (.own 44 (.int .u32)))], objs := [(44, .buf (.int .u32))] }
def zn3 : Nat -> Int -> List Int -> Option (LR yg8 a0)
 | 0, _, _ => none
 | m + 1, s0, b44 =>
  if decide (s0 > 0) = true then if (b44.length + 1) * 4 <= 140737488355328 then
  zn3 m (IntKind.i64.wrap (s0.tdiv 1000000000)) (b44 ++ [IntKind.u32.wrap (s0.tmod 1000000000)])
  else none
  else
  some (.exit (b44, ()))
def yg7 : LSpec := { h := w3q, x := yg8, r := a0, xid := 0, rt := false, pins := [], f := fun k d => zn3 k d.1 d.2.1 }
def w8d : z1w := [([49], [(2, yg7)])]
def z6e (k : Nat) (a0 : Int) : Option (List Int) :=
 match zn3 k a0 [] with
 | none => none
 | some (.exit d1) =>
  some d1.1
 | some (.ret d1) =>
  none
def yz4 (k : Nat) : Vm.Spec := { ps := [.int .i64], rs := [.fresh (.int .u32)], f := fun x => z6e k x }
noncomputable def y33 : Vm.Spec := yz4 fuel
theorem z97 : Vm.Spec.holds Tryz.prog 49 y33 := z0v (E := wh4) (L := w8d) (fn := Tryz.f49) (Z := yz4) (z1h ok) (z0n (by exact trivial)) z0w (z07 rfl) (z01 rfl) (by kernel_rfl) (by kernel_rfl) (z0i (ls := [(2, yg7)]) rfl rfl ⟨by kernel_rfl, fun _ => rfl, fun _ _ => by kernel_rfl, z0j (by kernel_rfl)⟩) fun k x => by kernel_rfl
noncomputable def w2d : Env := { te := te, spec := [], body := [] }
def yl9 : Ann := { slots := [(0, .one (.val (.slice (.int .u32)))), (1, .one (.val (.slice (.int .u32)))), (5, .one (.val (.int .i64)))], objs := [] }
def y4f : Ann := { slots := [(4, .one (.val (.int .i64)))], objs := [] }
def z8e : Nat -> List Int -> List Int -> Int -> Option (LR a0 y4f)
 | 0, _, _, _ => none
 | m + 1, s0, s1, s5 =>
  if decide (s5 >= 0) = true then if (0 : Int) <= s5 then if s5 < s0.length then if (0 : Int) <= s5 then if s5 < s1.length then if decide (s0.getD s5.toNat 0 < s1.getD s5.toNat 0) = true then
  some (.ret ((-1), ()))
  else
  if (0 : Int) <= s5 then if s5 < s0.length then if (0 : Int) <= s5 then if s5 < s1.length then if decide (s0.getD s5.toNat 0 > s1.getD s5.toNat 0) = true then
  some (.ret (1, ()))
  else
  z8e m s0 s1 (IntKind.i64.wrap (s5 - 1))
  else none else none else none else none else none else none else none else none
  else
  some (.exit ())
def y4e : LSpec := { h := yl9, x := a0, r := y4f, xid := 0, rt := true, pins := [], f := fun k d => z8e k d.1 d.2.1 d.2.2.1 }
def yy0 : z1w := [([55], [(6, y4e)])]
def z4x (k : Nat) (a0 : List Int) (a1 : List Int) : Option (Int) :=
 if ((a0.length : Int) != (a1.length : Int)) = true then if decide ((a0.length : Int) < (a1.length : Int)) = true then
 some (-1)
 else
 some 1
 else
 match z8e k a0 a1 (IntKind.i64.wrap ((a0.length : Int) - 1)) with
 | none => none
 | some (.exit d1) =>
  some 0
 | some (.ret d1) =>
  some d1.1
def y8t (k : Nat) : Vm.Spec := { ps := [.slice (.int .u32), .slice (.int .u32)], rs := [.imm (.int .i64)], f := fun x => z4x k x.1 x.2 }
noncomputable def zo0 : Vm.Spec := y8t fuel
theorem z87 : Vm.Spec.holds Tryz.prog 55 zo0 := z0v (E := w2d) (L := yy0) (fn := Tryz.f55) (Z := y8t) (z1h ok) (z0n (by exact trivial)) z0w (z07 rfl) (z01 rfl) (by kernel_rfl) (by kernel_rfl) (z0i (ls := [(6, y4e)]) rfl rfl ⟨by kernel_rfl, fun _ => rfl, fun _ _ => by kernel_rfl, z0j (by kernel_rfl)⟩) fun k x => by kernel_rfl
noncomputable def y09 : Env := { te := te, spec := [], body := [] }
def zx4 : z1w := []
def z59 (k : Nat) (a0 : ByteArray) (a1 : ByteArray) : Option (Bool) :=
 if decide ((a0.size : Int) >= (a1.size : Int)) = true then if (0 : Int) <= (a1.size : Int) then if (a1.size : Int) <= a0.size then
 some (((a0.extract 0 (a1.size : Int).toNat).toList == a1.toList))
 else none else none
 else
 some false
def z9x (k : Nat) : Vm.Spec := { ps := [.str, .str], rs := [.imm .bool], f := fun x => z59 k x.1 x.2 }
noncomputable def zb4 : Vm.Spec := z9x fuel
theorem zj6 : Vm.Spec.holds Tryz.prog 92 zb4 := z0v (E := y09) (L := zx4) (fn := Tryz.f92) (Z := z9x) (z1h ok) (z0n (by exact trivial)) z0w (z07 rfl) (z01 rfl) (by kernel_rfl) (by kernel_rfl) (z0o rfl) fun k x => by kernel_rfl
noncomputable def y08 : Env := { te := te, spec := [(92, zb4)], body := [] }
def zx3 : z1w := []
def z58 (k : Nat) (a0 : ByteArray) (a1 : ByteArray) : Option (ByteArray × Bool) :=
 (z59 fuel a0 a1).bind fun r1 =>
 if (!r1) = true then
 some (a0, false)
 else
 if (0 : Int) <= (a1.size : Int) then if (a1.size : Int) <= a0.size then
 some (a0.extract (a1.size : Int).toNat a0.size, true)
 else none else none
def z9w (k : Nat) : Vm.Spec := { ps := [.str, .str], rs := [.imm .str, .imm .bool], f := fun x => z58 k x.1 x.2 }
noncomputable def zb3 : Vm.Spec := z9w fuel
theorem zj5 : Vm.Spec.holds Tryz.prog 84 zb3 := z0v (E := y08) (L := zx3) (fn := Tryz.f84) (Z := z9w) (z1h ok) (z0n (by exact ⟨⟨by kernel_rfl, zj6⟩, trivial⟩)) z0w (z07 rfl) (z01 rfl) (by kernel_rfl) (by kernel_rfl) (z0o rfl) fun k x => by kernel_rfl
noncomputable def y4x : Env := { te := te, spec := [(84, zb3)], body := [] }
def y3m : z1w := []
def z2n (k : Nat) (a0 : ByteArray) (a1 : ByteArray) : Option (ByteArray × Bool) :=
 (z58 fuel a0 a1).bind fun r1 =>
 some (r1.1, r1.2)
def zk5 (k : Nat) : Vm.Spec := { ps := [.str, .str], rs := [.imm .str, .imm .bool], f := fun x => z2n k x.1 x.2 }
noncomputable def z9i : Vm.Spec := zk5 fuel
theorem z99 : Vm.Spec.holds Tryz.prog 66 z9i := z0v (E := y4x) (L := y3m) (fn := Tryz.f66) (Z := zk5) (z1h ok) (z0n (by exact ⟨⟨by kernel_rfl, zj5⟩, trivial⟩)) z0w (z07 rfl) (z01 rfl) (by kernel_rfl) (by kernel_rfl) (z0o rfl) fun k x => by kernel_rfl
noncomputable def y7k : Env := { te := te, spec := [(93, Vm.sIndex)], body := [] }
def y5w : z1w := []
def z8c (k : Nat) (a0 : ByteArray) (a1 : ByteArray) : Option (ByteArray × ByteArray × Bool) :=
 (Vm.stdIndex a0 a1).bind fun r1 =>
 if decide (r1 >= 0) = true then if (0 : Int) <= r1 then if r1 <= a0.size then if (0 : Int) <= IntKind.i64.wrap (r1 + (a1.size : Int)) then if IntKind.i64.wrap (r1 + (a1.size : Int)) <= a0.size then
 some (a0.extract 0 r1.toNat, a0.extract (IntKind.i64.wrap (r1 + (a1.size : Int))).toNat a0.size, true)
 else none else none else none else none
 else
 some (a0, (⟨#[]⟩ : ByteArray), false)
def zt9 (k : Nat) : Vm.Spec := { ps := [.str, .str], rs := [.imm .str, .imm .str, .imm .bool], f := fun x => z8c k x.1 x.2 }
noncomputable def zx5 : Vm.Spec := zt9 fuel
theorem y0p : Vm.Spec.holds Tryz.prog 85 zx5 := z0v (E := y7k) (L := y5w) (fn := Tryz.f85) (Z := zt9) (z1h ok) (z0n (by exact ⟨⟨by kernel_rfl, w9v⟩, trivial⟩)) z0w (z07 rfl) (z01 rfl) (by kernel_rfl) (by kernel_rfl) (z0o rfl) fun k x => by kernel_rfl
noncomputable def yr3 : Env := { te := te, spec := [(85, zx5)], body := [] }
def yk9 : z1w := []
def z5y (k : Nat) (a0 : ByteArray) (a1 : ByteArray) : Option (ByteArray × ByteArray × Bool) :=
 (z8c fuel a0 a1).bind fun r1 =>
 some (r1.1, r1.2.1, r1.2.2)
def y42 (k : Nat) : Vm.Spec := { ps := [.str, .str], rs := [.imm .str, .imm .str, .imm .bool], f := fun x => z5y k x.1 x.2 }
noncomputable def y0g : Vm.Spec := y42 fuel
theorem zp6 : Vm.Spec.holds Tryz.prog 67 y0g := z0v (E := yr3) (L := yk9) (fn := Tryz.f67) (Z := y42) (z1h ok) (z0n (by exact ⟨⟨by kernel_rfl, y0p⟩, trivial⟩)) z0w (z07 rfl) (z01 rfl) (by kernel_rfl) (by kernel_rfl) (z0o rfl) fun k x => by kernel_rfl
noncomputable def w6p : Env := { te := te, spec := [], body := [(78, Tryz.f78)] }
def yu4 : Ann := { slots := [(5, .one (.val (.int .u32))), (20, .one (.val (.slice (.int .u8)))), (21, .one (.val (.int .i64))), (22, .one (.val (.int .i64)))], objs := [] }
def y6u : Ann := { slots := [(5, .one (.val (.int .u32)))], objs := [] }
def yu3 : Ann := { slots := [(0, .one (.val .str)), (3, .one (.own 144 (.int .u32))), (4, .one (.val (.int .i64)))], objs := [(144, .buf (.int .u32))] }
def y6s : Ann := { slots := [(3, .one (.own 144 (.int .u32)))], objs := [(144, .buf (.int .u32))] }
def zw6 : Ann := { slots := [(0, .one (.pre 148 (.int .u32)))], objs := [(148, .buf (.int .u32))] }
def z9b : Ann := { slots := [(0, .one (.pre 148 (.int .u32)))], objs := [(148, .buf (.int .u32))] }
def za6 : Nat -> Int -> List Int -> Int -> Int -> Option (LR y6u a0)
 | 0, _, _, _, _ => none
 | m + 1, s5, s20, s21, s22 =>
  if decide (s22 < s21) = true then if (0 : Int) <= s22 then if s22 < s20.length then
  za6 m (IntKind.u32.wrap ((IntKind.u32.wrap (s5 * 10)) + (IntKind.u32.wrap (IntKind.u8.wrap ((s20.getD s22.toNat 0) - 48))))) s20 s21 (IntKind.i64.wrap (s22 + 1))
  else none else none
  else
  some (.exit (s5, ()))
def y6t : LSpec := { h := yu4, x := y6u, r := a0, xid := 2, rt := false, pins := [], f := fun k d => za6 k d.1 d.2.1 d.2.2.1 d.2.2.2.1 }
def za5 : Nat -> ByteArray -> Int -> List Int -> Option (LR y6s a0)
 | 0, _, _, _ => none
 | m + 1, s0, s4, b144 =>
  if decide (s4 > 0) = true then if (0 : Int) <= s4 then if s4 <= s0.size then if (0 : Int) <= (if IntKind.i64.wrap (s4 - 9) > 0 then IntKind.i64.wrap (s4 - 9) else 0) then if (if IntKind.i64.wrap (s4 - 9) > 0 then IntKind.i64.wrap (s4 - 9) else 0) <= s4 then
  match za6 m 0 ((s0.extract (if IntKind.i64.wrap (s4 - 9) > 0 then IntKind.i64.wrap (s4 - 9) else 0).toNat s4.toNat).data.toList.map fun c => (c.toNat : Int)) (((s0.extract (if IntKind.i64.wrap (s4 - 9) > 0 then IntKind.i64.wrap (s4 - 9) else 0).toNat s4.toNat).data.toList.map fun c => (c.toNat : Int)).length : Int) 0 with
  | none => none
  | some (.exit d1) =>
   if (b144.length + 1) * 4 <= 140737488355328 then
   za5 m s0 (IntKind.i64.wrap (s4 - 9)) (b144 ++ [d1.1])
   else none
  | some (.ret d1) =>
   none
  else none else none else none else none
  else
  some (.exit (b144, ()))
def y6r : LSpec := { h := yu3, x := y6s, r := a0, xid := 0, rt := false, pins := [], f := fun k d => za5 k d.1 d.2.1 d.2.2.1 }
def z31 : Nat -> Nat -> List Int -> Option (LR z9b a0)
 | 0, _, _ => none
 | m + 1, s0, b148 =>
  if decide ((s0 : Int) > 0) = true then if (0 : Int) <= IntKind.i64.wrap ((s0 : Int) - 1) then if IntKind.i64.wrap ((s0 : Int) - 1) < s0 then if (b148.getD ((IntKind.i64.wrap ((s0 : Int) - 1)).toNat) 0 == 0) = true then if (0 : Int) <= IntKind.i64.wrap ((s0 : Int) - 1) then if IntKind.i64.wrap ((s0 : Int) - 1) <= s0 then
  z31 m ((IntKind.i64.wrap ((s0 : Int) - 1)).toNat) b148
  else none else none
  else
  some (.exit (s0, b148, ()))
  else none else none
  else
  some (.exit (s0, b148, ()))
def z9a : LSpec := { h := zw6, x := z9b, r := a0, xid := 0, rt := false, pins := [148], f := fun k d => z31 k d.1 d.2.1 }
def w2r : z1w := [([68], [(3, y6r), (7, y6t)]), ([78, 68], [(1, z9a)])]
def z3r (k : Nat) (a0 : ByteArray) : Option (List Int) :=
 match za5 k a0 (a0.size : Int) [] with
 | none => none
 | some (.exit d1) =>
  match z31 k d1.1.length d1.1 with
  | none => none
  | some (.exit d2) =>
   some (d2.2.1.take d2.1)
  | some (.ret d2) =>
   none
 | some (.ret d1) =>
  none
def yd3 (k : Nat) : Vm.Spec := { ps := [.str], rs := [.fresh (.int .u32)], f := fun x => z3r k x }
noncomputable def y7p : Vm.Spec := yd3 fuel
theorem y17 : Vm.Spec.holds Tryz.prog 68 y7p := z0v (E := w6p) (L := w2r) (fn := Tryz.f68) (Z := yd3) (z1h ok) (z0n (by exact trivial)) z0w (zb6 (by exact ⟨by kernel_rfl, by kernel_rfl, trivial⟩)) (z4e (by exact ⟨(z26 [[68]] (by exact ⟨z0i (ls := [(1, z9a)]) rfl rfl ⟨by kernel_rfl, fun _ => rfl, fun _ _ => by kernel_rfl, z0j (by kernel_rfl)⟩,  trivial⟩) rfl),  trivial⟩)) (by kernel_rfl) (by kernel_rfl) (z0i (ls := [(3, y6r), (7, y6t)]) rfl rfl ⟨by kernel_rfl, fun _ => rfl, fun _ _ => by kernel_rfl, by kernel_rfl, fun _ => rfl, fun _ _ => by kernel_rfl, z0j (by kernel_rfl)⟩) fun k x => by kernel_rfl
noncomputable def w2b : Env := { te := te, spec := [], body := [] }
def yl7 : Ann := { slots := [(18, .one (.val (.slice (.int .u8)))), (19, .one (.val (.int .i64))), (20, .one (.val (.int .i64)))], objs := [] }
def y4b : Ann := { slots := [(2, .one (.val (.int .i64)))], objs := [] }
def z6v : Nat -> List Int -> Int -> Int -> Option (LR a0 y4b)
 | 0, _, _, _ => none
 | m + 1, s18, s19, s20 =>
  if decide (s20 < s19) = true then if (0 : Int) <= s20 then if s20 < s18.length then if decide (s18.getD s20.toNat 0 < 48) = false then if decide (s18.getD s20.toNat 0 > 57) = true then
  some (.ret (5, ()))
  else
  z6v m s18 s19 (IntKind.i64.wrap (s20 + 1))
  else
  some (.ret (5, ()))
  else none else none
  else
  some (.exit ())
def y4a : LSpec := { h := yl7, x := a0, r := y4b, xid := 0, rt := true, pins := [], f := fun k d => z6v k d.1 d.2.1 d.2.2.1 }
def yx8 : z1w := [([74], [(4, y4a)])]
def z6o (k : Nat) (a0 : ByteArray) : Option (Int) :=
 if ((a0.toList == (⟨#[]⟩ : ByteArray).toList)) = false then if (0 : Int) < (a0.size : Int) then if (((a0.data.getD 0 0).toNat : Int) == 48) = true then if decide ((a0.size : Int) > 1) = true then
 some 5
 else
 match z6v k (a0.data.toList.map fun c => (c.toNat : Int)) ((a0.data.toList.map fun c => (c.toNat : Int)).length : Int) 0 with
 | none => none
 | some (.exit d1) =>
  if decide ((a0.size : Int) > 2000) = true then
  some 2
  else
  some 0
 | some (.ret d1) =>
  some d1.1
 else
 match z6v k (a0.data.toList.map fun c => (c.toNat : Int)) ((a0.data.toList.map fun c => (c.toNat : Int)).length : Int) 0 with
 | none => none
 | some (.exit d2) =>
  if decide ((a0.size : Int) > 2000) = true then
  some 2
  else
  some 0
 | some (.ret d2) =>
  some d2.1
 else none
 else
 some 5
def y8r (k : Nat) : Vm.Spec := { ps := [.str], rs := [.imm (.int .i64)], f := fun x => z6o k x }
noncomputable def yc8 : Vm.Spec := y8r fuel
theorem y7z : Vm.Spec.holds Tryz.prog 74 yc8 := z0v (E := w2b) (L := yx8) (fn := Tryz.f74) (Z := y8r) (z1h ok) (z0n (by exact trivial)) z0w (z07 rfl) (z01 rfl) (by kernel_rfl) (by kernel_rfl) (z0i (ls := [(4, y4a)]) rfl rfl ⟨by kernel_rfl, fun _ => rfl, fun _ _ => by kernel_rfl, z0j (by kernel_rfl)⟩) fun k x => by kernel_rfl
noncomputable def w2g : Env := { te := te, spec := [], body := [(78, Tryz.f78)] }
def ym3 : Ann := { slots := [(5, .one (.own 68 (.int .u32))), (6, .one (.val (.int .i64))), (7, .one (.val (.int .u32))), (8, .one (.val (.int .u64))), (25, .one (.val (.slice (.int .u32)))), (26, .one (.val (.int .i64))), (27, .one (.val (.int .i64)))], objs := [(68, .buf (.int .u32))] }
def y4n : Ann := { slots := [(5, .one (.own 68 (.int .u32))), (8, .one (.val (.int .u64)))], objs := [(68, .buf (.int .u32))] }
def ym2 : Ann := { slots := [(1, .one (.val (.slice (.int .u32)))), (5, .one (.own 68 (.int .u32))), (18, .one (.val (.slice (.int .u32)))), (19, .one (.val (.int .i64))), (20, .one (.val (.int .i64)))], objs := [(68, .buf (.int .u32))] }
def y4l : Ann := { slots := [(5, .one (.own 68 (.int .u32)))], objs := [(68, .buf (.int .u32))] }
def zt2 : Ann := { slots := [(0, .one (.pre 68 (.int .u32)))], objs := [(68, .buf (.int .u32))] }
def z8s : Ann := { slots := [(0, .one (.pre 68 (.int .u32)))], objs := [(68, .buf (.int .u32))] }
def z8h : Nat -> Int -> Int -> Int -> List Int -> Int -> Int -> List Int -> Option (LR y4n a0)
 | 0, _, _, _, _, _, _, _ => none
 | m + 1, s6, s7, s8, s25, s26, s27, b68 =>
  if decide (s27 < s26) = true then if (0 : Int) <= s27 then if s27 < s25.length then if (0 : Int) <= IntKind.i64.wrap (s6 + s27) then if IntKind.i64.wrap (s6 + s27) < b68.length then if (0 : Int) <= IntKind.i64.wrap (s6 + s27) then if IntKind.i64.wrap (s6 + s27) < b68.length then
  z8h m s6 s7 (IntKind.u64.wrap ((IntKind.u64.wrap ((IntKind.u64.wrap ((IntKind.u64.wrap ((IntKind.u64.wrap (s7)) * (IntKind.u64.wrap (s25.getD s27.toNat 0)))) + (IntKind.u64.wrap (b68.getD ((IntKind.i64.wrap (s6 + s27)).toNat) 0)))) + s8)).tdiv 1000000000)) s25 s26 (IntKind.i64.wrap (s27 + 1)) (b68.set ((IntKind.i64.wrap (s6 + s27)).toNat) (IntKind.u32.wrap ((IntKind.u64.wrap ((IntKind.u64.wrap ((IntKind.u64.wrap ((IntKind.u64.wrap (s7)) * (IntKind.u64.wrap (s25.getD s27.toNat 0)))) + (IntKind.u64.wrap (b68.getD ((IntKind.i64.wrap (s6 + s27)).toNat) 0)))) + s8)).tmod 1000000000)))
  else none else none else none else none else none else none
  else
  some (.exit (s8, b68, ()))
def y4m : LSpec := { h := ym3, x := y4n, r := a0, xid := 2, rt := false, pins := [68], f := fun k d => z8h k d.1 d.2.1 d.2.2.1 d.2.2.2.1 d.2.2.2.2.1 d.2.2.2.2.2.1 d.2.2.2.2.2.2.1 }
def z8g : Nat -> List Int -> List Int -> Int -> Int -> List Int -> Option (LR y4l a0)
 | 0, _, _, _, _, _ => none
 | m + 1, s1, s18, s19, s20, b68 =>
  if decide (s20 < s19) = true then if (0 : Int) <= s20 then if s20 < s18.length then
  match z8h m s20 (s18.getD s20.toNat 0) 0 s1 (s1.length : Int) 0 b68 with
  | none => none
  | some (.exit d1) =>
   if (0 : Int) <= IntKind.i64.wrap (s20 + (s1.length : Int)) then if IntKind.i64.wrap (s20 + (s1.length : Int)) < d1.2.1.length then
   z8g m s1 s18 s19 (IntKind.i64.wrap (s20 + 1)) (d1.2.1.set ((IntKind.i64.wrap (s20 + (s1.length : Int))).toNat) (IntKind.u32.wrap (d1.1)))
   else none else none
  | some (.ret d1) =>
   none
  else none else none
  else
  some (.exit (b68, ()))
def y4k : LSpec := { h := ym2, x := y4l, r := a0, xid := 0, rt := false, pins := [68], f := fun k d => z8g k d.1 d.2.1 d.2.2.1 d.2.2.2.1 d.2.2.2.2.1 }
def z2w : Nat -> Nat -> List Int -> Option (LR z8s a0)
 | 0, _, _ => none
 | m + 1, s0, b68 =>
  if decide ((s0 : Int) > 0) = true then if (0 : Int) <= IntKind.i64.wrap ((s0 : Int) - 1) then if IntKind.i64.wrap ((s0 : Int) - 1) < s0 then if (b68.getD ((IntKind.i64.wrap ((s0 : Int) - 1)).toNat) 0 == 0) = true then if (0 : Int) <= IntKind.i64.wrap ((s0 : Int) - 1) then if IntKind.i64.wrap ((s0 : Int) - 1) <= s0 then
  z2w m ((IntKind.i64.wrap ((s0 : Int) - 1)).toNat) b68
  else none else none
  else
  some (.exit (s0, b68, ()))
  else none else none
  else
  some (.exit (s0, b68, ()))
def z8r : LSpec := { h := zt2, x := z8s, r := a0, xid := 0, rt := false, pins := [68], f := fun k d => z2w k d.1 d.2.1 }
def yy3 : z1w := [([51], [(3, y4k), (7, y4m)]), ([78, 51], [(1, z8r)])]
def z4y (k : Nat) (a0 : List Int) (a1 : List Int) : Option (List Int) :=
 if (0 : Int) <= IntKind.i64.wrap ((a0.length : Int) + (a1.length : Int)) then if IntKind.i64.wrap ((a0.length : Int) + (a1.length : Int)) <= IntKind.i64.wrap ((a0.length : Int) + (a1.length : Int)) then if (IntKind.i64.wrap ((a0.length : Int) + (a1.length : Int))) * 4 <= 281474976710656 then
 match z8g k a1 a0 (a0.length : Int) 0 (List.replicate ((IntKind.i64.wrap ((a0.length : Int) + (a1.length : Int))).toNat) 0) with
 | none => none
 | some (.exit d1) =>
  match z2w k d1.1.length d1.1 with
  | none => none
  | some (.exit d2) =>
   some (d2.2.1.take d2.1)
  | some (.ret d2) =>
   none
 | some (.ret d1) =>
  none
 else none else none else none
def y8w (k : Nat) : Vm.Spec := { ps := [.slice (.int .u32), .slice (.int .u32)], rs := [.fresh (.int .u32)], f := fun x => z4y k x.1 x.2 }
noncomputable def zo1 : Vm.Spec := y8w fuel
theorem z88 : Vm.Spec.holds Tryz.prog 51 zo1 := z0v (E := w2g) (L := yy3) (fn := Tryz.f51) (Z := y8w) (z1h ok) (z0n (by exact trivial)) z0w (zb6 (by exact ⟨by kernel_rfl, by kernel_rfl, trivial⟩)) (z4e (by exact ⟨(z26 [[51]] (by exact ⟨z0i (ls := [(1, z8r)]) rfl rfl ⟨by kernel_rfl, fun _ => rfl, fun _ _ => by kernel_rfl, z0j (by kernel_rfl)⟩,  trivial⟩) rfl),  trivial⟩)) (by kernel_rfl) (by kernel_rfl) (z0i (ls := [(3, y4k), (7, y4m)]) rfl rfl ⟨by kernel_rfl, fun _ => rfl, fun _ _ => by kernel_rfl, by kernel_rfl, fun _ => rfl, fun _ _ => by kernel_rfl, z0j (by kernel_rfl)⟩) fun k x => by kernel_rfl
noncomputable def w2h : Env := { te := te, spec := [], body := [(78, Tryz.f78)] }
def ym4 : Ann := { slots := [(0, .one (.val (.slice (.int .u32)))), (1, .one (.val (.slice (.int .u32)))), (5, .one (.own 44 (.int .u32))), (6, .one (.val (.int .i64))), (13, .one (.val (.int .i64))), (14, .one (.val (.int .i64)))], objs := [(44, .buf (.int .u32))] }
def y4p : Ann := { slots := [(5, .one (.own 44 (.int .u32)))], objs := [(44, .buf (.int .u32))] }
def zt3 : Ann := { slots := [(0, .one (.pre 44 (.int .u32)))], objs := [(44, .buf (.int .u32))] }
def z8u : Ann := { slots := [(0, .one (.pre 44 (.int .u32)))], objs := [(44, .buf (.int .u32))] }
def z4h : Nat -> List Int -> List Int -> Int -> Int -> Int -> List Int -> Option (LR y4p a0)
 | 0, _, _, _, _, _, _ => none
 | m + 1, s0, s1, s6, s13, s14, b44 =>
  if decide (s14 < s13) = true then if (0 : Int) <= s14 then if s14 < s0.length then if decide (s14 < (s1.length : Int)) = true then if (0 : Int) <= s14 then if s14 < s1.length then if decide (IntKind.i64.wrap ((IntKind.i64.wrap ((IntKind.i64.wrap (s0.getD s14.toNat 0)) - s6)) - (IntKind.i64.wrap (s1.getD s14.toNat 0))) < 0) = true then if (0 : Int) <= s14 then if s14 < b44.length then
  z4h m s0 s1 1 s13 (IntKind.i64.wrap (s14 + 1)) (b44.set s14.toNat (IntKind.u32.wrap (IntKind.i64.wrap ((IntKind.i64.wrap ((IntKind.i64.wrap ((IntKind.i64.wrap (s0.getD s14.toNat 0)) - s6)) - (IntKind.i64.wrap (s1.getD s14.toNat 0)))) + 1000000000))))
  else none else none
  else
  if (0 : Int) <= s14 then if s14 < b44.length then
  z4h m s0 s1 0 s13 (IntKind.i64.wrap (s14 + 1)) (b44.set s14.toNat (IntKind.u32.wrap (IntKind.i64.wrap ((IntKind.i64.wrap ((IntKind.i64.wrap (s0.getD s14.toNat 0)) - s6)) - (IntKind.i64.wrap (s1.getD s14.toNat 0))))))
  else none else none else none else none
  else
  if decide (IntKind.i64.wrap ((IntKind.i64.wrap (s0.getD s14.toNat 0)) - s6) < 0) = true then if (0 : Int) <= s14 then if s14 < b44.length then
  z4h m s0 s1 1 s13 (IntKind.i64.wrap (s14 + 1)) (b44.set s14.toNat (IntKind.u32.wrap (IntKind.i64.wrap ((IntKind.i64.wrap ((IntKind.i64.wrap (s0.getD s14.toNat 0)) - s6)) + 1000000000))))
  else none else none
  else
  if (0 : Int) <= s14 then if s14 < b44.length then
  z4h m s0 s1 0 s13 (IntKind.i64.wrap (s14 + 1)) (b44.set s14.toNat (IntKind.u32.wrap (IntKind.i64.wrap ((IntKind.i64.wrap (s0.getD s14.toNat 0)) - s6))))
  else none else none else none else none
  else
  some (.exit (b44, ()))
def y4o : LSpec := { h := ym4, x := y4p, r := a0, xid := 0, rt := false, pins := [44], f := fun k d => z4h k d.1 d.2.1 d.2.2.1 d.2.2.2.1 d.2.2.2.2.1 d.2.2.2.2.2.1 }
def z2x : Nat -> Nat -> List Int -> Option (LR z8u a0)
 | 0, _, _ => none
 | m + 1, s0, b44 =>
  if decide ((s0 : Int) > 0) = true then if (0 : Int) <= IntKind.i64.wrap ((s0 : Int) - 1) then if IntKind.i64.wrap ((s0 : Int) - 1) < s0 then if (b44.getD ((IntKind.i64.wrap ((s0 : Int) - 1)).toNat) 0 == 0) = true then if (0 : Int) <= IntKind.i64.wrap ((s0 : Int) - 1) then if IntKind.i64.wrap ((s0 : Int) - 1) <= s0 then
  z2x m ((IntKind.i64.wrap ((s0 : Int) - 1)).toNat) b44
  else none else none
  else
  some (.exit (s0, b44, ()))
  else none else none
  else
  some (.exit (s0, b44, ()))
def z8t : LSpec := { h := zt3, x := z8u, r := a0, xid := 0, rt := false, pins := [44], f := fun k d => z2x k d.1 d.2.1 }
def yy4 : z1w := [([56], [(4, y4o)]), ([78, 56], [(1, z8t)])]
def zp4 (k : Nat) (a0 : List Int) (a1 : List Int) : Option (List Int) :=
 if (0 : Int) <= (a0.length : Int) then if (a0.length : Int) <= (a0.length : Int) then if (a0.length : Int) * 4 <= 281474976710656 then
 match z4h k a0 a1 0 (a0.length : Int) 0 (List.replicate ((a0.length : Int).toNat) 0) with
 | none => none
 | some (.exit d1) =>
  match z2x k d1.1.length d1.1 with
  | none => none
  | some (.exit d2) =>
   some (d2.2.1.take d2.1)
  | some (.ret d2) =>
   none
 | some (.ret d1) =>
  none
 else none else none else none
def y8x (k : Nat) : Vm.Spec := { ps := [.slice (.int .u32), .slice (.int .u32)], rs := [.fresh (.int .u32)], f := fun x => zp4 k x.1 x.2 }
noncomputable def yd0 : Vm.Spec := y8x fuel
theorem y81 : Vm.Spec.holds Tryz.prog 56 yd0 := z0v (E := w2h) (L := yy4) (fn := Tryz.f56) (Z := y8x) (z1h ok) (z0n (by exact trivial)) z0w (zb6 (by exact ⟨by kernel_rfl, by kernel_rfl, trivial⟩)) (z4e (by exact ⟨(z26 [[56]] (by exact ⟨z0i (ls := [(1, z8t)]) rfl rfl ⟨by kernel_rfl, fun _ => rfl, fun _ _ => by kernel_rfl, z0j (by kernel_rfl)⟩,  trivial⟩) rfl),  trivial⟩)) (by kernel_rfl) (by kernel_rfl) (z0i (ls := [(4, y4o)]) rfl rfl ⟨by kernel_rfl, fun _ => rfl, fun _ _ => by kernel_rfl, z0j (by kernel_rfl)⟩) fun k x => by kernel_rfl
noncomputable def yx5 : Env := { te := te, spec := [], body := [] }
def yg6 : Ann := { slots := [(0, .one (.val (.slice (.int .u32))))], objs := [] }
def y2p : Ann := { slots := [(0, .one (.val (.slice (.int .u32))))], objs := [] }
def z7b : Nat -> List Int -> Option (LR y2p a0)
 | 0, _ => none
 | m + 1, s0 =>
  if decide ((s0.length : Int) > 0) = true then if (0 : Int) <= IntKind.i64.wrap ((s0.length : Int) - 1) then if IntKind.i64.wrap ((s0.length : Int) - 1) < s0.length then if (s0.getD ((IntKind.i64.wrap ((s0.length : Int) - 1)).toNat) 0 == 0) = true then if (0 : Int) <= IntKind.i64.wrap ((s0.length : Int) - 1) then if IntKind.i64.wrap ((s0.length : Int) - 1) <= s0.length then
  z7b m ((s0.take (IntKind.i64.wrap ((s0.length : Int) - 1)).toNat).drop 0)
  else none else none
  else
  some (.exit (s0, ()))
  else none else none
  else
  some (.exit (s0, ()))
def y2o : LSpec := { h := yg6, x := y2p, r := a0, xid := 0, rt := false, pins := [], f := fun k d => z7b k d.1 }
def yr9 : z1w := [([78], [(1, y2o)])]
def z7s (k : Nat) (a0 : List Int) : Option (List Int) :=
 match z7b k a0 with
 | none => none
 | some (.exit d1) =>
  some d1.1
 | some (.ret d1) =>
  none
def y65 (k : Nat) : Vm.Spec := { ps := [.slice (.int .u32)], rs := [.imm (.slice (.int .u32))], f := fun x => z7s k x }
noncomputable def y1t : Vm.Spec := y65 fuel
theorem zu1 : Vm.Spec.holds Tryz.prog 78 y1t := z0v (E := yx5) (L := yr9) (fn := Tryz.f78) (Z := y65) (z1h ok) (z0n (by exact trivial)) z0w (z07 rfl) (z01 rfl) (by kernel_rfl) (by kernel_rfl) (z0i (ls := [(1, y2o)]) rfl rfl ⟨by kernel_rfl, fun _ => rfl, fun _ _ => by kernel_rfl, z0j (by kernel_rfl)⟩) fun k x => by kernel_rfl
noncomputable def yr1 : Env := { te := te, spec := [(78, y1t)], body := [] }
def ya3 : Ann := { slots := [(0, .one (.val (.slice (.int .u32)))), (1, .one (.val (.int .u32))), (6, .one (.own 44 (.int .u32))), (7, .one (.val (.int .u64))), (8, .one (.val (.int .i64)))], objs := [(44, .buf (.int .u32))] }
def y1d : Ann := { slots := [(6, .one (.own 44 (.int .u32))), (7, .one (.val (.int .u64)))], objs := [(44, .buf (.int .u32))] }
def z5q : Nat -> List Int -> Int -> Int -> Int -> List Int -> Option (LR y1d a0)
 | 0, _, _, _, _, _ => none
 | m + 1, s0, s1, s7, s8, b44 =>
  if decide (s8 >= 0) = true then if (0 : Int) <= s8 then if s8 < s0.length then if IntKind.u64.wrap (s1) = 0 then
  none
  else
  if (0 : Int) <= s8 then if s8 < b44.length then if IntKind.u64.wrap (s1) = 0 then
  none
  else
  z5q m s0 s1 ((IntKind.u64.wrap ((IntKind.u64.wrap (s7 * 1000000000)) + (IntKind.u64.wrap (s0.getD s8.toNat 0)))).tmod (IntKind.u64.wrap (s1))) (IntKind.i64.wrap (s8 - 1)) (b44.set s8.toNat (IntKind.u32.wrap (IntKind.u64.wrap ((IntKind.u64.wrap ((IntKind.u64.wrap (s7 * 1000000000)) + (IntKind.u64.wrap (s0.getD s8.toNat 0)))).tdiv (IntKind.u64.wrap (s1))))))
  else none else none else none else none
  else
  some (.exit (s7, b44, ()))
def y1c : LSpec := { h := ya3, x := y1d, r := a0, xid := 0, rt := false, pins := [44], f := fun k d => z5q k d.1 d.2.1 d.2.2.1 d.2.2.2.1 d.2.2.2.2.1 }
def yk7 : z1w := [([89], [(4, y1c)])]
def zc1 (k : Nat) (a0 : List Int) (a1 : Int) : Option ((List Int) × (List Int)) :=
 if (0 : Int) <= (a0.length : Int) then if (a0.length : Int) <= (a0.length : Int) then if (a0.length : Int) * 4 <= 281474976710656 then
 match z5q k a0 a1 0 (IntKind.i64.wrap ((a0.length : Int) - 1)) (List.replicate ((a0.length : Int).toNat) 0) with
 | none => none
 | some (.exit d1) =>
  (z7s fuel d1.2.1).bind fun r2 =>
  (z7s fuel [IntKind.u32.wrap (d1.1)]).bind fun r3 =>
  some (r2, r3)
 | some (.ret d1) =>
  none
 else none else none else none
def y40 (k : Nat) : Vm.Spec := { ps := [.slice (.int .u32), .int .u32], rs := [.imm (.slice (.int .u32)), .imm (.slice (.int .u32))], f := fun x => zc1 k x.1 x.2 }
noncomputable def y5y : Vm.Spec := y40 fuel
theorem y5a : Vm.Spec.holds Tryz.prog 89 y5y := z0v (E := yr1) (L := yk7) (fn := Tryz.f89) (Z := y40) (z1h ok) (z0n (by exact ⟨⟨by kernel_rfl, zu1⟩, trivial⟩)) z0w (z07 rfl) (z01 rfl) (by kernel_rfl) (by kernel_rfl) (z0i (ls := [(4, y1c)]) rfl rfl ⟨by kernel_rfl, fun _ => rfl, fun _ _ => by kernel_rfl, z0j (by kernel_rfl)⟩) fun k x => by kernel_rfl
noncomputable def w2e : Env := { te := te, spec := [(51, zo1), (55, zo0), (78, y1t), (89, y5y)], body := [(90, Tryz.f90), (91, Tryz.f91)] }
def ym0 : Ann := { slots := [(0, .one (.val (.slice (.int .u32)))), (7, .one (.own 188 (.int .u32)))], objs := [(188, .buf (.int .u32))] }
def y4h : Ann := { slots := [(7, .one (.own 188 (.int .u32)))], objs := [(188, .buf (.int .u32))] }
def yg4 : Ann := { slots := [(7, .one (.own 188 (.int .u32))), (8, .one (.own 204 (.int .u32))), (9, .one (.val (.int .i64))), (11, .one (.val (.int .i64))), (13, .one (.val (.int .u64))), (14, .one (.val (.int .u64)))], objs := [(188, .buf (.int .u32)), (204, .buf (.int .u32))] }
def zr0 : Ann := { slots := [(7, .one (.own 188 (.int .u32))), (8, .one (.own 204 (.int .u32))), (13, .one (.val (.int .u64)))], objs := [(188, .buf (.int .u32)), (204, .buf (.int .u32))] }
def zq9 : Ann := { slots := [], objs := [] }
def zr1 : Ann := { slots := [(0, .one (.own 188 (.int .u32))), (1, .one (.own 204 (.int .u32))), (2, .one (.val (.int .i64))), (3, .one (.val (.int .u64))), (9, .one (.val (.int .i64))), (10, .one (.val (.int .u64))), (11, .one (.val (.int .i64)))], objs := [(188, .buf (.int .u32)), (204, .buf (.int .u32))] }
def z7x : Ann := { slots := [(9, .one (.val (.int .i64)))], objs := [(188, .buf (.int .u32)), (204, .buf (.int .u32))] }
def zt1 : Ann := { slots := [(0, .one (.own 188 (.int .u32))), (1, .one (.own 204 (.int .u32))), (2, .one (.val (.int .i64))), (6, .one (.val (.int .u32))), (7, .one (.val (.int .i64)))], objs := [(188, .buf (.int .u32)), (204, .buf (.int .u32))] }
def z8q : Ann := { slots := [], objs := [(188, .buf (.int .u32)), (204, .buf (.int .u32))] }
def ym8 : List (Nat × OSh) := [(188, .buf (.int .u32)), (204, .buf (.int .u32)), (264, .buf (.int .u32))]
def yg3 : Ann := { slots := [(7, .one (.own 188 (.int .u32))), (8, .one (.own 204 (.int .u32))), (9, .one (.val (.int .i64))), (10, .one (.own 264 (.int .u32))), (11, .one (.val (.int .i64)))], objs := ym8 }
def ym9 : List (Nat × OSh) := [(188, .buf (.int .u32)), (264, .buf (.int .u32)), (204, .buf (.int .u32))]
def y2k : Ann := { slots := [(7, .one (.own 188 (.int .u32))), (10, .one (.own 264 (.int .u32)))], objs := ym9 }
def zd4 : Nat -> List Int -> List Int -> Option (LR y4h a0)
 | 0, _, _ => none
 | m + 1, s0, b188 =>
  if decide ((b188.length : Int) <= (s0.length : Int)) = true then if (b188.length + 1) * 4 <= 140737488355328 then
  zd4 m s0 (b188 ++ [0])
  else none
  else
  some (.exit (b188, ()))
def y4g : LSpec := { h := ym0, x := y4h, r := a0, xid := 0, rt := false, pins := [], f := fun k d => zd4 k d.1 d.2.1 }
def z6c : Nat -> Int -> Int -> Int -> Int -> List Int -> List Int -> Option (LR zr0 zq9)
 | 0, _, _, _, _, _, _ => none
 | m + 1, s9, s11, s13, s14, b188, b204 =>
  if decide (s13 >= 1000000000) = false then if (0 : Int) <= IntKind.i64.wrap (s9 - 2) then if IntKind.i64.wrap (s9 - 2) < b204.length then if (0 : Int) <= IntKind.i64.wrap ((IntKind.i64.wrap (s11 + s9)) - 2) then if IntKind.i64.wrap ((IntKind.i64.wrap (s11 + s9)) - 2) < b188.length then if decide (IntKind.u64.wrap (s13 * (IntKind.u64.wrap (b204.getD ((IntKind.i64.wrap (s9 - 2)).toNat) 0))) > IntKind.u64.wrap ((IntKind.u64.wrap (s14 * 1000000000)) + (IntKind.u64.wrap (b188.getD ((IntKind.i64.wrap ((IntKind.i64.wrap (s11 + s9)) - 2)).toNat) 0)))) = true then if (0 : Int) <= IntKind.i64.wrap (s9 - 1) then if IntKind.i64.wrap (s9 - 1) < b204.length then if decide (IntKind.u64.wrap (s14 + (IntKind.u64.wrap (b204.getD ((IntKind.i64.wrap (s9 - 1)).toNat) 0))) >= 1000000000) = true then
  some (.exit (IntKind.u64.wrap (s13 - 1), b188, b204, ()))
  else
  z6c m s9 s11 (IntKind.u64.wrap (s13 - 1)) (IntKind.u64.wrap (s14 + (IntKind.u64.wrap (b204.getD ((IntKind.i64.wrap (s9 - 1)).toNat) 0)))) b188 b204
  else none else none
  else
  some (.exit (s13, b188, b204, ()))
  else none else none else none else none
  else
  if (0 : Int) <= IntKind.i64.wrap (s9 - 1) then if IntKind.i64.wrap (s9 - 1) < b204.length then if decide (IntKind.u64.wrap (s14 + (IntKind.u64.wrap (b204.getD ((IntKind.i64.wrap (s9 - 1)).toNat) 0))) >= 1000000000) = true then
  some (.exit (IntKind.u64.wrap (s13 - 1), b188, b204, ()))
  else
  z6c m s9 s11 (IntKind.u64.wrap (s13 - 1)) (IntKind.u64.wrap (s14 + (IntKind.u64.wrap (b204.getD ((IntKind.i64.wrap (s9 - 1)).toNat) 0)))) b188 b204
  else none else none
def y2l : LSpec := { h := yg4, x := zr0, r := zq9, xid := 4, rt := false, pins := [188, 204], f := fun k d => z6c k d.1 d.2.1 d.2.2.1 d.2.2.2.1 d.2.2.2.2.1 d.2.2.2.2.2.1 }
def z13 : Nat -> Int -> Int -> Int -> Int -> Int -> List Int -> List Int -> Option (LR z7x a0)
 | 0, _, _, _, _, _, _, _ => none
 | m + 1, s2, s3, s9, s10, s11, b188, b204 =>
  if decide (s11 <= (b204.length : Int)) = true then if decide (s11 < (b204.length : Int)) = true then if (0 : Int) <= s11 then if s11 < b204.length then if (0 : Int) <= IntKind.i64.wrap (s2 + s11) then if IntKind.i64.wrap (s2 + s11) < b188.length then if decide (IntKind.i64.wrap ((IntKind.i64.wrap ((IntKind.i64.wrap (b188.getD ((IntKind.i64.wrap (s2 + s11)).toNat) 0)) - (IntKind.i64.wrap ((IntKind.u64.wrap (s10 + (IntKind.u64.wrap (s3 * (IntKind.u64.wrap (b204.getD s11.toNat 0)))))).tmod 1000000000)))) - s9) < 0) = true then if (0 : Int) <= IntKind.i64.wrap (s2 + s11) then if IntKind.i64.wrap (s2 + s11) < b188.length then
  z13 m s2 s3 1 (IntKind.u64.wrap ((IntKind.u64.wrap (s10 + (IntKind.u64.wrap (s3 * (IntKind.u64.wrap (b204.getD s11.toNat 0)))))).tdiv 1000000000)) (IntKind.i64.wrap (s11 + 1)) (b188.set ((IntKind.i64.wrap (s2 + s11)).toNat) (IntKind.u32.wrap (IntKind.i64.wrap ((IntKind.i64.wrap ((IntKind.i64.wrap ((IntKind.i64.wrap (b188.getD ((IntKind.i64.wrap (s2 + s11)).toNat) 0)) - (IntKind.i64.wrap ((IntKind.u64.wrap (s10 + (IntKind.u64.wrap (s3 * (IntKind.u64.wrap (b204.getD s11.toNat 0)))))).tmod 1000000000)))) - s9)) + 1000000000)))) b204
  else none else none
  else
  if (0 : Int) <= IntKind.i64.wrap (s2 + s11) then if IntKind.i64.wrap (s2 + s11) < b188.length then
  z13 m s2 s3 0 (IntKind.u64.wrap ((IntKind.u64.wrap (s10 + (IntKind.u64.wrap (s3 * (IntKind.u64.wrap (b204.getD s11.toNat 0)))))).tdiv 1000000000)) (IntKind.i64.wrap (s11 + 1)) (b188.set ((IntKind.i64.wrap (s2 + s11)).toNat) (IntKind.u32.wrap (IntKind.i64.wrap ((IntKind.i64.wrap ((IntKind.i64.wrap (b188.getD ((IntKind.i64.wrap (s2 + s11)).toNat) 0)) - (IntKind.i64.wrap ((IntKind.u64.wrap (s10 + (IntKind.u64.wrap (s3 * (IntKind.u64.wrap (b204.getD s11.toNat 0)))))).tmod 1000000000)))) - s9)))) b204
  else none else none else none else none else none else none
  else
  if (0 : Int) <= IntKind.i64.wrap (s2 + s11) then if IntKind.i64.wrap (s2 + s11) < b188.length then if decide (IntKind.i64.wrap ((IntKind.i64.wrap ((IntKind.i64.wrap (b188.getD ((IntKind.i64.wrap (s2 + s11)).toNat) 0)) - (IntKind.i64.wrap (s10.tmod 1000000000)))) - s9) < 0) = true then if (0 : Int) <= IntKind.i64.wrap (s2 + s11) then if IntKind.i64.wrap (s2 + s11) < b188.length then
  z13 m s2 s3 1 (IntKind.u64.wrap (s10.tdiv 1000000000)) (IntKind.i64.wrap (s11 + 1)) (b188.set ((IntKind.i64.wrap (s2 + s11)).toNat) (IntKind.u32.wrap (IntKind.i64.wrap ((IntKind.i64.wrap ((IntKind.i64.wrap ((IntKind.i64.wrap (b188.getD ((IntKind.i64.wrap (s2 + s11)).toNat) 0)) - (IntKind.i64.wrap (s10.tmod 1000000000)))) - s9)) + 1000000000)))) b204
  else none else none
  else
  if (0 : Int) <= IntKind.i64.wrap (s2 + s11) then if IntKind.i64.wrap (s2 + s11) < b188.length then
  z13 m s2 s3 0 (IntKind.u64.wrap (s10.tdiv 1000000000)) (IntKind.i64.wrap (s11 + 1)) (b188.set ((IntKind.i64.wrap (s2 + s11)).toNat) (IntKind.u32.wrap (IntKind.i64.wrap ((IntKind.i64.wrap ((IntKind.i64.wrap (b188.getD ((IntKind.i64.wrap (s2 + s11)).toNat) 0)) - (IntKind.i64.wrap (s10.tmod 1000000000)))) - s9)))) b204
  else none else none else none else none
  else
  some (.exit (s9, b188, b204, ()))
def z7w : LSpec := { h := zr1, x := z7x, r := a0, xid := 0, rt := false, pins := [188, 204], f := fun k d => z13 k d.1 d.2.1 d.2.2.1 d.2.2.2.1 d.2.2.2.2.1 d.2.2.2.2.2.1 d.2.2.2.2.2.2.1 }
def z1u : Nat -> Int -> Int -> Int -> List Int -> List Int -> Option (LR z8q a0)
 | 0, _, _, _, _, _ => none
 | m + 1, s2, s6, s7, b188, b204 =>
  if decide (s7 <= (b204.length : Int)) = true then if (0 : Int) <= IntKind.i64.wrap (s2 + s7) then if IntKind.i64.wrap (s2 + s7) < b188.length then if decide (s7 < (b204.length : Int)) = true then if (0 : Int) <= s7 then if s7 < b204.length then if (0 : Int) <= IntKind.i64.wrap (s2 + s7) then if IntKind.i64.wrap (s2 + s7) < b188.length then
  z1u m s2 (IntKind.u32.wrap ((IntKind.u32.wrap ((IntKind.u32.wrap ((b188.getD ((IntKind.i64.wrap (s2 + s7)).toNat) 0) + s6)) + (b204.getD s7.toNat 0))).tdiv 1000000000)) (IntKind.i64.wrap (s7 + 1)) (b188.set ((IntKind.i64.wrap (s2 + s7)).toNat) ((IntKind.u32.wrap ((IntKind.u32.wrap ((b188.getD ((IntKind.i64.wrap (s2 + s7)).toNat) 0) + s6)) + (b204.getD s7.toNat 0))).tmod 1000000000)) b204
  else none else none else none else none
  else
  if (0 : Int) <= IntKind.i64.wrap (s2 + s7) then if IntKind.i64.wrap (s2 + s7) < b188.length then
  z1u m s2 (IntKind.u32.wrap ((IntKind.u32.wrap ((b188.getD ((IntKind.i64.wrap (s2 + s7)).toNat) 0) + s6)).tdiv 1000000000)) (IntKind.i64.wrap (s7 + 1)) (b188.set ((IntKind.i64.wrap (s2 + s7)).toNat) ((IntKind.u32.wrap ((b188.getD ((IntKind.i64.wrap (s2 + s7)).toNat) 0) + s6)).tmod 1000000000)) b204
  else none else none else none else none
  else
  some (.exit (b188, b204, ()))
def z8p : LSpec := { h := zt1, x := z8q, r := a0, xid := 0, rt := false, pins := [188, 204], f := fun k d => z1u k d.1 d.2.1 d.2.2.1 d.2.2.2.1 d.2.2.2.2.1 }
def z5f : Nat -> Int -> Int -> List Int -> List Int -> List Int -> Option (LR y2k a0)
 | 0, _, _, _, _, _ => none
 | m + 1, s9, s11, b188, b204, b264 =>
  if decide (s11 >= 0) = true then if (0 : Int) <= IntKind.i64.wrap (s11 + s9) then if IntKind.i64.wrap (s11 + s9) < b188.length then if (0 : Int) <= IntKind.i64.wrap ((IntKind.i64.wrap (s11 + s9)) - 1) then if IntKind.i64.wrap ((IntKind.i64.wrap (s11 + s9)) - 1) < b188.length then if (0 : Int) <= IntKind.i64.wrap (s9 - 1) then if IntKind.i64.wrap (s9 - 1) < b204.length then if IntKind.u64.wrap (b204.getD ((IntKind.i64.wrap (s9 - 1)).toNat) 0) = 0 then
  none
  else
  if (0 : Int) <= IntKind.i64.wrap (s9 - 1) then if IntKind.i64.wrap (s9 - 1) < b204.length then if IntKind.u64.wrap (b204.getD ((IntKind.i64.wrap (s9 - 1)).toNat) 0) = 0 then
  none
  else
  match z6c m s9 s11 (IntKind.u64.wrap ((IntKind.u64.wrap ((IntKind.u64.wrap ((IntKind.u64.wrap (b188.getD ((IntKind.i64.wrap (s11 + s9)).toNat) 0)) * 1000000000)) + (IntKind.u64.wrap (b188.getD ((IntKind.i64.wrap ((IntKind.i64.wrap (s11 + s9)) - 1)).toNat) 0)))).tdiv (IntKind.u64.wrap (b204.getD ((IntKind.i64.wrap (s9 - 1)).toNat) 0)))) ((IntKind.u64.wrap ((IntKind.u64.wrap ((IntKind.u64.wrap (b188.getD ((IntKind.i64.wrap (s11 + s9)).toNat) 0)) * 1000000000)) + (IntKind.u64.wrap (b188.getD ((IntKind.i64.wrap ((IntKind.i64.wrap (s11 + s9)) - 1)).toNat) 0)))).tmod (IntKind.u64.wrap (b204.getD ((IntKind.i64.wrap (s9 - 1)).toNat) 0))) b188 b204 with
  | none => none
  | some (.exit d1) =>
   match z13 m s11 d1.1 0 0 0 d1.2.1 d1.2.2.1 with
   | none => none
   | some (.exit d2) =>
    if decide (d2.1 > 0) = true then
    match z1u m s11 0 0 d2.2.1 d2.2.2.1 with
    | none => none
    | some (.exit d3) =>
     if (0 : Int) <= s11 then if s11 < b264.length then
     z5f m s9 (IntKind.i64.wrap (s11 - 1)) d3.1 d3.2.1 (b264.set s11.toNat (IntKind.u32.wrap (IntKind.u64.wrap (d1.1 - 1))))
     else none else none
    | some (.ret d3) =>
     none
    else
    if (0 : Int) <= s11 then if s11 < b264.length then
    z5f m s9 (IntKind.i64.wrap (s11 - 1)) d2.2.1 d2.2.2.1 (b264.set s11.toNat (IntKind.u32.wrap (d1.1)))
    else none else none
   | some (.ret d2) =>
    none
  | some (.ret d1) =>
   none
  else none else none else none else none else none else none else none else none
  else
  some (.exit (b188, b264, b204, ()))
def y2j : LSpec := { h := yg3, x := y2k, r := a0, xid := 2, rt := false, pins := [188, 204, 264], f := fun k d => z5f k d.1 d.2.1 d.2.2.1 d.2.2.2.1 d.2.2.2.2.1 }
def yy1 : z1w := [([79], [(7, y4g), (12, y2j), (16, y2l)]), ([90, 79], [(4, z7w)]), ([91, 79], [(2, z8p)])]
def zf0 (k : Nat) (a0 : List Int) (a1 : List Int) : Option ((List Int) × (List Int)) :=
 (z4x fuel a0 a1).bind fun r1 =>
 if decide (r1 < 0) = true then
 some ([], a0)
 else
 if ((a1.length : Int) == 1) = true then if (0 : Int) < a1.length then
 (zc1 fuel a0 (a1.getD 0 0)).bind fun r2 =>
 some (r2.1, r2.2)
 else none
 else
 if (0 : Int) <= IntKind.i64.wrap ((a1.length : Int) - 1) then if IntKind.i64.wrap ((a1.length : Int) - 1) < a1.length then if IntKind.u64.wrap ((IntKind.u64.wrap (a1.getD ((IntKind.i64.wrap ((a1.length : Int) - 1)).toNat) 0)) + 1) = 0 then
 none
 else
 (z4y fuel a0 [IntKind.u32.wrap (IntKind.u64.wrap ((1000000000 : Int).tdiv (IntKind.u64.wrap ((IntKind.u64.wrap (a1.getD ((IntKind.i64.wrap ((a1.length : Int) - 1)).toNat) 0)) + 1))))]).bind fun r3 =>
 if (r3.length + 1) * 4 <= 140737488355328 then
 (z4y fuel a1 [IntKind.u32.wrap (IntKind.u64.wrap ((1000000000 : Int).tdiv (IntKind.u64.wrap ((IntKind.u64.wrap (a1.getD ((IntKind.i64.wrap ((a1.length : Int) - 1)).toNat) 0)) + 1))))]).bind fun r4 =>
 match zd4 k a0 (r3 ++ [0]) with
 | none => none
 | some (.exit d5) =>
  if (0 : Int) <= IntKind.i64.wrap ((d5.1.length : Int) - (r4.length : Int)) then if IntKind.i64.wrap ((d5.1.length : Int) - (r4.length : Int)) <= IntKind.i64.wrap ((d5.1.length : Int) - (r4.length : Int)) then if (IntKind.i64.wrap ((d5.1.length : Int) - (r4.length : Int))) * 4 <= 281474976710656 then
  match z5f k (r4.length : Int) (IntKind.i64.wrap ((IntKind.i64.wrap ((d5.1.length : Int) - (r4.length : Int))) - 1)) d5.1 r4 (List.replicate ((IntKind.i64.wrap ((d5.1.length : Int) - (r4.length : Int))).toNat) 0) with
  | none => none
  | some (.exit d6) =>
   (z7s fuel d6.1).bind fun r7 =>
   (zc1 fuel r7 (IntKind.u32.wrap (IntKind.u64.wrap ((1000000000 : Int).tdiv (IntKind.u64.wrap ((IntKind.u64.wrap (a1.getD ((IntKind.i64.wrap ((a1.length : Int) - 1)).toNat) 0)) + 1)))))).bind fun r8 =>
   (z7s fuel d6.2.1).bind fun r9 =>
   some (r9, r8.1)
  | some (.ret d6) =>
   none
  else none else none else none
 | some (.ret d5) =>
  none
 else none else none else none
def y8u (k : Nat) : Vm.Spec := { ps := [.slice (.int .u32), .slice (.int .u32)], rs := [.imm (.slice (.int .u32)), .imm (.slice (.int .u32))], f := fun x => zf0 k x.1 x.2 }
noncomputable def y51 : Vm.Spec := y8u fuel
theorem zy3 : Vm.Spec.holds Tryz.prog 79 y51 := z0v (E := w2e) (L := yy1) (fn := Tryz.f79) (Z := y8u) (z1h ok) (z0n (by exact ⟨⟨by kernel_rfl, z88⟩, ⟨by kernel_rfl, z87⟩, ⟨by kernel_rfl, zu1⟩, ⟨by kernel_rfl, y5a⟩, trivial⟩)) z0w (zb6 (by exact ⟨by kernel_rfl, by kernel_rfl, by kernel_rfl, by kernel_rfl, trivial⟩)) (z4e (by exact ⟨(z26 [[79]] (by exact ⟨z0i (ls := [(4, z7w)]) rfl rfl ⟨by kernel_rfl, fun _ => rfl, fun _ _ => by kernel_rfl, z0j (by kernel_rfl)⟩,  trivial⟩) rfl), (z26 [[79]] (by exact ⟨z0i (ls := [(2, z8p)]) rfl rfl ⟨by kernel_rfl, fun _ => rfl, fun _ _ => by kernel_rfl, z0j (by kernel_rfl)⟩,  trivial⟩) rfl),  trivial⟩)) (by kernel_rfl) (by kernel_rfl) (z0i (ls := [(7, y4g), (12, y2j), (16, y2l)]) rfl rfl ⟨by kernel_rfl, fun _ => rfl, fun _ _ => by kernel_rfl, by kernel_rfl, fun _ => rfl, fun _ _ => by kernel_rfl, by kernel_rfl, fun _ => rfl, fun _ _ => by kernel_rfl, z0j (by kernel_rfl)⟩) fun k x => by kernel_rfl
noncomputable def w2f : Env := { te := te, spec := [(79, y51)], body := [] }
def ym1 : Ann := { slots := [(0, .one (.val (.slice (.int .u32)))), (1, .one (.val (.slice (.int .u32))))], objs := [] }
def y4j : Ann := { slots := [(0, .one (.val (.slice (.int .u32))))], objs := [] }
def z8f : Nat -> List Int -> List Int -> Option (LR y4j a0)
 | 0, _, _ => none
 | m + 1, s0, s1 =>
  if decide ((s1.length : Int) > 0) = true then
  (zf0 fuel s0 s1).bind fun r1 =>
  z8f m s1 r1.2
  else
  some (.exit (s0, ()))
def y4i : LSpec := { h := ym1, x := y4j, r := a0, xid := 0, rt := false, pins := [], f := fun k d => z8f k d.1 d.2.1 }
def yy2 : z1w := [([75], [(1, y4i)])]
def z6p (k : Nat) (a0 : List Int) (a1 : List Int) : Option (List Int) :=
 match z8f k a0 a1 with
 | none => none
 | some (.exit d1) =>
  some d1.1
 | some (.ret d1) =>
  none
def y8v (k : Nat) : Vm.Spec := { ps := [.slice (.int .u32), .slice (.int .u32)], rs := [.imm (.slice (.int .u32))], f := fun x => z6p k x.1 x.2 }
noncomputable def y52 : Vm.Spec := y8v fuel
theorem zy4 : Vm.Spec.holds Tryz.prog 75 y52 := z0v (E := w2f) (L := yy2) (fn := Tryz.f75) (Z := y8v) (z1h ok) (z0n (by exact ⟨⟨by kernel_rfl, zy3⟩, trivial⟩)) z0w (z07 rfl) (z01 rfl) (by kernel_rfl) (by kernel_rfl) (z0i (ls := [(1, y4i)]) rfl rfl ⟨by kernel_rfl, fun _ => rfl, fun _ _ => by kernel_rfl, z0j (by kernel_rfl)⟩) fun k x => by kernel_rfl
noncomputable def w2i : Env := { te := te, spec := [(49, y33), (55, zo0), (66, z9i), (67, y0g), (68, y7p), (74, yc8), (75, y52)], body := [] }
def yy5 : z1w := []
def z9l (k : Nat) (a0 : ByteArray) : Option (Int) :=
 (z2n fuel a0 (⟨#[45]⟩ : ByteArray)).bind fun r1 =>
 (z5y fuel r1.1 (⟨#[47]⟩ : ByteArray)).bind fun r2 =>
 (z6o fuel r2.1).bind fun r3 =>
 if r2.2.2 = true then
 (z6o fuel r2.2.1).bind fun r4 =>
 if (r3 == 5) = false then if (r4 == 5) = false then if r1.2 = true then if ((r2.1.toList == (⟨#[48]⟩ : ByteArray).toList)) = true then
 some 5
 else
 if (r3 != 0) = false then if (r4 != 0) = true then
 some 2
 else
 if r2.2.2 = true then if ((r2.2.1.toList == (⟨#[48]⟩ : ByteArray).toList)) = false then if ((r2.2.1.toList == (⟨#[49]⟩ : ByteArray).toList)) = false then
 (z3r fuel r2.1).bind fun r5 =>
 (z3r fuel r2.2.1).bind fun r6 =>
 (z6p fuel r5 r6).bind fun r7 =>
 (z6e fuel 1).bind fun r8 =>
 (z4x fuel r7 r8).bind fun r9 =>
 if (r9 != 0) = true then
 some 3
 else
 some 0
 else
 some 3
 else
 some 3
 else
 some 0
 else
 some 2
 else
 if (r3 != 0) = false then if (r4 != 0) = true then
 some 2
 else
 if r2.2.2 = true then if ((r2.2.1.toList == (⟨#[48]⟩ : ByteArray).toList)) = false then if ((r2.2.1.toList == (⟨#[49]⟩ : ByteArray).toList)) = false then
 (z3r fuel r2.1).bind fun r10 =>
 (z3r fuel r2.2.1).bind fun r11 =>
 (z6p fuel r10 r11).bind fun r12 =>
 (z6e fuel 1).bind fun r13 =>
 (z4x fuel r12 r13).bind fun r14 =>
 if (r14 != 0) = true then
 some 3
 else
 some 0
 else
 some 3
 else
 some 3
 else
 some 0
 else
 some 2
 else
 some 5
 else
 some 5
 else
 if (r3 == 5) = false then if r1.2 = true then if ((r2.1.toList == (⟨#[48]⟩ : ByteArray).toList)) = true then
 some 5
 else
 if (r3 != 0) = false then if r2.2.2 = true then if ((r2.2.1.toList == (⟨#[48]⟩ : ByteArray).toList)) = false then if ((r2.2.1.toList == (⟨#[49]⟩ : ByteArray).toList)) = false then
 (z3r fuel r2.1).bind fun r15 =>
 (z3r fuel r2.2.1).bind fun r16 =>
 (z6p fuel r15 r16).bind fun r17 =>
 (z6e fuel 1).bind fun r18 =>
 (z4x fuel r17 r18).bind fun r19 =>
 if (r19 != 0) = true then
 some 3
 else
 some 0
 else
 some 3
 else
 some 3
 else
 some 0
 else
 some 2
 else
 if (r3 != 0) = false then if r2.2.2 = true then if ((r2.2.1.toList == (⟨#[48]⟩ : ByteArray).toList)) = false then if ((r2.2.1.toList == (⟨#[49]⟩ : ByteArray).toList)) = false then
 (z3r fuel r2.1).bind fun r20 =>
 (z3r fuel r2.2.1).bind fun r21 =>
 (z6p fuel r20 r21).bind fun r22 =>
 (z6e fuel 1).bind fun r23 =>
 (z4x fuel r22 r23).bind fun r24 =>
 if (r24 != 0) = true then
 some 3
 else
 some 0
 else
 some 3
 else
 some 3
 else
 some 0
 else
 some 2
 else
 some 5
def y8y (k : Nat) : Vm.Spec := { ps := [.str], rs := [.imm (.int .i64)], f := fun x => z9l k x }
noncomputable def y53 : Vm.Spec := y8y fuel
theorem zy5 : Vm.Spec.holds Tryz.prog 41 y53 := z0v (E := w2i) (L := yy5) (fn := Tryz.f41) (Z := y8y) (z1h ok) (z0n (by exact ⟨⟨by kernel_rfl, z97⟩, ⟨by kernel_rfl, z87⟩, ⟨by kernel_rfl, z99⟩, ⟨by kernel_rfl, zp6⟩, ⟨by kernel_rfl, y17⟩, ⟨by kernel_rfl, y7z⟩, ⟨by kernel_rfl, zy4⟩, trivial⟩)) z0w (z07 rfl) (z01 rfl) (by kernel_rfl) (by kernel_rfl) (z0o rfl) fun k x => by kernel_rfl
noncomputable def yk5 : Env := { te := te, spec := [(41, y53)], body := [] }
def y87 : Ann := { slots := [(6, .one (.val (.slice .str))), (7, .one (.val (.int .i64))), (8, .one (.val (.int .i64)))], objs := [] }
def zz5 : Ann := { slots := [(2, .one (.val (.int .i64)))], objs := [] }
def z2u : Nat -> List ByteArray -> Int -> Int -> Option (LR a0 zz5)
 | 0, _, _, _ => none
 | m + 1, s6, s7, s8 =>
  if decide (s8 < s7) = true then if (0 : Int) <= s8 then if s8 < s6.length then
  (z9l fuel (s6.getD s8.toNat ByteArray.empty)).bind fun r1 =>
  if (r1 != 0) = true then
  some (.ret (r1, ()))
  else
  z2u m s6 s7 (IntKind.i64.wrap (s8 + 1))
  else none else none
  else
  some (.exit ())
def zz4 : LSpec := { h := y87, x := a0, r := zz5, xid := 0, rt := true, pins := [], f := fun k d => z2u k d.1 d.2.1 d.2.2.1 }
def yc7 : z1w := [([44], [(2, zz4)])]
def z5c (k : Nat) (a0 : List ByteArray) : Option (Int) :=
 match z2u k a0 (a0.length : Int) 0 with
 | none => none
 | some (.exit d1) =>
  some 0
 | some (.ret d1) =>
  some d1.1
def y20 (k : Nat) : Vm.Spec := { ps := [.slice .str], rs := [.imm (.int .i64)], f := fun x => z5c k x }
noncomputable def zw0 : Vm.Spec := y20 fuel
theorem zk7 : Vm.Spec.holds Tryz.prog 44 zw0 := z0v (E := yk5) (L := yc7) (fn := Tryz.f44) (Z := y20) (z1h ok) (z0n (by exact ⟨⟨by kernel_rfl, zy5⟩, trivial⟩)) z0w (z07 rfl) (z01 rfl) (by kernel_rfl) (by kernel_rfl) (z0i (ls := [(2, zz4)]) rfl rfl ⟨by kernel_rfl, fun _ => rfl, fun _ _ => by kernel_rfl, z0j (by kernel_rfl)⟩) fun k x => by kernel_rfl
noncomputable def y7j : Env := { te := te, spec := [(44, zw0)], body := [] }
def y5v : z1w := []
def z1g (k : Nat) (a0 : List ByteArray) : Option (Int) :=
 if decide ((a0.length : Int) > 40) = true then
 some 2
 else
 (z5c fuel a0).bind fun r1 =>
 some r1
def zt8 (k : Nat) : Vm.Spec := { ps := [.slice .str], rs := [.imm (.int .i64)], f := fun x => z1g k x }
noncomputable def z6f : Vm.Spec := zt8 fuel
theorem z57 : Vm.Spec.holds Tryz.prog 71 z6f := z0v (E := y7j) (L := y5v) (fn := Tryz.f71) (Z := zt8) (z1h ok) (z0n (by exact ⟨⟨by kernel_rfl, zk7⟩, trivial⟩)) z0w (z07 rfl) (z01 rfl) (by kernel_rfl) (by kernel_rfl) (z0o rfl) fun k x => by kernel_rfl
noncomputable def yk2 : Env := { te := te, spec := [(71, z6f)], body := [] }
def y86 : Ann := { slots := [(0, .one (.val (.slice (.slice .str)))), (9, .one (.val (.slice (.slice .str)))), (10, .one (.val (.int .i64))), (11, .one (.val (.int .i64)))], objs := [] }
def zz3 : Ann := { slots := [(2, .one (.val (.int .i64)))], objs := [] }
def z2t : Nat -> List (List ByteArray) -> List (List ByteArray) -> Int -> Int -> Option (LR a0 zz3)
 | 0, _, _, _, _ => none
 | m + 1, s0, s9, s10, s11 =>
  if decide (s11 < s10) = true then if (0 : Int) <= s11 then if s11 < s9.length then if (0 : Int) < s0.length then if (((s9.getD s11.toNat []).length : Int) != ((s0.getD 0 []).length : Int)) = true then
  some (.ret (3, ()))
  else
  (z1g fuel (s9.getD s11.toNat [])).bind fun r1 =>
  if (r1 != 0) = true then
  some (.ret (r1, ()))
  else
  z2t m s0 s9 s10 (IntKind.i64.wrap (s11 + 1))
  else none else none else none
  else
  some (.exit ())
def zz2 : LSpec := { h := y86, x := a0, r := zz3, xid := 0, rt := true, pins := [], f := fun k d => z2t k d.1 d.2.1 d.2.2.1 d.2.2.2.1 }
def yc4 : z1w := [([36], [(4, zz2)])]
def z4f (k : Nat) (a0 : List (List ByteArray)) : Option (Int) :=
 if decide ((a0.length : Int) > 40) = true then
 some 2
 else
 match z2t k a0 a0 (a0.length : Int) 0 with
 | none => none
 | some (.exit d1) =>
  some 0
 | some (.ret d1) =>
  some d1.1
def y1x (k : Nat) : Vm.Spec := { ps := [.slice (.slice .str)], rs := [.imm (.int .i64)], f := fun x => z4f k x }
noncomputable def zg3 : Vm.Spec := y1x fuel
theorem z90 : Vm.Spec.holds Tryz.prog 36 zg3 := z0v (E := yk2) (L := yc4) (fn := Tryz.f36) (Z := y1x) (z1h ok) (z0n (by exact ⟨⟨by kernel_rfl, z57⟩, trivial⟩)) z0w (z07 rfl) (z01 rfl) (by kernel_rfl) (by kernel_rfl) (z0i (ls := [(4, zz2)]) rfl rfl ⟨by kernel_rfl, fun _ => rfl, fun _ _ => by kernel_rfl, z0j (by kernel_rfl)⟩) fun k x => by kernel_rfl
noncomputable def yk3 : Env := { te := te, spec := [], body := [] }
def yc5 : z1w := []
def z6a (k : Nat) (a0 : List (List ByteArray)) : Option (Int) :=
 if ((a0.length : Int) == 0) = true then
 some 0
 else
 if (0 : Int) < a0.length then
 some ((a0.getD 0 []).length : Int)
 else none
def y1y (k : Nat) : Vm.Spec := { ps := [.slice (.slice .str)], rs := [.imm (.int .i64)], f := fun x => z6a k x }
noncomputable def zg4 : Vm.Spec := y1y fuel
theorem z91 : Vm.Spec.holds Tryz.prog 37 zg4 := z0v (E := yk3) (L := yc5) (fn := Tryz.f37) (Z := y1y) (z1h ok) (z0n (by exact trivial)) z0w (z07 rfl) (z01 rfl) (by kernel_rfl) (by kernel_rfl) (z0o rfl) fun k x => by kernel_rfl
noncomputable def yb8 : Env := { te := te, spec := [(36, zg3), (37, zg4)], body := [] }
def y9q : z1w := []
def z1z (k : Nat) (a0 : List (List ByteArray)) : Option (Int) :=
 if decide ((a0.length : Int) > 12) = true then
 some 2
 else
 (z4f fuel a0).bind fun r1 =>
 if (r1 != 0) = true then
 some r1
 else
 (z6a fuel a0).bind fun r2 =>
 if (r2 == 0) = true then
 some 8
 else
 if (0 : Int) < a0.length then if decide (((a0.getD 0 []).length : Int) > 12) = true then
 some 2
 else
 some 0
 else none
def y11 (k : Nat) : Vm.Spec := { ps := [.slice (.slice .str)], rs := [.imm (.int .i64)], f := fun x => z1z k x }
noncomputable def z5j : Vm.Spec := y11 fuel
theorem z3d : Vm.Spec.holds Tryz.prog 8 z5j := z0v (E := yb8) (L := y9q) (fn := Tryz.f8) (Z := y11) (z1h ok) (z0n (by exact ⟨⟨by kernel_rfl, z90⟩, ⟨by kernel_rfl, z91⟩, trivial⟩)) z0w (z07 rfl) (z01 rfl) (by kernel_rfl) (by kernel_rfl) (z0o rfl) fun k x => by kernel_rfl
noncomputable def wh5 : Env := { te := te, spec := [(49, y33), (66, z9i), (67, y0g), (68, y7p)], body := [] }
def w8e : z1w := []
def zm6 (k : Nat) (a0 : ByteArray) : Option (Bool × ((List Int) × (List Int))) :=
 (z2n fuel a0 (⟨#[45]⟩ : ByteArray)).bind fun r1 =>
 (z5y fuel r1.1 (⟨#[47]⟩ : ByteArray)).bind fun r2 =>
 (z3r fuel r2.1).bind fun r3 =>
 (z6e fuel 1).bind fun r4 =>
 if r2.2.2 = true then
 (z3r fuel r2.2.1).bind fun r5 =>
 some (r1.2, (r3, r5))
 else
 some (r1.2, (r3, r4))
def yz5 (k : Nat) : Vm.Spec := { ps := [.str], rs := [.imm qT], f := fun x => zm6 k x }
noncomputable def y34 : Vm.Spec := yz5 fuel
theorem z98 : Vm.Spec.holds Tryz.prog 31 y34 := z0v (E := wh5) (L := w8e) (fn := Tryz.f31) (Z := yz5) (z1h ok) (z0n (by exact ⟨⟨by kernel_rfl, z97⟩, ⟨by kernel_rfl, z99⟩, ⟨by kernel_rfl, zp6⟩, ⟨by kernel_rfl, y17⟩, trivial⟩)) z0w (z07 rfl) (z01 rfl) (by kernel_rfl) (by kernel_rfl) (z0o rfl) fun k x => by kernel_rfl
noncomputable def yx3 : Env := { te := te, spec := [(31, y34)], body := [] }
def yg2 : Ann := { slots := [(3, .one (.own 64 qT)), (6, .one (.val (.slice .str))), (7, .one (.val (.int .i64))), (8, .one (.val (.int .i64)))], objs := [(64, .buf qT)] }
def y2i : Ann := { slots := [(3, .one (.own 64 qT))], objs := [(64, .buf qT)] }
def z7a : Nat -> List ByteArray -> Int -> Int -> List (Bool × ((List Int) × (List Int))) -> Option (LR y2i a0)
 | 0, _, _, _, _ => none
 | m + 1, s6, s7, s8, b64 =>
  if decide (s8 < s7) = true then if (0 : Int) <= s8 then if s8 < s6.length then
  (zm6 fuel (s6.getD s8.toNat ByteArray.empty)).bind fun r1 =>
  if (b64.length + 1) * 56 <= 140737488355328 then
  z7a m s6 s7 (IntKind.i64.wrap (s8 + 1)) (b64 ++ [r1])
  else none else none else none
  else
  some (.exit (b64, ()))
def y2h : LSpec := { h := yg2, x := y2i, r := a0, xid := 0, rt := false, pins := [], f := fun k d => z7a k d.1 d.2.1 d.2.2.1 d.2.2.2.1 }
def yr7 : z1w := [([42], [(3, y2h)])]
def z2g (k : Nat) (a0 : List ByteArray) : Option (List (Bool × ((List Int) × (List Int)))) :=
 match z7a k a0 (a0.length : Int) 0 [] with
 | none => none
 | some (.exit d1) =>
  some d1.1
 | some (.ret d1) =>
  none
def y63 (k : Nat) : Vm.Spec := { ps := [.slice .str], rs := [.fresh qT], f := fun x => z2g k x }
noncomputable def z7p : Vm.Spec := y63 fuel
theorem z4p : Vm.Spec.holds Tryz.prog 42 z7p := z0v (E := yx3) (L := yr7) (fn := Tryz.f42) (Z := y63) (z1h ok) (z0n (by exact ⟨⟨by kernel_rfl, z98⟩, trivial⟩)) z0w (z07 rfl) (z01 rfl) (by kernel_rfl) (by kernel_rfl) (z0i (ls := [(3, y2h)]) rfl rfl ⟨by kernel_rfl, fun _ => rfl, fun _ _ => by kernel_rfl, z0j (by kernel_rfl)⟩) fun k x => by kernel_rfl
noncomputable def w2a : Env := { te := te, spec := [(42, z7p)], body := [] }
def yl6 : Ann := { slots := [(3, .one (.own 64 (.slice qT))), (6, .one (.val (.slice (.slice .str)))), (7, .one (.val (.int .i64))), (8, .one (.val (.int .i64)))], objs := [(64, .buf (.slice qT))] }
def y49 : Ann := { slots := [(3, .one (.own 64 (.slice qT)))], objs := [(64, .buf (.slice qT))] }
def z8d : Nat -> List (List ByteArray) -> Int -> Int -> List (List (Bool × ((List Int) × (List Int)))) -> Option (LR y49 a0)
 | 0, _, _, _, _ => none
 | m + 1, s6, s7, s8, b64 =>
  if decide (s8 < s7) = true then if (0 : Int) <= s8 then if s8 < s6.length then
  (z2g fuel (s6.getD s8.toNat [])).bind fun r1 =>
  if (b64.length + 1) * 24 <= 140737488355328 then
  z8d m s6 s7 (IntKind.i64.wrap (s8 + 1)) (b64 ++ [r1])
  else none else none else none
  else
  some (.exit (b64, ()))
def y48 : LSpec := { h := yl6, x := y49, r := a0, xid := 0, rt := false, pins := [], f := fun k d => z8d k d.1 d.2.1 d.2.2.1 d.2.2.2.1 }
def yx7 : z1w := [([22], [(3, y48)])]
def z69 (k : Nat) (a0 : List (List ByteArray)) : Option (List (List (Bool × ((List Int) × (List Int))))) :=
 match z8d k a0 (a0.length : Int) 0 [] with
 | none => none
 | some (.exit d1) =>
  some d1.1
 | some (.ret d1) =>
  none
def y8q (k : Nat) : Vm.Spec := { ps := [.slice (.slice .str)], rs := [.fresh (.slice qT)], f := fun x => z69 k x }
noncomputable def ze8 : Vm.Spec := y8q fuel
theorem z6h : Vm.Spec.holds Tryz.prog 22 ze8 := z0v (E := w2a) (L := yx7) (fn := Tryz.f22) (Z := y8q) (z1h ok) (z0n (by exact ⟨⟨by kernel_rfl, z4p⟩, trivial⟩)) z0w (z07 rfl) (z01 rfl) (by kernel_rfl) (by kernel_rfl) (z0i (ls := [(3, y48)]) rfl rfl ⟨by kernel_rfl, fun _ => rfl, fun _ _ => by kernel_rfl, z0j (by kernel_rfl)⟩) fun k x => by kernel_rfl
noncomputable def w8a : Env := { te := te, spec := [(49, y33)], body := [] }
def w6t : z1w := []
def z6j (k : Nat) (a0 : Int) : Option (Bool × ((List Int) × (List Int))) :=
 if decide (a0 < 0) = true then
 (z6e fuel (IntKind.i64.wrap (0 - a0))).bind fun r1 =>
 (z6e fuel 1).bind fun r2 =>
 some (true, (r1, r2))
 else
 (z6e fuel a0).bind fun r3 =>
 (z6e fuel 1).bind fun r4 =>
 some (false, (r3, r4))
def yn6 (k : Nat) : Vm.Spec := { ps := [.int .i64], rs := [.imm qT], f := fun x => z6j k x }
noncomputable def yd1 : Vm.Spec := yn6 fuel
theorem y26 : Vm.Spec.holds Tryz.prog 23 yd1 := z0v (E := w8a) (L := w6t) (fn := Tryz.f23) (Z := yn6) (z1h ok) (z0n (by exact ⟨⟨by kernel_rfl, z97⟩, trivial⟩)) z0w (z07 rfl) (z01 rfl) (by kernel_rfl) (by kernel_rfl) (z0o rfl) fun k x => by kernel_rfl
noncomputable def yr2 : Env := { te := te, spec := [(49, y33)], body := [] }
def yk8 : z1w := []
def z35 (k : Nat) (a0 : Bool × ((List Int) × (List Int))) : Option (List Int) :=
 if ((a0.2.2.length : Int) == 0) = true then
 (z6e fuel 1).bind fun r1 =>
 some r1
 else
 some a0.2.2
def y41 (k : Nat) : Vm.Spec := { ps := [qT], rs := [.imm (.slice (.int .u32))], f := fun x => z35 k x }
noncomputable def zb1 : Vm.Spec := y41 fuel
theorem z6q : Vm.Spec.holds Tryz.prog 52 zb1 := z0v (E := yr2) (L := yk8) (fn := Tryz.f52) (Z := y41) (z1h ok) (z0n (by exact ⟨⟨by kernel_rfl, z97⟩, trivial⟩)) z0w (z07 rfl) (z01 rfl) (by kernel_rfl) (by kernel_rfl) (z0o rfl) fun k x => by kernel_rfl
noncomputable def w8c : Env := { te := te, spec := [(49, y33), (55, zo0), (75, y52), (79, y51)], body := [] }
def w6v : z1w := []
def zh9 (k : Nat) (a0 : Bool) (a1 : List Int) (a2 : List Int) : Option (Bool × ((List Int) × (List Int))) :=
 if ((a1.length : Int) == 0) = true then
 some (false, ([], []))
 else
 (z6p fuel a1 a2).bind fun r1 =>
 (z6e fuel 1).bind fun r2 =>
 (z4x fuel r1 r2).bind fun r3 =>
 if decide (r3 > 0) = true then
 (zf0 fuel a1 r1).bind fun r4 =>
 (zf0 fuel a2 r1).bind fun r5 =>
 some (a0, (r4.1, r5.1))
 else
 some (a0, (a1, a2))
def yn8 (k : Nat) : Vm.Spec := { ps := [.bool, .slice (.int .u32), .slice (.int .u32)], rs := [.imm qT], f := fun x => zh9 k x.1 x.2.1 x.2.2 }
noncomputable def y5z : Vm.Spec := yn8 fuel
theorem zp5 : Vm.Spec.holds Tryz.prog 53 y5z := z0v (E := w8c) (L := w6v) (fn := Tryz.f53) (Z := yn8) (z1h ok) (z0n (by exact ⟨⟨by kernel_rfl, z97⟩, ⟨by kernel_rfl, z87⟩, ⟨by kernel_rfl, zy4⟩, ⟨by kernel_rfl, zy3⟩, trivial⟩)) z0w (z07 rfl) (z01 rfl) (by kernel_rfl) (by kernel_rfl) (z0o rfl) fun k x => by kernel_rfl
noncomputable def w2c : Env := { te := te, spec := [], body := [] }
def yl8 : Ann := { slots := [(1, .one (.val (.slice (.int .u32)))), (5, .one (.own 76 (.int .u32))), (6, .one (.val (.int .u32))), (20, .one (.val (.slice (.int .u32)))), (21, .one (.val (.int .i64))), (22, .one (.val (.int .i64)))], objs := [(76, .buf (.int .u32))] }
def y4d : Ann := { slots := [(5, .one (.own 76 (.int .u32))), (6, .one (.val (.int .u32)))], objs := [(76, .buf (.int .u32))] }
def z63 : Nat -> List Int -> Int -> List Int -> Int -> Int -> List Int -> Option (LR y4d a0)
 | 0, _, _, _, _, _, _ => none
 | m + 1, s1, s6, s20, s21, s22, b76 =>
  if decide (s22 < s21) = true then if (0 : Int) <= s22 then if s22 < s20.length then if decide (s22 < (s1.length : Int)) = true then if (0 : Int) <= s22 then if s22 < s1.length then if (b76.length + 1) * 4 <= 140737488355328 then
  z63 m s1 (IntKind.u32.wrap ((IntKind.u32.wrap ((IntKind.u32.wrap ((s20.getD s22.toNat 0) + s6)) + (s1.getD s22.toNat 0))).tdiv 1000000000)) s20 s21 (IntKind.i64.wrap (s22 + 1)) (b76 ++ [(IntKind.u32.wrap ((IntKind.u32.wrap ((s20.getD s22.toNat 0) + s6)) + (s1.getD s22.toNat 0))).tmod 1000000000])
  else none else none else none
  else
  if (b76.length + 1) * 4 <= 140737488355328 then
  z63 m s1 (IntKind.u32.wrap ((IntKind.u32.wrap ((s20.getD s22.toNat 0) + s6)).tdiv 1000000000)) s20 s21 (IntKind.i64.wrap (s22 + 1)) (b76 ++ [(IntKind.u32.wrap ((s20.getD s22.toNat 0) + s6)).tmod 1000000000])
  else none else none else none
  else
  some (.exit (s6, b76, ()))
def y4c : LSpec := { h := yl8, x := y4d, r := a0, xid := 0, rt := false, pins := [], f := fun k d => z63 k d.1 d.2.1 d.2.2.1 d.2.2.2.1 d.2.2.2.2.1 d.2.2.2.2.2.1 }
def yx9 : z1w := [([54], [(6, y4c)])]
def y0o (k : Nat) (a0 : List Int) (a1 : List Int) : Option (List Int) :=
 if decide ((a0.length : Int) < (a1.length : Int)) = true then if (0 : Int) <= IntKind.i64.wrap ((a1.length : Int) + 1) then if (IntKind.i64.wrap ((a1.length : Int) + 1)) * 4 <= 281474976710656 then
 match z63 k a0 0 a1 (a1.length : Int) 0 (List.replicate 0 0) with
 | none => none
 | some (.exit d1) =>
  if decide (d1.1 > 0) = true then if (d1.2.1.length + 1) * 4 <= 140737488355328 then
  some (d1.2.1 ++ [d1.1])
  else none
  else
  some d1.2.1
 | some (.ret d1) =>
  none
 else none else none
 else
 if (0 : Int) <= IntKind.i64.wrap ((a0.length : Int) + 1) then if (IntKind.i64.wrap ((a0.length : Int) + 1)) * 4 <= 281474976710656 then
 match z63 k a1 0 a0 (a0.length : Int) 0 (List.replicate 0 0) with
 | none => none
 | some (.exit d2) =>
  if decide (d2.1 > 0) = true then if (d2.2.1.length + 1) * 4 <= 140737488355328 then
  some (d2.2.1 ++ [d2.1])
  else none
  else
  some d2.2.1
 | some (.ret d2) =>
  none
 else none else none
def y8s (k : Nat) : Vm.Spec := { ps := [.slice (.int .u32), .slice (.int .u32)], rs := [.fresh (.int .u32)], f := fun x => y0o k x.1 x.2 }
noncomputable def yc9 : Vm.Spec := y8s fuel
theorem y80 : Vm.Spec.holds Tryz.prog 54 yc9 := z0v (E := w2c) (L := yx9) (fn := Tryz.f54) (Z := y8s) (z1h ok) (z0n (by exact trivial)) z0w (z07 rfl) (z01 rfl) (by kernel_rfl) (by kernel_rfl) (z0i (ls := [(6, y4c)]) rfl rfl ⟨by kernel_rfl, fun _ => rfl, fun _ _ => by kernel_rfl, z0j (by kernel_rfl)⟩) fun k x => by kernel_rfl
noncomputable def w2j : Env := { te := te, spec := [(51, zo1), (52, zb1), (53, y5z), (54, yc9), (55, zo0), (56, yd0)], body := [] }
def yy6 : z1w := []
def z44 (k : Nat) (a0 : Bool × ((List Int) × (List Int))) (a1 : Bool × ((List Int) × (List Int))) : Option (Bool × ((List Int) × (List Int))) :=
 if ((a0.2.1.length : Int) == 0) = true then
 some a1
 else
 if ((a1.2.1.length : Int) == 0) = true then
 some a0
 else
 (z35 fuel a1).bind fun r1 =>
 (z4y fuel a0.2.1 r1).bind fun r2 =>
 (z35 fuel a0).bind fun r3 =>
 (z4y fuel a1.2.1 r3).bind fun r4 =>
 (z35 fuel a0).bind fun r5 =>
 (z35 fuel a1).bind fun r6 =>
 (z4y fuel r5 r6).bind fun r7 =>
 if (a0.1 == a1.1) = true then
 (y0o fuel r2 r4).bind fun r8 =>
 (zh9 fuel a0.1 r8 r7).bind fun r9 =>
 some r9
 else
 (z4x fuel r2 r4).bind fun r10 =>
 if decide (r10 >= 0) = true then
 (zp4 fuel r2 r4).bind fun r11 =>
 (zh9 fuel a0.1 r11 r7).bind fun r12 =>
 some r12
 else
 (zp4 fuel r4 r2).bind fun r13 =>
 (zh9 fuel a1.1 r13 r7).bind fun r14 =>
 some r14
def y8z (k : Nat) : Vm.Spec := { ps := [qT, qT], rs := [.imm qT], f := fun x => z44 k x.1 x.2 }
noncomputable def ze9 : Vm.Spec := y8z fuel
theorem z6k : Vm.Spec.holds Tryz.prog 26 ze9 := z0v (E := w2j) (L := yy6) (fn := Tryz.f26) (Z := y8z) (z1h ok) (z0n (by exact ⟨⟨by kernel_rfl, z88⟩, ⟨by kernel_rfl, z6q⟩, ⟨by kernel_rfl, zp5⟩, ⟨by kernel_rfl, y80⟩, ⟨by kernel_rfl, z87⟩, ⟨by kernel_rfl, y81⟩, trivial⟩)) z0w (z07 rfl) (z01 rfl) (by kernel_rfl) (by kernel_rfl) (z0o rfl) fun k x => by kernel_rfl
noncomputable def w2m : Env := { te := te, spec := [], body := [] }
def yy9 : z1w := []
def z9m (k : Nat) (a0 : Bool × ((List Int) × (List Int))) : Option (Bool × ((List Int) × (List Int))) :=
 if ((a0.2.1.length : Int) == 0) = true then
 some a0
 else
 some (!a0.1, a0.2)
def y92 (k : Nat) : Vm.Spec := { ps := [qT], rs := [.imm qT], f := fun x => z9m k x }
noncomputable def y54 : Vm.Spec := y92 fuel
theorem zy6 : Vm.Spec.holds Tryz.prog 50 y54 := z0v (E := w2m) (L := yy9) (fn := Tryz.f50) (Z := y92) (z1h ok) (z0n (by exact trivial)) z0w (z07 rfl) (z01 rfl) (by kernel_rfl) (by kernel_rfl) (z0o rfl) fun k x => by kernel_rfl
noncomputable def w2p : Env := { te := te, spec := [(26, ze9), (50, y54)], body := [] }
def yz2 : z1w := []
def z45 (k : Nat) (a0 : Bool × ((List Int) × (List Int))) (a1 : Bool × ((List Int) × (List Int))) : Option (Bool × ((List Int) × (List Int))) :=
 (z9m fuel a1).bind fun r1 =>
 (z44 fuel a0 r1).bind fun r2 =>
 some r2
def y95 (k : Nat) : Vm.Spec := { ps := [qT, qT], rs := [.imm qT], f := fun x => z45 k x.1 x.2 }
noncomputable def y0f : Vm.Spec := y95 fuel
theorem zf2 : Vm.Spec.holds Tryz.prog 24 y0f := z0v (E := w2p) (L := yz2) (fn := Tryz.f24) (Z := y95) (z1h ok) (z0n (by exact ⟨⟨by kernel_rfl, z6k⟩, ⟨by kernel_rfl, zy6⟩, trivial⟩)) z0w (z07 rfl) (z01 rfl) (by kernel_rfl) (by kernel_rfl) (z0o rfl) fun k x => by kernel_rfl
noncomputable def yx6 : Env := { te := te, spec := [], body := [] }
def ys0 : z1w := []
def z2y (k : Nat) (a0 : Bool × ((List Int) × (List Int))) : Option (Int) :=
 if ((a0.2.1.length : Int) == 0) = true then
 some 0
 else
 if a0.1 = true then
 some (-1)
 else
 some 1
def y66 (k : Nat) : Vm.Spec := { ps := [qT], rs := [.imm (.int .i64)], f := fun x => z2y k x }
noncomputable def zh1 : Vm.Spec := y66 fuel
theorem z7k : Vm.Spec.holds Tryz.prog 76 zh1 := z0v (E := yx6) (L := ys0) (fn := Tryz.f76) (Z := y66) (z1h ok) (z0n (by exact trivial)) z0w (z07 rfl) (z01 rfl) (by kernel_rfl) (by kernel_rfl) (z0o rfl) fun k x => by kernel_rfl
noncomputable def w2k : Env := { te := te, spec := [(24, y0f), (76, zh1)], body := [] }
def yy7 : z1w := []
def z3i (k : Nat) (a0 : Bool × ((List Int) × (List Int))) (a1 : Bool × ((List Int) × (List Int))) : Option (Int) :=
 (z45 fuel a0 a1).bind fun r1 =>
 (z2y fuel r1).bind fun r2 =>
 some r2
def y90 (k : Nat) : Vm.Spec := { ps := [qT, qT], rs := [.imm (.int .i64)], f := fun x => z3i k x.1 x.2 }
noncomputable def z9h : Vm.Spec := y90 fuel
theorem z5g : Vm.Spec.holds Tryz.prog 43 z9h := z0v (E := w2k) (L := yy7) (fn := Tryz.f43) (Z := y90) (z1h ok) (z0n (by exact ⟨⟨by kernel_rfl, zf2⟩, ⟨by kernel_rfl, z7k⟩, trivial⟩)) z0w (z07 rfl) (z01 rfl) (by kernel_rfl) (by kernel_rfl) (z0o rfl) fun k x => by kernel_rfl
noncomputable def y1g : Env := { te := te, spec := [], body := [] }
def zw7 : Ann := { slots := [(0, .one (.val .str)), (1, .one (.val (.int .u8)))], objs := [] }
def z9d : Ann := { slots := [(0, .one (.val .str))], objs := [] }
def z32 : Nat -> ByteArray -> Int -> Option (LR z9d a0)
 | 0, _, _ => none
 | m + 1, s0, s1 =>
  if decide ((s0.size : Int) > 0) = true then if (0 : Int) < (s0.size : Int) then if (((s0.data.getD 0 0).toNat : Int) == s1) = true then if (1 : Int) <= s0.size then
  z32 m (s0.extract 1 s0.size) s1
  else none
  else
  some (.exit (s0, ()))
  else none
  else
  some (.exit (s0, ()))
def z9c : LSpec := { h := zw7, x := z9d, r := a0, xid := 0, rt := false, pins := [], f := fun k d => z32 k d.1 d.2.1 }
def y0b : z1w := [([99], [(1, z9c)])]
def z7f (k : Nat) (a0 : ByteArray) (a1 : Int) : Option (ByteArray) :=
 match z32 k a0 a1 with
 | none => none
 | some (.exit d1) =>
  some d1.1
 | some (.ret d1) =>
  none
def zb5 (k : Nat) : Vm.Spec := { ps := [.str, .int .u8], rs := [.imm .str], f := fun x => z7f k x.1 x.2 }
noncomputable def zd8 : Vm.Spec := zb5 fuel
theorem zm7 : Vm.Spec.holds Tryz.prog 99 zd8 := z0v (E := y1g) (L := y0b) (fn := Tryz.f99) (Z := zb5) (z1h ok) (z0n (by exact trivial)) z0w (z07 rfl) (z01 rfl) (by kernel_rfl) (by kernel_rfl) (z0i (ls := [(1, z9c)]) rfl rfl ⟨by kernel_rfl, fun _ => rfl, fun _ _ => by kernel_rfl, z0j (by kernel_rfl)⟩) fun k x => by kernel_rfl
noncomputable def y5u : Env := { te := te, spec := [(99, zd8)], body := [] }
def y50 : z1w := []
def z7l (k : Nat) (a0 : ByteArray) (a1 : ByteArray) : Option (ByteArray) :=
 if ((a0.toList == (⟨#[]⟩ : ByteArray).toList)) = false then if ((a1.toList == (⟨#[]⟩ : ByteArray).toList)) = true then
 some a0
 else
 if ((a1.size : Int) == 1) = true then if (0 : Int) < (a1.size : Int) then if decide (((a1.data.getD 0 0).toNat : Int) < 128) = true then if (0 : Int) < (a1.size : Int) then
 (z7f fuel a0 ((a1.data.getD 0 0).toNat : Int)).bind fun r1 =>
 some r1
 else none else none else none else none
 else
 some a0
def zo7 (k : Nat) : Vm.Spec := { ps := [.str, .str], rs := [.imm .str], f := fun x => z7l k x.1 x.2 }
noncomputable def zt7 : Vm.Spec := zo7 fuel
theorem zy9 : Vm.Spec.holds Tryz.prog 94 zt7 := z0v (E := y5u) (L := y50) (fn := Tryz.f94) (Z := zo7) (z1h ok) (z0n (by exact ⟨⟨by kernel_rfl, zm7⟩, trivial⟩)) z0w (z07 rfl) (z01 rfl) (by kernel_rfl) (by kernel_rfl) (z0o rfl) fun k x => by kernel_rfl
noncomputable def yx4 : Env := { te := te, spec := [(94, zt7)], body := [] }
def ya2 : Ann := { slots := [(5, .one (.val (.int .u32))), (6, .one (.fix (.pbox 24 0))), (7, .one (.val (.int .i64)))], objs := [(24, .box [.val (.arr 9 (.int .u8))])] }
def y1b : Ann := { slots := [(6, .one (.fix (.pbox 24 0)))], objs := [(24, .box [.val (.arr 9 (.int .u8))])] }
def yg5 : Ann := { slots := [(0, .one (.val (.slice (.int .u32)))), (3, .one (.own 56 (.int .u8))), (4, .one (.val (.int .i64)))], objs := [(56, .buf (.int .u8))] }
def y2n : Ann := { slots := [(3, .one (.own 56 (.int .u8)))], objs := [(56, .buf (.int .u8))] }
def z5p : Nat -> Int -> Int -> List Int -> Option (LR y1b a0)
 | 0, _, _, _ => none
 | m + 1, s5, s7, b24_0 =>
  if decide (s7 >= 0) = true then if (0 : Int) <= s7 then if s7 < 9 then
  z5p m (IntKind.u32.wrap (s5.tdiv 10)) (IntKind.i64.wrap (s7 - 1)) (b24_0.set s7.toNat (IntKind.u8.wrap (IntKind.u32.wrap (48 + (s5.tmod 10)))))
  else none else none
  else
  some (.exit (b24_0, ()))
def y1a : LSpec := { h := ya2, x := y1b, r := a0, xid := 2, rt := false, pins := [24], f := fun k d => z5p k d.1 d.2.1 d.2.2.1 }
def z6d : Nat -> List Int -> Int -> List Int -> Option (LR y2n a0)
 | 0, _, _, _ => none
 | m + 1, s0, s4, b56 =>
  if decide (s4 >= 0) = true then if (0 : Int) <= s4 then if s4 < s0.length then
  match z5p m (s0.getD s4.toNat 0) 8 (List.replicate 9 0) with
  | none => none
  | some (.exit d1) =>
   if (b56.length + ((d1.1.take 9).drop 0).length) * 1 <= 140737488355328 then
   z6d m s0 (IntKind.i64.wrap (s4 - 1)) (b56 ++ ((d1.1.take 9).drop 0))
   else none
  | some (.ret d1) =>
   none
  else none else none
  else
  some (.exit (b56, ()))
def y2m : LSpec := { h := yg5, x := y2n, r := a0, xid := 0, rt := false, pins := [], f := fun k d => z6d k d.1 d.2.1 d.2.2.1 }
def yr8 : z1w := [([87], [(5, y2m), (10, y1a)])]
def z7r (k : Nat) (a0 : List Int) : Option (ByteArray) :=
 if ((a0.length : Int) == 0) = true then
 some (⟨#[48]⟩ : ByteArray)
 else
 if (0 : Int) <= IntKind.i64.wrap (9 * (a0.length : Int)) then if (IntKind.i64.wrap (9 * (a0.length : Int))) * 1 <= 281474976710656 then
 match z6d k a0 (IntKind.i64.wrap ((a0.length : Int) - 1)) (List.replicate 0 0) with
 | none => none
 | some (.exit d1) =>
  (z7l fuel (⟨(d1.1.map fun n => UInt8.ofNat n.toNat).toArray⟩ : ByteArray) (⟨#[48]⟩ : ByteArray)).bind fun r2 =>
  some r2
 | some (.ret d1) =>
  none
 else none else none
def y64 (k : Nat) : Vm.Spec := { ps := [.slice (.int .u32)], rs := [.imm .str], f := fun x => z7r k x }
noncomputable def y1s : Vm.Spec := y64 fuel
theorem zu0 : Vm.Spec.holds Tryz.prog 87 y1s := z0v (E := yx4) (L := yr8) (fn := Tryz.f87) (Z := y64) (z1h ok) (z0n (by exact ⟨⟨by kernel_rfl, zy9⟩, trivial⟩)) z0w (z07 rfl) (z01 rfl) (by kernel_rfl) (by kernel_rfl) (z0i (ls := [(5, y2m), (10, y1a)]) rfl rfl ⟨by kernel_rfl, fun _ => rfl, fun _ _ => by kernel_rfl, by kernel_rfl, fun _ => rfl, fun _ _ => by kernel_rfl, z0j (by kernel_rfl)⟩) fun k x => by kernel_rfl
noncomputable def yk4 : Env := { te := te, spec := [(87, y1s)], body := [] }
def yc6 : z1w := []
def z79 (k : Nat) (a0 : List Int) : Option (Int) :=
 (z7r fuel a0).bind fun r1 =>
 some (r1.size : Int)
def y1z (k : Nat) : Vm.Spec := { ps := [.slice (.int .u32)], rs := [.imm (.int .i64)], f := fun x => z79 k x }
noncomputable def y3y : Vm.Spec := y1z fuel
theorem y3o : Vm.Spec.holds Tryz.prog 86 y3y := z0v (E := yk4) (L := yc6) (fn := Tryz.f86) (Z := y1z) (z1h ok) (z0n (by exact ⟨⟨by kernel_rfl, zu0⟩, trivial⟩)) z0w (z07 rfl) (z01 rfl) (by kernel_rfl) (by kernel_rfl) (z0o rfl) fun k x => by kernel_rfl
noncomputable def w6q : Env := { te := te, spec := [(86, y3y)], body := [] }
def w2s : z1w := []
def z89 (k : Nat) (a0 : Bool × ((List Int) × (List Int))) : Option (Int) :=
 (z79 fuel a0.2.1).bind fun r1 =>
 if decide (r1 > 2000) = false then
 (z79 fuel a0.2.2).bind fun r2 =>
 if decide (r2 > 2000) = true then
 some 2
 else
 some 0
 else
 some 2
def yd4 (k : Nat) : Vm.Spec := { ps := [qT], rs := [.imm (.int .i64)], f := fun x => z89 k x }
noncomputable def zn0 : Vm.Spec := yd4 fuel
theorem z72 : Vm.Spec.holds Tryz.prog 69 zn0 := z0v (E := w6q) (L := w2s) (fn := Tryz.f69) (Z := yd4) (z1h ok) (z0n (by exact ⟨⟨by kernel_rfl, y3o⟩, trivial⟩)) z0w (z07 rfl) (z01 rfl) (by kernel_rfl) (by kernel_rfl) (z0o rfl) fun k x => by kernel_rfl
noncomputable def w2n : Env := { te := te, spec := [(52, zb1), (87, y1s)], body := [] }
def yz0 : z1w := []
def z7t (k : Nat) (a0 : Bool × ((List Int) × (List Int))) : Option (ByteArray) :=
 if ((a0.2.1.length : Int) == 0) = true then
 some (⟨#[48]⟩ : ByteArray)
 else
 (z7r fuel a0.2.1).bind fun r1 =>
 if a0.1 = true then if (⟨#[45]⟩ : ByteArray).size + r1.size <= 4611686018427387904 then
 (z35 fuel a0).bind fun r2 =>
 (z7r fuel r2).bind fun r3 =>
 if (!(r3.toList == (⟨#[49]⟩ : ByteArray).toList)) = true then if (⟨#[47]⟩ : ByteArray).size + r3.size <= 4611686018427387904 then if ((⟨#[45]⟩ : ByteArray) ++ r1).size + ((⟨#[47]⟩ : ByteArray) ++ r3).size <= 4611686018427387904 then
 some (((⟨#[45]⟩ : ByteArray) ++ r1) ++ ((⟨#[47]⟩ : ByteArray) ++ r3))
 else none else none
 else
 some ((⟨#[45]⟩ : ByteArray) ++ r1)
 else none
 else
 (z35 fuel a0).bind fun r4 =>
 (z7r fuel r4).bind fun r5 =>
 if (!(r5.toList == (⟨#[49]⟩ : ByteArray).toList)) = true then if (⟨#[47]⟩ : ByteArray).size + r5.size <= 4611686018427387904 then if r1.size + ((⟨#[47]⟩ : ByteArray) ++ r5).size <= 4611686018427387904 then
 some (r1 ++ ((⟨#[47]⟩ : ByteArray) ++ r5))
 else none else none
 else
 some r1
def y93 (k : Nat) : Vm.Spec := { ps := [qT], rs := [.imm .str], f := fun x => z7t k x }
noncomputable def zo3 : Vm.Spec := y93 fuel
theorem z8b : Vm.Spec.holds Tryz.prog 70 zo3 := z0v (E := w2n) (L := yz0) (fn := Tryz.f70) (Z := y93) (z1h ok) (z0n (by exact ⟨⟨by kernel_rfl, z6q⟩, ⟨by kernel_rfl, zu0⟩, trivial⟩)) z0w (z07 rfl) (z01 rfl) (by kernel_rfl) (by kernel_rfl) (z0o rfl) fun k x => by kernel_rfl
noncomputable def yx2 : Env := { te := te, spec := [(69, zn0), (70, zo3)], body := [] }
def yg1 : Ann := { slots := [(4, .one (.own 92 .str)), (8, .one (.val (.slice qT))), (9, .one (.val (.int .i64))), (10, .one (.val (.int .i64)))], objs := [(92, .buf .str)] }
def y2g : Ann := { slots := [(4, .one (.own 92 .str))], objs := [(92, .buf .str)] }
def y2f : Ann := { slots := [(2, .one (.fix .nil)), (3, .one (.val (.int .i64)))], objs := [] }
def z5e : Nat -> List (Bool × ((List Int) × (List Int))) -> Int -> Int -> List ByteArray -> Option (LR y2g y2f)
 | 0, _, _, _, _ => none
 | m + 1, s8, s9, s10, b92 =>
  if decide (s10 < s9) = true then if (0 : Int) <= s10 then if s10 < s8.length then
  (z89 fuel ((s8.getD s10.toNat (false, ([], []))).1, ((s8.getD s10.toNat (false, ([], []))).2))).bind fun r1 =>
  if (r1 != 0) = true then
  some (.ret (r1, ()))
  else
  (z7t fuel ((s8.getD s10.toNat (false, ([], []))).1, ((s8.getD s10.toNat (false, ([], []))).2))).bind fun r2 =>
  if (b92.length + 1) * 16 <= 140737488355328 then
  z5e m s8 s9 (IntKind.i64.wrap (s10 + 1)) (b92 ++ [r2])
  else none else none else none
  else
  some (.exit (b92, ()))
def y2e : LSpec := { h := yg1, x := y2g, r := y2f, xid := 0, rt := true, pins := [], f := fun k d => z5e k d.1 d.2.1 d.2.2.1 d.2.2.2.1 }
def yr6 : z1w := [([34], [(3, y2e)])]
def z3e (k : Nat) (a0 : List (Bool × ((List Int) × (List Int)))) : Option (List ByteArray × Int) :=
 match z5e k a0 (a0.length : Int) 0 [] with
 | none => none
 | some (.exit d1) =>
  some (d1.1, 0)
 | some (.ret d1) =>
  some ([], d1.1)
def y62 (k : Nat) : Vm.Spec := { ps := [.slice qT], rs := [.fresh .str, .imm (.int .i64)], f := fun x => z3e k x }
noncomputable def zh0 : Vm.Spec := y62 fuel
theorem z7j : Vm.Spec.holds Tryz.prog 34 zh0 := z0v (E := yx2) (L := yr6) (fn := Tryz.f34) (Z := y62) (z1h ok) (z0n (by exact ⟨⟨by kernel_rfl, z72⟩, ⟨by kernel_rfl, z8b⟩, trivial⟩)) z0w (z07 rfl) (z01 rfl) (by kernel_rfl) (by kernel_rfl) (z0i (ls := [(3, y2e)]) rfl rfl ⟨by kernel_rfl, fun _ => rfl, fun _ _ => by kernel_rfl, z0j (by kernel_rfl)⟩) fun k x => by kernel_rfl
noncomputable def yc0 : Env := { te := te, spec := [(34, zh0)], body := [] }
def y6q : Ann := { slots := [(4, .one (.own 104 (.slice .str))), (9, .one (.val (.slice (.slice qT)))), (10, .one (.val (.int .i64))), (11, .one (.val (.int .i64)))], objs := [(104, .buf (.slice .str))] }
def zv0 : Ann := { slots := [(4, .one (.own 104 (.slice .str)))], objs := [(104, .buf (.slice .str))] }
def zu9 : Ann := { slots := [(2, .one (.fix .nil)), (3, .one (.val (.int .i64)))], objs := [] }
def z3f : Nat -> List (List (Bool × ((List Int) × (List Int)))) -> Int -> Int -> List (List ByteArray) -> Option (LR zv0 zu9)
 | 0, _, _, _, _ => none
 | m + 1, s9, s10, s11, b104 =>
  if decide (s11 < s10) = true then if (0 : Int) <= s11 then if s11 < s9.length then
  (z3e fuel (s9.getD s11.toNat [])).bind fun r1 =>
  if (r1.2 != 0) = true then
  some (.ret (r1.2, ()))
  else
  if (b104.length + 1) * 24 <= 140737488355328 then
  z3f m s9 s10 (IntKind.i64.wrap (s11 + 1)) (b104 ++ [r1.1])
  else none else none else none
  else
  some (.exit (b104, ()))
def zu8 : LSpec := { h := y6q, x := zv0, r := zu9, xid := 0, rt := true, pins := [], f := fun k d => z3f k d.1 d.2.1 d.2.2.1 d.2.2.2.1 }
def y9s : z1w := [([27], [(3, zu8)])]
def z6i (k : Nat) (a0 : List (List (Bool × ((List Int) × (List Int))))) : Option (List (List ByteArray) × Int) :=
 match z3f k a0 (a0.length : Int) 0 [] with
 | none => none
 | some (.exit d1) =>
  some (d1.1, 0)
 | some (.ret d1) =>
  some ([], d1.1)
def y13 (k : Nat) : Vm.Spec := { ps := [.slice (.slice qT)], rs := [.fresh (.slice .str), .imm (.int .i64)], f := fun x => z6i k x }
noncomputable def y1r : Vm.Spec := y13 fuel
theorem y25 : Vm.Spec.holds Tryz.prog 27 y1r := z0v (E := yc0) (L := y9s) (fn := Tryz.f27) (Z := y13) (z1h ok) (z0n (by exact ⟨⟨by kernel_rfl, z7j⟩, trivial⟩)) z0w (z07 rfl) (z01 rfl) (by kernel_rfl) (by kernel_rfl) (z0i (ls := [(3, zu8)]) rfl rfl ⟨by kernel_rfl, fun _ => rfl, fun _ _ => by kernel_rfl, z0j (by kernel_rfl)⟩) fun k x => by kernel_rfl
noncomputable def yx0 : Env := { te := te, spec := [], body := [] }
def yr4 : z1w := []
def y9b (k : Nat) (a0 : Int) (a1 : Int) : Option (Int × Int) :=
 some (IntKind.u64.wrap ((IntKind.u64.wrap ((IntKind.u64.wrap ((a0.fdiv (2 ^ 32)) * (a1.fdiv (2 ^ 32)))) + ((IntKind.u64.wrap ((IntKind.u64.wrap ((a0.fdiv (2 ^ 32)) * (y9v .and .u64 a1 4294967295))) + ((IntKind.u64.wrap ((y9v .and .u64 a0 4294967295) * (y9v .and .u64 a1 4294967295))).fdiv (2 ^ 32)))).fdiv (2 ^ 32)))) + ((IntKind.u64.wrap ((y9v .and .u64 (IntKind.u64.wrap ((IntKind.u64.wrap ((a0.fdiv (2 ^ 32)) * (y9v .and .u64 a1 4294967295))) + ((IntKind.u64.wrap ((y9v .and .u64 a0 4294967295) * (y9v .and .u64 a1 4294967295))).fdiv (2 ^ 32)))) 4294967295) + (IntKind.u64.wrap ((y9v .and .u64 a0 4294967295) * (a1.fdiv (2 ^ 32)))))).fdiv (2 ^ 32))), IntKind.u64.wrap (a0 * a1))
def y60 (k : Nat) : Vm.Spec := { ps := [.int .u64, .int .u64], rs := [.imm (.int .u64), .imm (.int .u64)], f := fun x => y9b k x.1 x.2 }
noncomputable def y8o : Vm.Spec := y60 fuel
theorem y6h : Vm.Spec.holds Tryz.prog 81 y8o := z0v (E := yx0) (L := yr4) (fn := Tryz.f81) (Z := y60) (z1h ok) (z0n (by exact trivial)) z0w (z07 rfl) (z01 rfl) (by kernel_rfl) (by kernel_rfl) (z0o rfl) fun k x => by kernel_rfl
noncomputable def w6o : Env := { te := te, spec := [(81, y8o)], body := [] }
def w2q : z1w := []
def yo6 (k : Nat) (a0 : Int) (a1 : Int) : Option (Int × Int) :=
 (y9b fuel a0 a1).bind fun r1 =>
 some (r1.1, r1.2)
def yd2 (k : Nat) : Vm.Spec := { ps := [.int .u64, .int .u64], rs := [.imm (.int .u64), .imm (.int .u64)], f := fun x => yo6 k x.1 x.2 }
noncomputable def yn4 : Vm.Spec := yd2 fuel
theorem y9z : Vm.Spec.holds Tryz.prog 57 yn4 := z0v (E := w6o) (L := w2q) (fn := Tryz.f57) (Z := yd2) (z1h ok) (z0n (by exact ⟨⟨by kernel_rfl, y6h⟩, trivial⟩)) z0w (z07 rfl) (z01 rfl) (by kernel_rfl) (by kernel_rfl) (z0o rfl) fun k x => by kernel_rfl
noncomputable def y4w : Env := { te := te, spec := [(57, yn4)], body := [] }
def y1m : Ann := { slots := [(7, .one (.own 120 .str)), (8, .one (.val (.int .i64)))], objs := [(120, .buf .str)] }
def ze6 : Ann := { slots := [(7, .one (.own 120 .str))], objs := [(120, .buf .str)] }
def z81 : Nat -> Int -> List ByteArray -> Option (LR ze6 a0)
 | 0, _, _ => none
 | m + 1, s8, b120 =>
  if decide (s8 < (b120.length : Int)) = true then if (0 : Int) <= s8 then if s8 <= b120.length then if (0 : Int) <= s8 then if s8 <= b120.length then
  z81 m (IntKind.i64.wrap (s8 + ((min (b120.take s8.toNat).length (b120.length - s8.toNat) : Nat) : Int))) (b120.take s8.toNat ++ ((b120.take s8.toNat).take (b120.length - s8.toNat) ++ b120.drop (s8.toNat + min (b120.take s8.toNat).length (b120.length - s8.toNat))))
  else none else none else none else none
  else
  some (.exit (b120, ()))
def ze5 : LSpec := { h := y1m, x := ze6, r := a0, xid := 0, rt := false, pins := [120], f := fun k d => z81 k d.1 d.2.1 }
def y3l : z1w := [([28], [(8, ze5)])]
def z1v (k : Nat) (a0 : List ByteArray) (a1 : Int) : Option (List ByteArray) :=
 if decide (a1 < 0) = true then
 none
 else
 (yo6 fuel (IntKind.u64.wrap ((a0.length : Int))) (IntKind.u64.wrap (a1))).bind fun r1 =>
 if decide (r1.1 > 0) = false then if decide (r1.2 > 9223372036854775807) = true then
 none
 else
 if (0 : Int) <= IntKind.i64.wrap (r1.2) then if IntKind.i64.wrap (r1.2) <= IntKind.i64.wrap (r1.2) then if (IntKind.i64.wrap (r1.2)) * 16 <= 281474976710656 then
 match z81 k ((min a0.length (List.replicate ((IntKind.i64.wrap (r1.2)).toNat) ByteArray.empty).length : Nat) : Int) (a0.take (List.replicate ((IntKind.i64.wrap (r1.2)).toNat) ByteArray.empty).length ++ (List.replicate ((IntKind.i64.wrap (r1.2)).toNat) ByteArray.empty).drop a0.length) with
 | none => none
 | some (.exit d2) =>
  some d2.1
 | some (.ret d2) =>
  none
 else none else none else none else none
def zk4 (k : Nat) : Vm.Spec := { ps := [.slice .str, .int .i64], rs := [.fresh .str], f := fun x => z1v k x.1 x.2 }
noncomputable def zo4 : Vm.Spec := zk4 fuel
theorem zw5 : Vm.Spec.holds Tryz.prog 28 zo4 := z0v (E := y4w) (L := y3l) (fn := Tryz.f28) (Z := zk4) (z1h ok) (z0n (by exact ⟨⟨by kernel_rfl, y9z⟩, trivial⟩)) z0w (z07 rfl) (z01 rfl) (by kernel_rfl) (by kernel_rfl) (z0i (ls := [(8, ze5)]) rfl rfl ⟨by kernel_rfl, fun _ => rfl, fun _ _ => by kernel_rfl, z0j (by kernel_rfl)⟩) fun k x => by kernel_rfl
noncomputable def yc1 : Env := { te := te, spec := [(36, zg3), (37, zg4), (71, z6f)], body := [] }
def y9t : z1w := []
def z6l (k : Nat) (a0 : (List (List ByteArray)) × ((List ByteArray) × (List ByteArray))) : Option (Int) :=
 if decide ((a0.1.length : Int) > 40) = false then if decide ((a0.2.2.length : Int) > 40) = true then
 some 2
 else
 (z4f fuel a0.1).bind fun r1 =>
 if (r1 != 0) = true then
 some r1
 else
 (z1g fuel a0.2.1).bind fun r2 =>
 if (r2 != 0) = true then
 some r2
 else
 (z1g fuel a0.2.2).bind fun r3 =>
 if (r3 != 0) = true then
 some r3
 else
 if ((a0.1.length : Int) != (a0.2.1.length : Int)) = false then if decide ((a0.1.length : Int) > 0) = true then
 (z6a fuel a0.1).bind fun r4 =>
 if (r4 != (a0.2.2.length : Int)) = true then
 some 3
 else
 some 0
 else
 some 0
 else
 some 3
 else
 some 2
def y14 (k : Nat) : Vm.Spec := { ps := [.pair (.slice (.slice .str)) (.pair (.slice .str) (.slice .str))], rs := [.imm (.int .i64)], f := fun x => z6l k x }
noncomputable def y1u : Vm.Spec := y14 fuel
theorem y28 : Vm.Spec.holds Tryz.prog 58 y1u := z0v (E := yc1) (L := y9t) (fn := Tryz.f58) (Z := y14) (z1h ok) (z0n (by exact ⟨⟨by kernel_rfl, z90⟩, ⟨by kernel_rfl, z91⟩, ⟨by kernel_rfl, z57⟩, trivial⟩)) z0w (z07 rfl) (z01 rfl) (by kernel_rfl) (by kernel_rfl) (z0o rfl) fun k x => by kernel_rfl
noncomputable def w2l : Env := { te := te, spec := [(51, zo1), (52, zb1), (53, y5z)], body := [] }
def yy8 : z1w := []
def z2z (k : Nat) (a0 : Bool × ((List Int) × (List Int))) (a1 : Bool × ((List Int) × (List Int))) : Option (Bool × ((List Int) × (List Int))) :=
 if ((a0.2.1.length : Int) == 0) = false then if ((a1.2.1.length : Int) == 0) = true then
 some (false, ([], []))
 else
 (z4y fuel a0.2.1 a1.2.1).bind fun r1 =>
 (z35 fuel a0).bind fun r2 =>
 (z35 fuel a1).bind fun r3 =>
 (z4y fuel r2 r3).bind fun r4 =>
 (zh9 fuel (!(a0.1 == a1.1)) r1 r4).bind fun r5 =>
 some r5
 else
 some (false, ([], []))
def y91 (k : Nat) : Vm.Spec := { ps := [qT, qT], rs := [.imm qT], f := fun x => z2z k x.1 x.2 }
noncomputable def zo2 : Vm.Spec := y91 fuel
theorem z8a : Vm.Spec.holds Tryz.prog 33 zo2 := z0v (E := w2l) (L := yy8) (fn := Tryz.f33) (Z := y91) (z1h ok) (z0n (by exact ⟨⟨by kernel_rfl, z88⟩, ⟨by kernel_rfl, z6q⟩, ⟨by kernel_rfl, zp5⟩, trivial⟩)) z0w (z07 rfl) (z01 rfl) (by kernel_rfl) (by kernel_rfl) (z0o rfl) fun k x => by kernel_rfl
noncomputable def w2o : Env := { te := te, spec := [(51, zo1), (52, zb1), (53, y5z)], body := [] }
def yz1 : z1w := []
def z5m (k : Nat) (a0 : Bool × ((List Int) × (List Int))) (a1 : Bool × ((List Int) × (List Int))) : Option (Bool × ((List Int) × (List Int))) :=
 if ((a0.2.1.length : Int) == 0) = false then if ((a1.2.1.length : Int) == 0) = true then
 some (false, ([], []))
 else
 (z35 fuel a1).bind fun r1 =>
 (z4y fuel a0.2.1 r1).bind fun r2 =>
 (z35 fuel a0).bind fun r3 =>
 (z4y fuel r3 a1.2.1).bind fun r4 =>
 (zh9 fuel (!(a0.1 == a1.1)) r2 r4).bind fun r5 =>
 some r5
 else
 some (false, ([], []))
def y94 (k : Nat) : Vm.Spec := { ps := [qT, qT], rs := [.imm qT], f := fun x => z5m k x.1 x.2 }
noncomputable def y0e : Vm.Spec := y94 fuel
theorem zf1 : Vm.Spec.holds Tryz.prog 30 y0e := z0v (E := w2o) (L := yz1) (fn := Tryz.f30) (Z := y94) (z1h ok) (z0n (by exact ⟨⟨by kernel_rfl, z88⟩, ⟨by kernel_rfl, z6q⟩, ⟨by kernel_rfl, zp5⟩, trivial⟩)) z0w (z07 rfl) (z01 rfl) (by kernel_rfl) (by kernel_rfl) (z0o rfl) fun k x => by kernel_rfl
noncomputable def y9p : Env := { te := te, spec := [(34, zh0), (69, zn0), (70, zo3)], body := [] }
def y7o : z1w := []
def z14 (k : Nat) (a0 : Int) (a1 : List (Bool × ((List Int) × (List Int)))) (a2 : List (Bool × ((List Int) × (List Int)))) (a3 : List (Bool × ((List Int) × (List Int)))) (a4 : Bool × ((List Int) × (List Int))) : Option ((Int × ((List ByteArray) × ((List ByteArray) × ((List ByteArray) × ByteArray)))) × Int) :=
 (z3e fuel a1).bind fun r1 =>
 if (r1.2 != 0) = true then
 some ((0, ([], ([], ([], ByteArray.empty)))), r1.2)
 else
 (z3e fuel a2).bind fun r2 =>
 if (r2.2 != 0) = true then
 some ((0, ([], ([], ([], ByteArray.empty)))), r2.2)
 else
 (z3e fuel a3).bind fun r3 =>
 if (r3.2 != 0) = true then
 some ((0, ([], ([], ([], ByteArray.empty)))), r3.2)
 else
 (z89 fuel a4).bind fun r4 =>
 if (r4 != 0) = true then
 some ((0, ([], ([], ([], ByteArray.empty)))), r4)
 else
 if (a0 == 0) = true then
 (z7t fuel a4).bind fun r5 =>
 some ((a0, (r1.1, (r2.1, (r3.1, r5)))), 0)
 else
 some ((a0, (r1.1, (r2.1, (r3.1, ByteArray.empty)))), 0)
def zx9 (k : Nat) : Vm.Spec := { ps := [.int .i64, .slice qT, .slice qT, .slice qT, qT], rs := [.imm (.pair (.int .i64) (.pair (.slice .str) (.pair (.slice .str) (.pair (.slice .str) .str)))), .imm (.int .i64)], f := fun x => z14 k x.1 x.2.1 x.2.2.1 x.2.2.2.1 x.2.2.2.2 }
noncomputable def y10 : Vm.Spec := zx9 fuel
theorem y1k : Vm.Spec.holds Tryz.prog 61 y10 := z0v (E := y9p) (L := y7o) (fn := Tryz.f61) (Z := zx9) (z1h ok) (z0n (by exact ⟨⟨by kernel_rfl, z7j⟩, ⟨by kernel_rfl, z72⟩, ⟨by kernel_rfl, z8b⟩, trivial⟩)) z0w (z07 rfl) (z01 rfl) (by kernel_rfl) (by kernel_rfl) (z0o rfl) fun k x => by kernel_rfl
end Go.Proofs.YtcdcoeofhnfjdaaGreatDoor
