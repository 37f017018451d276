/- Pure functions, printed by a program of this session out of the program. -/
import Derived.Test.YtcdcoeofhnfjdabGreatDoorVmD
import Derived.Test.YtcdcoeofhnfjdabGreatDoorSh
set_option linter.unusedVariables false
namespace Go.Proofs.YtcdcoeofhnfjdabGreatDoor
open Go Vm Go.Proofs
abbrev qT : Ty := .pair .bool (.pair (.slice (.int .u32)) (.slice (.int .u32)))
def a0 : Ann := { slots := [], objs := [] }
def te : TE := [(2, ⟨.int .i64, .sc, 8⟩),
  (3, ⟨.int .i64, .sc, 8⟩),
  (4, ⟨.bool, .sc, 1⟩),
  (5, ⟨.int .u8, .sc, 1⟩),
  (9, ⟨.str, .sc, 16⟩),
  (23, ⟨.slice (.slice .str), .slice 31, 24⟩),
  (24, ⟨.str, .sc, 16⟩),
  (26, ⟨.int .i64, .sc, 8⟩),
  (30, ⟨.slice .str, .slice 24, 24⟩),
  (31, ⟨.slice .str, .slice 24, 24⟩),
  (37, ⟨.pair .str (.pair (.slice .str) (.slice .str)), .st [24, 31, 31], 64⟩),
  (42, ⟨.slice (.int .i64), .slice 3, 24⟩),
  (60, ⟨.slice (.int .u32), .slice 114, 24⟩),
  (62, ⟨qT, .st [4, 60, 60], 56⟩),
  (65, ⟨.slice (.slice (.slice .str)), .slice 23, 24⟩),
  (82, ⟨.slice (.slice qT), .slice 87, 24⟩),
  (87, ⟨.slice qT, .slice 62, 24⟩),
  (91, ⟨.pair (.slice (.slice .str)) (.pair (.slice .str) (.slice .str)), .st [23, 31, 31], 72⟩),
  (93, ⟨.pair (.int .i64) (.pair (.slice .str) (.pair (.slice .str) (.pair (.slice .str) .str))), .st [3, 31, 31, 31, 24], 96⟩),
  (100, ⟨.slice (.int .i64), .slice 26, 24⟩),
  (113, ⟨.slice (.int .u8), .slice 5, 24⟩),
  (114, ⟨.int .u32, .sc, 4⟩),
  (121, ⟨.int .u64, .sc, 8⟩),
  (125, ⟨.opq, .ptr 129, 8⟩),
  (129, ⟨.pair (.slice (.slice qT)) (.pair (.slice (.int .i64)) (.pair (.int .i64) (.int .i64))), .st [82, 42, 3, 3], 64⟩),
  (141, ⟨.int .u64, .sc, 8⟩),
  (149, ⟨.arr 9 (.int .u8), .ar 9 5, 9⟩)]
theorem ok : EOk Tryz.prog { te := te, spec := [], body := [] } := v1f (by kernel_rfl)
theorem z0v : Tryz.prog.follows .mixedOrders = true := by kernel_rfl
noncomputable def y0o : Env := { te := te, spec := [], body := [] }
def zy7 : z1t := []
def z58 (k : Nat) (a0 : ByteArray) (a1 : ByteArray) : Option (Bool) :=
 if decide ((a0.size : Int) >= (a1.size : Int)) = true then if (0 : Int) <= (a1.size : Int) then if (a1.size : Int) <= a0.size then
 some (((a0.extract 0 (a1.size : Int).toNat).toList == a1.toList))
 else none else none
 else
 some false
def zb7 (k : Nat) : Vm.Spec := { ps := [.str, .str], rs := [.imm .bool], f := fun x => z58 k x.1 x.2 }
noncomputable def zd5 : Vm.Spec := zb7 fuel
theorem zl5 : Vm.Spec.holds Tryz.prog 92 zd5 := z0u (E := y0o) (L := zy7) (fn := Tryz.f92) (Z := zb7) (z1f ok) (z0m (by exact trivial)) z0v (z07 rfl) (z01 rfl) (by kernel_rfl) (by kernel_rfl) (z0o rfl) fun k x => by kernel_rfl
noncomputable def y0n : Env := { te := te, spec := [(92, zd5)], body := [] }
def zy6 : z1t := []
def z57 (k : Nat) (a0 : ByteArray) (a1 : ByteArray) : Option (ByteArray × Bool) :=
 (z58 fuel a0 a1).bind fun r1 =>
 if (!r1) = true then
 some (a0, false)
 else
 if (0 : Int) <= (a1.size : Int) then if (a1.size : Int) <= a0.size then
 some (a0.extract (a1.size : Int).toNat a0.size, true)
 else none else none
def zb6 (k : Nat) : Vm.Spec := { ps := [.str, .str], rs := [.imm .str, .imm .bool], f := fun x => z57 k x.1 x.2 }
noncomputable def zd4 : Vm.Spec := zb6 fuel
theorem zl4 : Vm.Spec.holds Tryz.prog 67 zd4 := z0u (E := y0n) (L := zy6) (fn := Tryz.f67) (Z := zb6) (z1f ok) (z0m (by exact ⟨⟨by kernel_rfl, zl5⟩, trivial⟩)) z0v (z07 rfl) (z01 rfl) (by kernel_rfl) (by kernel_rfl) (z0o rfl) fun k x => by kernel_rfl
noncomputable def y5g : Env := { te := te, spec := [(67, zd4)], body := [] }
def y45 : z1t := []
def z2o (k : Nat) (a0 : ByteArray) (a1 : ByteArray) : Option (ByteArray × Bool) :=
 (z57 fuel a0 a1).bind fun r1 =>
 some (r1.1, r1.2)
def zm2 (k : Nat) : Vm.Spec := { ps := [.str, .str], rs := [.imm .str, .imm .bool], f := fun x => z2o k x.1 x.2 }
noncomputable def z9z : Vm.Spec := zm2 fuel
theorem z9n : Vm.Spec.holds Tryz.prog 33 z9z := z0u (E := y5g) (L := y45) (fn := Tryz.f33) (Z := zm2) (z1f ok) (z0m (by exact ⟨⟨by kernel_rfl, zl4⟩, trivial⟩)) z0v (z07 rfl) (z01 rfl) (by kernel_rfl) (by kernel_rfl) (z0o rfl) fun k x => by kernel_rfl
noncomputable def y89 : Env := { te := te, spec := [(93, Vm.sIndex)], body := [] }
def y6i : z1t := []
def z8h (k : Nat) (a0 : ByteArray) (a1 : ByteArray) : Option (ByteArray × ByteArray × Bool) :=
 (Vm.stdIndex a0 a1).bind fun r1 =>
 if decide (r1 >= 0) = true then if (0 : Int) <= r1 then if r1 <= a0.size then if (0 : Int) <= IntKind.i64.wrap (r1 + (a1.size : Int)) then if IntKind.i64.wrap (r1 + (a1.size : Int)) <= a0.size then
 some (a0.extract 0 r1.toNat, a0.extract (IntKind.i64.wrap (r1 + (a1.size : Int))).toNat a0.size, true)
 else none else none else none else none
 else
 some (a0, (⟨#[]⟩ : ByteArray), false)
def zv2 (k : Nat) : Vm.Spec := { ps := [.str, .str], rs := [.imm .str, .imm .str, .imm .bool], f := fun x => z8h k x.1 x.2 }
noncomputable def zy9 : Vm.Spec := zv2 fuel
theorem y13 : Vm.Spec.holds Tryz.prog 68 zy9 := z0u (E := y89) (L := y6i) (fn := Tryz.f68) (Z := zv2) (z1f ok) (z0m (by exact ⟨⟨by kernel_rfl, wd4⟩, trivial⟩)) z0v (z07 rfl) (z01 rfl) (by kernel_rfl) (by kernel_rfl) (z0o rfl) fun k x => by kernel_rfl
noncomputable def yu8 : Env := { te := te, spec := [(68, zy9)], body := [] }
def yo2 : z1t := []
def z5y (k : Nat) (a0 : ByteArray) (a1 : ByteArray) : Option (ByteArray × ByteArray × Bool) :=
 (z8h fuel a0 a1).bind fun r1 =>
 some (r1.1, r1.2.1, r1.2.2)
def y4l (k : Nat) : Vm.Spec := { ps := [.str, .str], rs := [.imm .str, .imm .str, .imm .bool], f := fun x => z5y k x.1 x.2 }
noncomputable def y0w : Vm.Spec := y4l fuel
theorem zq8 : Vm.Spec.holds Tryz.prog 34 y0w := z0u (E := yu8) (L := yo2) (fn := Tryz.f34) (Z := y4l) (z1f ok) (z0m (by exact ⟨⟨by kernel_rfl, y13⟩, trivial⟩)) z0v (z07 rfl) (z01 rfl) (by kernel_rfl) (by kernel_rfl) (z0o rfl) fun k x => by kernel_rfl
noncomputable def w37 : Env := { te := te, spec := [], body := [] }
def yp0 : Ann := { slots := [(18, .one (.val (.slice (.int .u8)))), (19, .one (.val (.int .i64))), (20, .one (.val (.int .i64)))], objs := [] }
def y4v : Ann := { slots := [(2, .one (.val (.int .i64)))], objs := [] }
def z70 : Nat -> List Int -> Int -> Int -> Option (LR a0 y4v)
 | 0, _, _, _ => none
 | m + 1, s18, s19, s20 =>
  if decide (s20 < s19) = true then if (0 : Int) <= s20 then if s20 < s18.length then if decide (s18.getD s20.toNat 0 < 48) = false then if decide (s18.getD s20.toNat 0 > 57) = true then
  some (.ret (5, ()))
  else
  z70 m s18 s19 (IntKind.i64.wrap (s20 + 1))
  else
  some (.ret (5, ()))
  else none else none
  else
  some (.exit ())
def y4u : LSpec := { h := yp0, x := a0, r := y4v, xid := 0, rt := true, pins := [], f := fun k d => z70 k d.1 d.2.1 d.2.2.1 }
def w0a : z1t := [([35], [(4, y4u)])]
def z6s (k : Nat) (a0 : ByteArray) : Option (Int) :=
 if ((a0.toList == (⟨#[]⟩ : ByteArray).toList)) = false then if (0 : Int) < (a0.size : Int) then if (((a0.data.getD 0 0).toNat : Int) == 48) = true then if decide ((a0.size : Int) > 1) = true then
 some 5
 else
 match z70 k (a0.data.toList.map fun c => (c.toNat : Int)) ((a0.data.toList.map fun c => (c.toNat : Int)).length : Int) 0 with
 | none => none
 | some (.exit d1) =>
  if decide ((a0.size : Int) > 2000) = true then
  some 2
  else
  some 0
 | some (.ret d1) =>
  some d1.1
 else
 match z70 k (a0.data.toList.map fun c => (c.toNat : Int)) ((a0.data.toList.map fun c => (c.toNat : Int)).length : Int) 0 with
 | none => none
 | some (.exit d2) =>
  if decide ((a0.size : Int) > 2000) = true then
  some 2
  else
  some 0
 | some (.ret d2) =>
  some d2.1
 else none
 else
 some 5
def y9g (k : Nat) : Vm.Spec := { ps := [.str], rs := [.imm (.int .i64)], f := fun x => z6s k x }
noncomputable def yf4 : Vm.Spec := y9g fuel
theorem y8n : Vm.Spec.holds Tryz.prog 35 yf4 := z0u (E := w37) (L := w0a) (fn := Tryz.f35) (Z := y9g) (z1f ok) (z0m (by exact trivial)) z0v (z07 rfl) (z01 rfl) (by kernel_rfl) (by kernel_rfl) (z0h (ls := [(4, y4u)]) rfl rfl ⟨by kernel_rfl, fun _ => rfl, fun _ _ => by kernel_rfl, z0i (by kernel_rfl)⟩) fun k x => by kernel_rfl
noncomputable def w7n : Env := { te := te, spec := [], body := [(69, Tryz.f69)] }
def yx9 : Ann := { slots := [(5, .one (.val (.int .u32))), (20, .one (.val (.slice (.int .u8)))), (21, .one (.val (.int .i64))), (22, .one (.val (.int .i64)))], objs := [] }
def y7j : Ann := { slots := [(5, .one (.val (.int .u32)))], objs := [] }
def yx8 : Ann := { slots := [(0, .one (.val .str)), (3, .one (.own 144 (.int .u32))), (4, .one (.val (.int .i64)))], objs := [(144, .buf (.int .u32))] }
def y7h : Ann := { slots := [(3, .one (.own 144 (.int .u32)))], objs := [(144, .buf (.int .u32))] }
def zx8 : Ann := { slots := [(0, .one (.pre 148 (.int .u32)))], objs := [(148, .buf (.int .u32))] }
def z9p : Ann := { slots := [(0, .one (.pre 148 (.int .u32)))], objs := [(148, .buf (.int .u32))] }
def zc5 : Nat -> Int -> List Int -> Int -> Int -> Option (LR y7j a0)
 | 0, _, _, _, _ => none
 | m + 1, s5, s20, s21, s22 =>
  if decide (s22 < s21) = true then if (0 : Int) <= s22 then if s22 < s20.length then
  zc5 m (IntKind.u32.wrap ((IntKind.u32.wrap (s5 * 10)) + (IntKind.u32.wrap (IntKind.u8.wrap ((s20.getD s22.toNat 0) - 48))))) s20 s21 (IntKind.i64.wrap (s22 + 1))
  else none else none
  else
  some (.exit (s5, ()))
def y7i : LSpec := { h := yx9, x := y7j, r := a0, xid := 2, rt := false, pins := [], f := fun k d => zc5 k d.1 d.2.1 d.2.2.1 d.2.2.2.1 }
def zc4 : Nat -> ByteArray -> Int -> List Int -> Option (LR y7h a0)
 | 0, _, _, _ => none
 | m + 1, s0, s4, b144 =>
  if decide (s4 > 0) = true then if (0 : Int) <= s4 then if s4 <= s0.size then if (0 : Int) <= (if IntKind.i64.wrap (s4 - 9) > 0 then IntKind.i64.wrap (s4 - 9) else 0) then if (if IntKind.i64.wrap (s4 - 9) > 0 then IntKind.i64.wrap (s4 - 9) else 0) <= s4 then
  match zc5 m 0 ((s0.extract (if IntKind.i64.wrap (s4 - 9) > 0 then IntKind.i64.wrap (s4 - 9) else 0).toNat s4.toNat).data.toList.map fun c => (c.toNat : Int)) (((s0.extract (if IntKind.i64.wrap (s4 - 9) > 0 then IntKind.i64.wrap (s4 - 9) else 0).toNat s4.toNat).data.toList.map fun c => (c.toNat : Int)).length : Int) 0 with
  | none => none
  | some (.exit d1) =>
   if (b144.length + 1) * 4 <= 140737488355328 then
   zc4 m s0 (IntKind.i64.wrap (s4 - 9)) (b144 ++ [d1.1])
   else none
  | some (.ret d1) =>
   none
  else none else none else none else none
  else
  some (.exit (b144, ()))
def y7g : LSpec := { h := yx8, x := y7h, r := a0, xid := 0, rt := false, pins := [], f := fun k d => zc4 k d.1 d.2.1 d.2.2.1 }
def z32 : Nat -> Nat -> List Int -> Option (LR z9p a0)
 | 0, _, _ => none
 | m + 1, s0, b148 =>
  if decide ((s0 : Int) > 0) = true then if (0 : Int) <= IntKind.i64.wrap ((s0 : Int) - 1) then if IntKind.i64.wrap ((s0 : Int) - 1) < s0 then if (b148.getD ((IntKind.i64.wrap ((s0 : Int) - 1)).toNat) 0 == 0) = true then if (0 : Int) <= IntKind.i64.wrap ((s0 : Int) - 1) then if IntKind.i64.wrap ((s0 : Int) - 1) <= s0 then
  z32 m ((IntKind.i64.wrap ((s0 : Int) - 1)).toNat) b148
  else none else none
  else
  some (.exit (s0, b148, ()))
  else none else none
  else
  some (.exit (s0, b148, ()))
def z9o : LSpec := { h := zx8, x := z9p, r := a0, xid := 0, rt := false, pins := [148], f := fun k d => z32 k d.1 d.2.1 }
def w3n : z1t := [([36], [(3, y7g), (7, y7i)]), ([69, 36], [(1, z9o)])]
def z3w (k : Nat) (a0 : ByteArray) : Option (List Int) :=
 match zc4 k a0 (a0.size : Int) [] with
 | none => none
 | some (.exit d1) =>
  match z32 k d1.1.length d1.1 with
  | none => none
  | some (.exit d2) =>
   some (d2.2.1.take d2.1)
  | some (.ret d2) =>
   none
 | some (.ret d1) =>
  none
def yf9 (k : Nat) : Vm.Spec := { ps := [.str], rs := [.fresh (.int .u32)], f := fun x => z3w k x }
noncomputable def y8e : Vm.Spec := yf9 fuel
theorem y1m : Vm.Spec.holds Tryz.prog 36 y8e := z0u (E := w7n) (L := w3n) (fn := Tryz.f36) (Z := yf9) (z1f ok) (z0m (by exact trivial)) z0v (z7u (by exact ⟨by kernel_rfl, by kernel_rfl, trivial⟩)) (z3b (by exact ⟨(z25 [[36]] (by exact ⟨z0h (ls := [(1, z9o)]) rfl rfl ⟨by kernel_rfl, fun _ => rfl, fun _ _ => by kernel_rfl, z0i (by kernel_rfl)⟩,  trivial⟩) rfl),  trivial⟩)) (by kernel_rfl) (by kernel_rfl) (z0h (ls := [(3, y7g), (7, y7i)]) rfl rfl ⟨by kernel_rfl, fun _ => rfl, fun _ _ => by kernel_rfl, by kernel_rfl, fun _ => rfl, fun _ _ => by kernel_rfl, z0i (by kernel_rfl)⟩) fun k x => by kernel_rfl
noncomputable def w39 : Env := { te := te, spec := [], body := [] }
def yp2 : Ann := { slots := [(0, .one (.val (.slice (.int .u32)))), (1, .one (.val (.slice (.int .u32)))), (5, .one (.val (.int .i64)))], objs := [] }
def y4z : Ann := { slots := [(4, .one (.val (.int .i64)))], objs := [] }
def z8k : Nat -> List Int -> List Int -> Int -> Option (LR a0 y4z)
 | 0, _, _, _ => none
 | m + 1, s0, s1, s5 =>
  if decide (s5 >= 0) = true then if (0 : Int) <= s5 then if s5 < s0.length then if (0 : Int) <= s5 then if s5 < s1.length then if decide (s0.getD s5.toNat 0 < s1.getD s5.toNat 0) = true then
  some (.ret ((-1), ()))
  else
  if (0 : Int) <= s5 then if s5 < s0.length then if (0 : Int) <= s5 then if s5 < s1.length then if decide (s0.getD s5.toNat 0 > s1.getD s5.toNat 0) = true then
  some (.ret (1, ()))
  else
  z8k m s0 s1 (IntKind.i64.wrap (s5 - 1))
  else none else none else none else none else none else none else none else none
  else
  some (.exit ())
def y4y : LSpec := { h := yp2, x := a0, r := y4z, xid := 0, rt := true, pins := [], f := fun k d => z8k k d.1 d.2.1 d.2.2.1 }
def w0c : z1t := [([38], [(6, y4y)])]
def z4u (k : Nat) (a0 : List Int) (a1 : List Int) : Option (Int) :=
 if ((a0.length : Int) != (a1.length : Int)) = true then if decide ((a0.length : Int) < (a1.length : Int)) = true then
 some (-1)
 else
 some 1
 else
 match z8k k a0 a1 (IntKind.i64.wrap ((a0.length : Int) - 1)) with
 | none => none
 | some (.exit d1) =>
  some 0
 | some (.ret d1) =>
  some d1.1
def y9i (k : Nat) : Vm.Spec := { ps := [.slice (.int .u32), .slice (.int .u32)], rs := [.imm (.int .i64)], f := fun x => z4u k x.1 x.2 }
noncomputable def zp5 : Vm.Spec := y9i fuel
theorem z8d : Vm.Spec.holds Tryz.prog 38 zp5 := z0u (E := w39) (L := w0c) (fn := Tryz.f38) (Z := y9i) (z1f ok) (z0m (by exact trivial)) z0v (z07 rfl) (z01 rfl) (by kernel_rfl) (by kernel_rfl) (z0h (ls := [(6, y4y)]) rfl rfl ⟨by kernel_rfl, fun _ => rfl, fun _ _ => by kernel_rfl, z0i (by kernel_rfl)⟩) fun k x => by kernel_rfl
noncomputable def w3c : Env := { te := te, spec := [], body := [(69, Tryz.f69)] }
def yp6 : Ann := { slots := [(5, .one (.own 68 (.int .u32))), (6, .one (.val (.int .i64))), (7, .one (.val (.int .u32))), (8, .one (.val (.int .u64))), (25, .one (.val (.slice (.int .u32)))), (26, .one (.val (.int .i64))), (27, .one (.val (.int .i64)))], objs := [(68, .buf (.int .u32))] }
def y57 : Ann := { slots := [(5, .one (.own 68 (.int .u32))), (8, .one (.val (.int .u64)))], objs := [(68, .buf (.int .u32))] }
def yp5 : Ann := { slots := [(1, .one (.val (.slice (.int .u32)))), (5, .one (.own 68 (.int .u32))), (18, .one (.val (.slice (.int .u32)))), (19, .one (.val (.int .i64))), (20, .one (.val (.int .i64)))], objs := [(68, .buf (.int .u32))] }
def y55 : Ann := { slots := [(5, .one (.own 68 (.int .u32)))], objs := [(68, .buf (.int .u32))] }
def zu4 : Ann := { slots := [(0, .one (.pre 68 (.int .u32)))], objs := [(68, .buf (.int .u32))] }
def z94 : Ann := { slots := [(0, .one (.pre 68 (.int .u32)))], objs := [(68, .buf (.int .u32))] }
def z8n : Nat -> Int -> Int -> Int -> List Int -> Int -> Int -> List Int -> Option (LR y57 a0)
 | 0, _, _, _, _, _, _, _ => none
 | m + 1, s6, s7, s8, s25, s26, s27, b68 =>
  if decide (s27 < s26) = true then if (0 : Int) <= s27 then if s27 < s25.length then if (0 : Int) <= IntKind.i64.wrap (s6 + s27) then if IntKind.i64.wrap (s6 + s27) < b68.length then if (0 : Int) <= IntKind.i64.wrap (s6 + s27) then if IntKind.i64.wrap (s6 + s27) < b68.length then
  z8n m s6 s7 (IntKind.u64.wrap ((IntKind.u64.wrap ((IntKind.u64.wrap ((IntKind.u64.wrap ((IntKind.u64.wrap (s7)) * (IntKind.u64.wrap (s25.getD s27.toNat 0)))) + (IntKind.u64.wrap (b68.getD ((IntKind.i64.wrap (s6 + s27)).toNat) 0)))) + s8)).tdiv 1000000000)) s25 s26 (IntKind.i64.wrap (s27 + 1)) (b68.set ((IntKind.i64.wrap (s6 + s27)).toNat) (IntKind.u32.wrap ((IntKind.u64.wrap ((IntKind.u64.wrap ((IntKind.u64.wrap ((IntKind.u64.wrap (s7)) * (IntKind.u64.wrap (s25.getD s27.toNat 0)))) + (IntKind.u64.wrap (b68.getD ((IntKind.i64.wrap (s6 + s27)).toNat) 0)))) + s8)).tmod 1000000000)))
  else none else none else none else none else none else none
  else
  some (.exit (s8, b68, ()))
def y56 : LSpec := { h := yp6, x := y57, r := a0, xid := 2, rt := false, pins := [68], f := fun k d => z8n k d.1 d.2.1 d.2.2.1 d.2.2.2.1 d.2.2.2.2.1 d.2.2.2.2.2.1 d.2.2.2.2.2.2.1 }
def z8m : Nat -> List Int -> List Int -> Int -> Int -> List Int -> Option (LR y55 a0)
 | 0, _, _, _, _, _ => none
 | m + 1, s1, s18, s19, s20, b68 =>
  if decide (s20 < s19) = true then if (0 : Int) <= s20 then if s20 < s18.length then
  match z8n m s20 (s18.getD s20.toNat 0) 0 s1 (s1.length : Int) 0 b68 with
  | none => none
  | some (.exit d1) =>
   if (0 : Int) <= IntKind.i64.wrap (s20 + (s1.length : Int)) then if IntKind.i64.wrap (s20 + (s1.length : Int)) < d1.2.1.length then
   z8m m s1 s18 s19 (IntKind.i64.wrap (s20 + 1)) (d1.2.1.set ((IntKind.i64.wrap (s20 + (s1.length : Int))).toNat) (IntKind.u32.wrap (d1.1)))
   else none else none
  | some (.ret d1) =>
   none
  else none else none
  else
  some (.exit (b68, ()))
def y54 : LSpec := { h := yp5, x := y55, r := a0, xid := 0, rt := false, pins := [68], f := fun k d => z8m k d.1 d.2.1 d.2.2.1 d.2.2.2.1 d.2.2.2.2.1 }
def z2z : Nat -> Nat -> List Int -> Option (LR z94 a0)
 | 0, _, _ => none
 | m + 1, s0, b68 =>
  if decide ((s0 : Int) > 0) = true then if (0 : Int) <= IntKind.i64.wrap ((s0 : Int) - 1) then if IntKind.i64.wrap ((s0 : Int) - 1) < s0 then if (b68.getD ((IntKind.i64.wrap ((s0 : Int) - 1)).toNat) 0 == 0) = true then if (0 : Int) <= IntKind.i64.wrap ((s0 : Int) - 1) then if IntKind.i64.wrap ((s0 : Int) - 1) <= s0 then
  z2z m ((IntKind.i64.wrap ((s0 : Int) - 1)).toNat) b68
  else none else none
  else
  some (.exit (s0, b68, ()))
  else none else none
  else
  some (.exit (s0, b68, ()))
def z93 : LSpec := { h := zu4, x := z94, r := a0, xid := 0, rt := false, pins := [68], f := fun k d => z2z k d.1 d.2.1 }
def w0f : z1t := [([72], [(3, y54), (7, y56)]), ([69, 72], [(1, z93)])]
def z4v (k : Nat) (a0 : List Int) (a1 : List Int) : Option (List Int) :=
 if (0 : Int) <= IntKind.i64.wrap ((a0.length : Int) + (a1.length : Int)) then if IntKind.i64.wrap ((a0.length : Int) + (a1.length : Int)) <= IntKind.i64.wrap ((a0.length : Int) + (a1.length : Int)) then if (IntKind.i64.wrap ((a0.length : Int) + (a1.length : Int))) * 4 <= 281474976710656 then
 match z8m k a1 a0 (a0.length : Int) 0 (List.replicate ((IntKind.i64.wrap ((a0.length : Int) + (a1.length : Int))).toNat) 0) with
 | none => none
 | some (.exit d1) =>
  match z2z k d1.1.length d1.1 with
  | none => none
  | some (.exit d2) =>
   some (d2.2.1.take d2.1)
  | some (.ret d2) =>
   none
 | some (.ret d1) =>
  none
 else none else none else none
def y9l (k : Nat) : Vm.Spec := { ps := [.slice (.int .u32), .slice (.int .u32)], rs := [.fresh (.int .u32)], f := fun x => z4v k x.1 x.2 }
noncomputable def zp6 : Vm.Spec := y9l fuel
theorem z8e : Vm.Spec.holds Tryz.prog 72 zp6 := z0u (E := w3c) (L := w0f) (fn := Tryz.f72) (Z := y9l) (z1f ok) (z0m (by exact trivial)) z0v (z7u (by exact ⟨by kernel_rfl, by kernel_rfl, trivial⟩)) (z3b (by exact ⟨(z25 [[72]] (by exact ⟨z0h (ls := [(1, z93)]) rfl rfl ⟨by kernel_rfl, fun _ => rfl, fun _ _ => by kernel_rfl, z0i (by kernel_rfl)⟩,  trivial⟩) rfl),  trivial⟩)) (by kernel_rfl) (by kernel_rfl) (z0h (ls := [(3, y54), (7, y56)]) rfl rfl ⟨by kernel_rfl, fun _ => rfl, fun _ _ => by kernel_rfl, by kernel_rfl, fun _ => rfl, fun _ _ => by kernel_rfl, z0i (by kernel_rfl)⟩) fun k x => by kernel_rfl
noncomputable def w3d : Env := { te := te, spec := [], body := [(69, Tryz.f69)] }
def yp7 : Ann := { slots := [(0, .one (.val (.slice (.int .u32)))), (1, .one (.val (.slice (.int .u32)))), (5, .one (.own 44 (.int .u32))), (6, .one (.val (.int .i64))), (13, .one (.val (.int .i64))), (14, .one (.val (.int .i64)))], objs := [(44, .buf (.int .u32))] }
def y59 : Ann := { slots := [(5, .one (.own 44 (.int .u32)))], objs := [(44, .buf (.int .u32))] }
def zu5 : Ann := { slots := [(0, .one (.pre 44 (.int .u32)))], objs := [(44, .buf (.int .u32))] }
def z96 : Ann := { slots := [(0, .one (.pre 44 (.int .u32)))], objs := [(44, .buf (.int .u32))] }
def z4f : Nat -> List Int -> List Int -> Int -> Int -> Int -> List Int -> Option (LR y59 a0)
 | 0, _, _, _, _, _, _ => none
 | m + 1, s0, s1, s6, s13, s14, b44 =>
  if decide (s14 < s13) = true then if (0 : Int) <= s14 then if s14 < s0.length then if decide (s14 < (s1.length : Int)) = true then if (0 : Int) <= s14 then if s14 < s1.length then if decide (IntKind.i64.wrap ((IntKind.i64.wrap ((IntKind.i64.wrap (s0.getD s14.toNat 0)) - s6)) - (IntKind.i64.wrap (s1.getD s14.toNat 0))) < 0) = true then if (0 : Int) <= s14 then if s14 < b44.length then
  z4f m s0 s1 1 s13 (IntKind.i64.wrap (s14 + 1)) (b44.set s14.toNat (IntKind.u32.wrap (IntKind.i64.wrap ((IntKind.i64.wrap ((IntKind.i64.wrap ((IntKind.i64.wrap (s0.getD s14.toNat 0)) - s6)) - (IntKind.i64.wrap (s1.getD s14.toNat 0)))) + 1000000000))))
  else none else none
  else
  if (0 : Int) <= s14 then if s14 < b44.length then
  z4f m s0 s1 0 s13 (IntKind.i64.wrap (s14 + 1)) (b44.set s14.toNat (IntKind.u32.wrap (IntKind.i64.wrap ((IntKind.i64.wrap ((IntKind.i64.wrap (s0.getD s14.toNat 0)) - s6)) - (IntKind.i64.wrap (s1.getD s14.toNat 0))))))
  else none else none else none else none
  else
  if decide (IntKind.i64.wrap ((IntKind.i64.wrap (s0.getD s14.toNat 0)) - s6) < 0) = true then if (0 : Int) <= s14 then if s14 < b44.length then
  z4f m s0 s1 1 s13 (IntKind.i64.wrap (s14 + 1)) (b44.set s14.toNat (IntKind.u32.wrap (IntKind.i64.wrap ((IntKind.i64.wrap ((IntKind.i64.wrap (s0.getD s14.toNat 0)) - s6)) + 1000000000))))
  else none else none
  else
  if (0 : Int) <= s14 then if s14 < b44.length then
  z4f m s0 s1 0 s13 (IntKind.i64.wrap (s14 + 1)) (b44.set s14.toNat (IntKind.u32.wrap (IntKind.i64.wrap ((IntKind.i64.wrap (s0.getD s14.toNat 0)) - s6))))
  else none else none else none else none
  else
  some (.exit (b44, ()))
def y58 : LSpec := { h := yp7, x := y59, r := a0, xid := 0, rt := false, pins := [44], f := fun k d => z4f k d.1 d.2.1 d.2.2.1 d.2.2.2.1 d.2.2.2.2.1 d.2.2.2.2.2.1 }
def z30 : Nat -> Nat -> List Int -> Option (LR z96 a0)
 | 0, _, _ => none
 | m + 1, s0, b44 =>
  if decide ((s0 : Int) > 0) = true then if (0 : Int) <= IntKind.i64.wrap ((s0 : Int) - 1) then if IntKind.i64.wrap ((s0 : Int) - 1) < s0 then if (b44.getD ((IntKind.i64.wrap ((s0 : Int) - 1)).toNat) 0 == 0) = true then if (0 : Int) <= IntKind.i64.wrap ((s0 : Int) - 1) then if IntKind.i64.wrap ((s0 : Int) - 1) <= s0 then
  z30 m ((IntKind.i64.wrap ((s0 : Int) - 1)).toNat) b44
  else none else none
  else
  some (.exit (s0, b44, ()))
  else none else none
  else
  some (.exit (s0, b44, ()))
def z95 : LSpec := { h := zu5, x := z96, r := a0, xid := 0, rt := false, pins := [44], f := fun k d => z30 k d.1 d.2.1 }
def w0g : z1t := [([76], [(4, y58)]), ([69, 76], [(1, z95)])]
def zq6 (k : Nat) (a0 : List Int) (a1 : List Int) : Option (List Int) :=
 if (0 : Int) <= (a0.length : Int) then if (a0.length : Int) <= (a0.length : Int) then if (a0.length : Int) * 4 <= 281474976710656 then
 match z4f k a0 a1 0 (a0.length : Int) 0 (List.replicate ((a0.length : Int).toNat) 0) with
 | none => none
 | some (.exit d1) =>
  match z30 k d1.1.length d1.1 with
  | none => none
  | some (.exit d2) =>
   some (d2.2.1.take d2.1)
  | some (.ret d2) =>
   none
 | some (.ret d1) =>
  none
 else none else none else none
def y9m (k : Nat) : Vm.Spec := { ps := [.slice (.int .u32), .slice (.int .u32)], rs := [.fresh (.int .u32)], f := fun x => zq6 k x.1 x.2 }
noncomputable def yf6 : Vm.Spec := y9m fuel
theorem y8p : Vm.Spec.holds Tryz.prog 76 yf6 := z0u (E := w3d) (L := w0g) (fn := Tryz.f76) (Z := y9m) (z1f ok) (z0m (by exact trivial)) z0v (z7u (by exact ⟨by kernel_rfl, by kernel_rfl, trivial⟩)) (z3b (by exact ⟨(z25 [[76]] (by exact ⟨z0h (ls := [(1, z95)]) rfl rfl ⟨by kernel_rfl, fun _ => rfl, fun _ _ => by kernel_rfl, z0i (by kernel_rfl)⟩,  trivial⟩) rfl),  trivial⟩)) (by kernel_rfl) (by kernel_rfl) (z0h (ls := [(4, y58)]) rfl rfl ⟨by kernel_rfl, fun _ => rfl, fun _ _ => by kernel_rfl, z0i (by kernel_rfl)⟩) fun k x => by kernel_rfl
noncomputable def w07 : Env := { te := te, spec := [], body := [] }
def yj7 : Ann := { slots := [(0, .one (.val (.slice (.int .u32))))], objs := [] }
def y38 : Ann := { slots := [(0, .one (.val (.slice (.int .u32))))], objs := [] }
def z7f : Nat -> List Int -> Option (LR y38 a0)
 | 0, _ => none
 | m + 1, s0 =>
  if decide ((s0.length : Int) > 0) = true then if (0 : Int) <= IntKind.i64.wrap ((s0.length : Int) - 1) then if IntKind.i64.wrap ((s0.length : Int) - 1) < s0.length then if (s0.getD ((IntKind.i64.wrap ((s0.length : Int) - 1)).toNat) 0 == 0) = true then if (0 : Int) <= IntKind.i64.wrap ((s0.length : Int) - 1) then if IntKind.i64.wrap ((s0.length : Int) - 1) <= s0.length then
  z7f m ((s0.take (IntKind.i64.wrap ((s0.length : Int) - 1)).toNat).drop 0)
  else none else none
  else
  some (.exit (s0, ()))
  else none else none
  else
  some (.exit (s0, ()))
def y37 : LSpec := { h := yj7, x := y38, r := a0, xid := 0, rt := false, pins := [], f := fun k d => z7f k d.1 }
def yv4 : z1t := [([69], [(1, y37)])]
def z7y (k : Nat) (a0 : List Int) : Option (List Int) :=
 match z7f k a0 with
 | none => none
 | some (.exit d1) =>
  some d1.1
 | some (.ret d1) =>
  none
def y6s (k : Nat) : Vm.Spec := { ps := [.slice (.int .u32)], rs := [.imm (.slice (.int .u32))], f := fun x => z7y k x }
noncomputable def y2a : Vm.Spec := y6s fuel
theorem zv4 : Vm.Spec.holds Tryz.prog 69 y2a := z0u (E := w07) (L := yv4) (fn := Tryz.f69) (Z := y6s) (z1f ok) (z0m (by exact trivial)) z0v (z07 rfl) (z01 rfl) (by kernel_rfl) (by kernel_rfl) (z0h (ls := [(1, y37)]) rfl rfl ⟨by kernel_rfl, fun _ => rfl, fun _ _ => by kernel_rfl, z0i (by kernel_rfl)⟩) fun k x => by kernel_rfl
noncomputable def yu6 : Env := { te := te, spec := [(69, y2a)], body := [] }
def yc9 : Ann := { slots := [(0, .one (.val (.slice (.int .u32)))), (1, .one (.val (.int .u32))), (6, .one (.own 44 (.int .u32))), (7, .one (.val (.int .u64))), (8, .one (.val (.int .i64)))], objs := [(44, .buf (.int .u32))] }
def y1r : Ann := { slots := [(6, .one (.own 44 (.int .u32))), (7, .one (.val (.int .u64)))], objs := [(44, .buf (.int .u32))] }
def z5r : Nat -> List Int -> Int -> Int -> Int -> List Int -> Option (LR y1r a0)
 | 0, _, _, _, _, _ => none
 | m + 1, s0, s1, s7, s8, b44 =>
  if decide (s8 >= 0) = true then if (0 : Int) <= s8 then if s8 < s0.length then if IntKind.u64.wrap (s1) = 0 then
  none
  else
  if (0 : Int) <= s8 then if s8 < b44.length then if IntKind.u64.wrap (s1) = 0 then
  none
  else
  z5r m s0 s1 ((IntKind.u64.wrap ((IntKind.u64.wrap (s7 * 1000000000)) + (IntKind.u64.wrap (s0.getD s8.toNat 0)))).tmod (IntKind.u64.wrap (s1))) (IntKind.i64.wrap (s8 - 1)) (b44.set s8.toNat (IntKind.u32.wrap (IntKind.u64.wrap ((IntKind.u64.wrap ((IntKind.u64.wrap (s7 * 1000000000)) + (IntKind.u64.wrap (s0.getD s8.toNat 0)))).tdiv (IntKind.u64.wrap (s1))))))
  else none else none else none else none
  else
  some (.exit (s7, b44, ()))
def y1q : LSpec := { h := yc9, x := y1r, r := a0, xid := 0, rt := false, pins := [44], f := fun k d => z5r k d.1 d.2.1 d.2.2.1 d.2.2.2.1 d.2.2.2.2.1 }
def yo0 : z1t := [([94], [(4, y1q)])]
def ze0 (k : Nat) (a0 : List Int) (a1 : Int) : Option ((List Int) × (List Int)) :=
 if (0 : Int) <= (a0.length : Int) then if (a0.length : Int) <= (a0.length : Int) then if (a0.length : Int) * 4 <= 281474976710656 then
 match z5r k a0 a1 0 (IntKind.i64.wrap ((a0.length : Int) - 1)) (List.replicate ((a0.length : Int).toNat) 0) with
 | none => none
 | some (.exit d1) =>
  (z7y fuel d1.2.1).bind fun r2 =>
  (z7y fuel [IntKind.u32.wrap (d1.1)]).bind fun r3 =>
  some (r2, r3)
 | some (.ret d1) =>
  none
 else none else none else none
def y4j (k : Nat) : Vm.Spec := { ps := [.slice (.int .u32), .int .u32], rs := [.imm (.slice (.int .u32)), .imm (.slice (.int .u32))], f := fun x => ze0 k x.1 x.2 }
noncomputable def y6l : Vm.Spec := y4j fuel
theorem y5t : Vm.Spec.holds Tryz.prog 94 y6l := z0u (E := yu6) (L := yo0) (fn := Tryz.f94) (Z := y4j) (z1f ok) (z0m (by exact ⟨⟨by kernel_rfl, zv4⟩, trivial⟩)) z0v (z07 rfl) (z01 rfl) (by kernel_rfl) (by kernel_rfl) (z0h (ls := [(4, y1q)]) rfl rfl ⟨by kernel_rfl, fun _ => rfl, fun _ _ => by kernel_rfl, z0i (by kernel_rfl)⟩) fun k x => by kernel_rfl
noncomputable def w3a : Env := { te := te, spec := [(38, zp5), (69, y2a), (72, zp6), (94, y6l)], body := [(95, Tryz.f95), (96, Tryz.f96)] }
def yp3 : Ann := { slots := [(0, .one (.val (.slice (.int .u32)))), (7, .one (.own 188 (.int .u32)))], objs := [(188, .buf (.int .u32))] }
def y51 : Ann := { slots := [(7, .one (.own 188 (.int .u32)))], objs := [(188, .buf (.int .u32))] }
def yj5 : Ann := { slots := [(7, .one (.own 188 (.int .u32))), (8, .one (.own 204 (.int .u32))), (9, .one (.val (.int .i64))), (11, .one (.val (.int .i64))), (13, .one (.val (.int .u64))), (14, .one (.val (.int .u64)))], objs := [(188, .buf (.int .u32)), (204, .buf (.int .u32))] }
def zs1 : Ann := { slots := [(7, .one (.own 188 (.int .u32))), (8, .one (.own 204 (.int .u32))), (13, .one (.val (.int .u64)))], objs := [(188, .buf (.int .u32)), (204, .buf (.int .u32))] }
def zs0 : Ann := { slots := [], objs := [] }
def zs2 : Ann := { slots := [(0, .one (.own 188 (.int .u32))), (1, .one (.own 204 (.int .u32))), (2, .one (.val (.int .i64))), (3, .one (.val (.int .u64))), (9, .one (.val (.int .i64))), (10, .one (.val (.int .u64))), (11, .one (.val (.int .i64)))], objs := [(188, .buf (.int .u32)), (204, .buf (.int .u32))] }
def z85 : Ann := { slots := [(9, .one (.val (.int .i64)))], objs := [(188, .buf (.int .u32)), (204, .buf (.int .u32))] }
def zu3 : Ann := { slots := [(0, .one (.own 188 (.int .u32))), (1, .one (.own 204 (.int .u32))), (2, .one (.val (.int .i64))), (6, .one (.val (.int .u32))), (7, .one (.val (.int .i64)))], objs := [(188, .buf (.int .u32)), (204, .buf (.int .u32))] }
def z92 : Ann := { slots := [], objs := [(188, .buf (.int .u32)), (204, .buf (.int .u32))] }
def yq1 : List (Nat × OSh) := [(188, .buf (.int .u32)), (204, .buf (.int .u32)), (264, .buf (.int .u32))]
def yj4 : Ann := { slots := [(7, .one (.own 188 (.int .u32))), (8, .one (.own 204 (.int .u32))), (9, .one (.val (.int .i64))), (10, .one (.own 264 (.int .u32))), (11, .one (.val (.int .i64)))], objs := yq1 }
def yq2 : List (Nat × OSh) := [(188, .buf (.int .u32)), (264, .buf (.int .u32)), (204, .buf (.int .u32))]
def y33 : Ann := { slots := [(7, .one (.own 188 (.int .u32))), (10, .one (.own 264 (.int .u32)))], objs := yq2 }
def zf3 : Nat -> List Int -> List Int -> Option (LR y51 a0)
 | 0, _, _ => none
 | m + 1, s0, b188 =>
  if decide ((b188.length : Int) <= (s0.length : Int)) = true then if (b188.length + 1) * 4 <= 140737488355328 then
  zf3 m s0 (b188 ++ [0])
  else none
  else
  some (.exit (b188, ()))
def y50 : LSpec := { h := yp3, x := y51, r := a0, xid := 0, rt := false, pins := [], f := fun k d => zf3 k d.1 d.2.1 }
def z6b : Nat -> Int -> Int -> Int -> Int -> List Int -> List Int -> Option (LR zs1 zs0)
 | 0, _, _, _, _, _, _ => none
 | m + 1, s9, s11, s13, s14, b188, b204 =>
  if decide (s13 >= 1000000000) = false then if (0 : Int) <= IntKind.i64.wrap (s9 - 2) then if IntKind.i64.wrap (s9 - 2) < b204.length then if (0 : Int) <= IntKind.i64.wrap ((IntKind.i64.wrap (s11 + s9)) - 2) then if IntKind.i64.wrap ((IntKind.i64.wrap (s11 + s9)) - 2) < b188.length then if decide (IntKind.u64.wrap (s13 * (IntKind.u64.wrap (b204.getD ((IntKind.i64.wrap (s9 - 2)).toNat) 0))) > IntKind.u64.wrap ((IntKind.u64.wrap (s14 * 1000000000)) + (IntKind.u64.wrap (b188.getD ((IntKind.i64.wrap ((IntKind.i64.wrap (s11 + s9)) - 2)).toNat) 0)))) = true then if (0 : Int) <= IntKind.i64.wrap (s9 - 1) then if IntKind.i64.wrap (s9 - 1) < b204.length then if decide (IntKind.u64.wrap (s14 + (IntKind.u64.wrap (b204.getD ((IntKind.i64.wrap (s9 - 1)).toNat) 0))) >= 1000000000) = true then
  some (.exit (IntKind.u64.wrap (s13 - 1), b188, b204, ()))
  else
  z6b m s9 s11 (IntKind.u64.wrap (s13 - 1)) (IntKind.u64.wrap (s14 + (IntKind.u64.wrap (b204.getD ((IntKind.i64.wrap (s9 - 1)).toNat) 0)))) b188 b204
  else none else none
  else
  some (.exit (s13, b188, b204, ()))
  else none else none else none else none
  else
  if (0 : Int) <= IntKind.i64.wrap (s9 - 1) then if IntKind.i64.wrap (s9 - 1) < b204.length then if decide (IntKind.u64.wrap (s14 + (IntKind.u64.wrap (b204.getD ((IntKind.i64.wrap (s9 - 1)).toNat) 0))) >= 1000000000) = true then
  some (.exit (IntKind.u64.wrap (s13 - 1), b188, b204, ()))
  else
  z6b m s9 s11 (IntKind.u64.wrap (s13 - 1)) (IntKind.u64.wrap (s14 + (IntKind.u64.wrap (b204.getD ((IntKind.i64.wrap (s9 - 1)).toNat) 0)))) b188 b204
  else none else none
def y34 : LSpec := { h := yj5, x := zs1, r := zs0, xid := 4, rt := false, pins := [188, 204], f := fun k d => z6b k d.1 d.2.1 d.2.2.1 d.2.2.2.1 d.2.2.2.2.1 d.2.2.2.2.2.1 }
def z13 : Nat -> Int -> Int -> Int -> Int -> Int -> List Int -> List Int -> Option (LR z85 a0)
 | 0, _, _, _, _, _, _, _ => none
 | m + 1, s2, s3, s9, s10, s11, b188, b204 =>
  if decide (s11 <= (b204.length : Int)) = true then if decide (s11 < (b204.length : Int)) = true then if (0 : Int) <= s11 then if s11 < b204.length then if (0 : Int) <= IntKind.i64.wrap (s2 + s11) then if IntKind.i64.wrap (s2 + s11) < b188.length then if decide (IntKind.i64.wrap ((IntKind.i64.wrap ((IntKind.i64.wrap (b188.getD ((IntKind.i64.wrap (s2 + s11)).toNat) 0)) - (IntKind.i64.wrap ((IntKind.u64.wrap (s10 + (IntKind.u64.wrap (s3 * (IntKind.u64.wrap (b204.getD s11.toNat 0)))))).tmod 1000000000)))) - s9) < 0) = true then if (0 : Int) <= IntKind.i64.wrap (s2 + s11) then if IntKind.i64.wrap (s2 + s11) < b188.length then
  z13 m s2 s3 1 (IntKind.u64.wrap ((IntKind.u64.wrap (s10 + (IntKind.u64.wrap (s3 * (IntKind.u64.wrap (b204.getD s11.toNat 0)))))).tdiv 1000000000)) (IntKind.i64.wrap (s11 + 1)) (b188.set ((IntKind.i64.wrap (s2 + s11)).toNat) (IntKind.u32.wrap (IntKind.i64.wrap ((IntKind.i64.wrap ((IntKind.i64.wrap ((IntKind.i64.wrap (b188.getD ((IntKind.i64.wrap (s2 + s11)).toNat) 0)) - (IntKind.i64.wrap ((IntKind.u64.wrap (s10 + (IntKind.u64.wrap (s3 * (IntKind.u64.wrap (b204.getD s11.toNat 0)))))).tmod 1000000000)))) - s9)) + 1000000000)))) b204
  else none else none
  else
  if (0 : Int) <= IntKind.i64.wrap (s2 + s11) then if IntKind.i64.wrap (s2 + s11) < b188.length then
  z13 m s2 s3 0 (IntKind.u64.wrap ((IntKind.u64.wrap (s10 + (IntKind.u64.wrap (s3 * (IntKind.u64.wrap (b204.getD s11.toNat 0)))))).tdiv 1000000000)) (IntKind.i64.wrap (s11 + 1)) (b188.set ((IntKind.i64.wrap (s2 + s11)).toNat) (IntKind.u32.wrap (IntKind.i64.wrap ((IntKind.i64.wrap ((IntKind.i64.wrap (b188.getD ((IntKind.i64.wrap (s2 + s11)).toNat) 0)) - (IntKind.i64.wrap ((IntKind.u64.wrap (s10 + (IntKind.u64.wrap (s3 * (IntKind.u64.wrap (b204.getD s11.toNat 0)))))).tmod 1000000000)))) - s9)))) b204
  else none else none else none else none else none else none
  else
  if (0 : Int) <= IntKind.i64.wrap (s2 + s11) then if IntKind.i64.wrap (s2 + s11) < b188.length then if decide (IntKind.i64.wrap ((IntKind.i64.wrap ((IntKind.i64.wrap (b188.getD ((IntKind.i64.wrap (s2 + s11)).toNat) 0)) - (IntKind.i64.wrap (s10.tmod 1000000000)))) - s9) < 0) = true then if (0 : Int) <= IntKind.i64.wrap (s2 + s11) then if IntKind.i64.wrap (s2 + s11) < b188.length then
  z13 m s2 s3 1 (IntKind.u64.wrap (s10.tdiv 1000000000)) (IntKind.i64.wrap (s11 + 1)) (b188.set ((IntKind.i64.wrap (s2 + s11)).toNat) (IntKind.u32.wrap (IntKind.i64.wrap ((IntKind.i64.wrap ((IntKind.i64.wrap ((IntKind.i64.wrap (b188.getD ((IntKind.i64.wrap (s2 + s11)).toNat) 0)) - (IntKind.i64.wrap (s10.tmod 1000000000)))) - s9)) + 1000000000)))) b204
  else none else none
  else
  if (0 : Int) <= IntKind.i64.wrap (s2 + s11) then if IntKind.i64.wrap (s2 + s11) < b188.length then
  z13 m s2 s3 0 (IntKind.u64.wrap (s10.tdiv 1000000000)) (IntKind.i64.wrap (s11 + 1)) (b188.set ((IntKind.i64.wrap (s2 + s11)).toNat) (IntKind.u32.wrap (IntKind.i64.wrap ((IntKind.i64.wrap ((IntKind.i64.wrap (b188.getD ((IntKind.i64.wrap (s2 + s11)).toNat) 0)) - (IntKind.i64.wrap (s10.tmod 1000000000)))) - s9)))) b204
  else none else none else none else none
  else
  some (.exit (s9, b188, b204, ()))
def z84 : LSpec := { h := zs2, x := z85, r := a0, xid := 0, rt := false, pins := [188, 204], f := fun k d => z13 k d.1 d.2.1 d.2.2.1 d.2.2.2.1 d.2.2.2.2.1 d.2.2.2.2.2.1 d.2.2.2.2.2.2.1 }
def z1u : Nat -> Int -> Int -> Int -> List Int -> List Int -> Option (LR z92 a0)
 | 0, _, _, _, _, _ => none
 | m + 1, s2, s6, s7, b188, b204 =>
  if decide (s7 <= (b204.length : Int)) = true then if (0 : Int) <= IntKind.i64.wrap (s2 + s7) then if IntKind.i64.wrap (s2 + s7) < b188.length then if decide (s7 < (b204.length : Int)) = true then if (0 : Int) <= s7 then if s7 < b204.length then if (0 : Int) <= IntKind.i64.wrap (s2 + s7) then if IntKind.i64.wrap (s2 + s7) < b188.length then
  z1u m s2 (IntKind.u32.wrap ((IntKind.u32.wrap ((IntKind.u32.wrap ((b188.getD ((IntKind.i64.wrap (s2 + s7)).toNat) 0) + s6)) + (b204.getD s7.toNat 0))).tdiv 1000000000)) (IntKind.i64.wrap (s7 + 1)) (b188.set ((IntKind.i64.wrap (s2 + s7)).toNat) ((IntKind.u32.wrap ((IntKind.u32.wrap ((b188.getD ((IntKind.i64.wrap (s2 + s7)).toNat) 0) + s6)) + (b204.getD s7.toNat 0))).tmod 1000000000)) b204
  else none else none else none else none
  else
  if (0 : Int) <= IntKind.i64.wrap (s2 + s7) then if IntKind.i64.wrap (s2 + s7) < b188.length then
  z1u m s2 (IntKind.u32.wrap ((IntKind.u32.wrap ((b188.getD ((IntKind.i64.wrap (s2 + s7)).toNat) 0) + s6)).tdiv 1000000000)) (IntKind.i64.wrap (s7 + 1)) (b188.set ((IntKind.i64.wrap (s2 + s7)).toNat) ((IntKind.u32.wrap ((b188.getD ((IntKind.i64.wrap (s2 + s7)).toNat) 0) + s6)).tmod 1000000000)) b204
  else none else none else none else none
  else
  some (.exit (b188, b204, ()))
def z91 : LSpec := { h := zu3, x := z92, r := a0, xid := 0, rt := false, pins := [188, 204], f := fun k d => z1u k d.1 d.2.1 d.2.2.1 d.2.2.2.1 d.2.2.2.2.1 }
def z5f : Nat -> Int -> Int -> List Int -> List Int -> List Int -> Option (LR y33 a0)
 | 0, _, _, _, _, _ => none
 | m + 1, s9, s11, b188, b204, b264 =>
  if decide (s11 >= 0) = true then if (0 : Int) <= IntKind.i64.wrap (s11 + s9) then if IntKind.i64.wrap (s11 + s9) < b188.length then if (0 : Int) <= IntKind.i64.wrap ((IntKind.i64.wrap (s11 + s9)) - 1) then if IntKind.i64.wrap ((IntKind.i64.wrap (s11 + s9)) - 1) < b188.length then if (0 : Int) <= IntKind.i64.wrap (s9 - 1) then if IntKind.i64.wrap (s9 - 1) < b204.length then if IntKind.u64.wrap (b204.getD ((IntKind.i64.wrap (s9 - 1)).toNat) 0) = 0 then
  none
  else
  if (0 : Int) <= IntKind.i64.wrap (s9 - 1) then if IntKind.i64.wrap (s9 - 1) < b204.length then if IntKind.u64.wrap (b204.getD ((IntKind.i64.wrap (s9 - 1)).toNat) 0) = 0 then
  none
  else
  match z6b m s9 s11 (IntKind.u64.wrap ((IntKind.u64.wrap ((IntKind.u64.wrap ((IntKind.u64.wrap (b188.getD ((IntKind.i64.wrap (s11 + s9)).toNat) 0)) * 1000000000)) + (IntKind.u64.wrap (b188.getD ((IntKind.i64.wrap ((IntKind.i64.wrap (s11 + s9)) - 1)).toNat) 0)))).tdiv (IntKind.u64.wrap (b204.getD ((IntKind.i64.wrap (s9 - 1)).toNat) 0)))) ((IntKind.u64.wrap ((IntKind.u64.wrap ((IntKind.u64.wrap (b188.getD ((IntKind.i64.wrap (s11 + s9)).toNat) 0)) * 1000000000)) + (IntKind.u64.wrap (b188.getD ((IntKind.i64.wrap ((IntKind.i64.wrap (s11 + s9)) - 1)).toNat) 0)))).tmod (IntKind.u64.wrap (b204.getD ((IntKind.i64.wrap (s9 - 1)).toNat) 0))) b188 b204 with
  | none => none
  | some (.exit d1) =>
   match z13 m s11 d1.1 0 0 0 d1.2.1 d1.2.2.1 with
   | none => none
   | some (.exit d2) =>
    if decide (d2.1 > 0) = true then
    match z1u m s11 0 0 d2.2.1 d2.2.2.1 with
    | none => none
    | some (.exit d3) =>
     if (0 : Int) <= s11 then if s11 < b264.length then
     z5f m s9 (IntKind.i64.wrap (s11 - 1)) d3.1 d3.2.1 (b264.set s11.toNat (IntKind.u32.wrap (IntKind.u64.wrap (d1.1 - 1))))
     else none else none
    | some (.ret d3) =>
     none
    else
    if (0 : Int) <= s11 then if s11 < b264.length then
    z5f m s9 (IntKind.i64.wrap (s11 - 1)) d2.2.1 d2.2.2.1 (b264.set s11.toNat (IntKind.u32.wrap (d1.1)))
    else none else none
   | some (.ret d2) =>
    none
  | some (.ret d1) =>
   none
  else none else none else none else none else none else none else none else none
  else
  some (.exit (b188, b264, b204, ()))
def y32 : LSpec := { h := yj4, x := y33, r := a0, xid := 2, rt := false, pins := [188, 204, 264], f := fun k d => z5f k d.1 d.2.1 d.2.2.1 d.2.2.2.1 d.2.2.2.2.1 }
def w0d : z1t := [([70], [(7, y50), (12, y32), (16, y34)]), ([95, 70], [(4, z84)]), ([96, 70], [(2, z91)])]
def zh0 (k : Nat) (a0 : List Int) (a1 : List Int) : Option ((List Int) × (List Int)) :=
 (z4u fuel a0 a1).bind fun r1 =>
 if decide (r1 < 0) = true then
 some ([], a0)
 else
 if ((a1.length : Int) == 1) = true then if (0 : Int) < a1.length then
 (ze0 fuel a0 (a1.getD 0 0)).bind fun r2 =>
 some (r2.1, r2.2)
 else none
 else
 if (0 : Int) <= IntKind.i64.wrap ((a1.length : Int) - 1) then if IntKind.i64.wrap ((a1.length : Int) - 1) < a1.length then if IntKind.u64.wrap ((IntKind.u64.wrap (a1.getD ((IntKind.i64.wrap ((a1.length : Int) - 1)).toNat) 0)) + 1) = 0 then
 none
 else
 (z4v fuel a0 [IntKind.u32.wrap (IntKind.u64.wrap ((1000000000 : Int).tdiv (IntKind.u64.wrap ((IntKind.u64.wrap (a1.getD ((IntKind.i64.wrap ((a1.length : Int) - 1)).toNat) 0)) + 1))))]).bind fun r3 =>
 if (r3.length + 1) * 4 <= 140737488355328 then
 (z4v fuel a1 [IntKind.u32.wrap (IntKind.u64.wrap ((1000000000 : Int).tdiv (IntKind.u64.wrap ((IntKind.u64.wrap (a1.getD ((IntKind.i64.wrap ((a1.length : Int) - 1)).toNat) 0)) + 1))))]).bind fun r4 =>
 match zf3 k a0 (r3 ++ [0]) with
 | none => none
 | some (.exit d5) =>
  if (0 : Int) <= IntKind.i64.wrap ((d5.1.length : Int) - (r4.length : Int)) then if IntKind.i64.wrap ((d5.1.length : Int) - (r4.length : Int)) <= IntKind.i64.wrap ((d5.1.length : Int) - (r4.length : Int)) then if (IntKind.i64.wrap ((d5.1.length : Int) - (r4.length : Int))) * 4 <= 281474976710656 then
  match z5f k (r4.length : Int) (IntKind.i64.wrap ((IntKind.i64.wrap ((d5.1.length : Int) - (r4.length : Int))) - 1)) d5.1 r4 (List.replicate ((IntKind.i64.wrap ((d5.1.length : Int) - (r4.length : Int))).toNat) 0) with
  | none => none
  | some (.exit d6) =>
   (z7y fuel d6.1).bind fun r7 =>
   (ze0 fuel r7 (IntKind.u32.wrap (IntKind.u64.wrap ((1000000000 : Int).tdiv (IntKind.u64.wrap ((IntKind.u64.wrap (a1.getD ((IntKind.i64.wrap ((a1.length : Int) - 1)).toNat) 0)) + 1)))))).bind fun r8 =>
   (z7y fuel d6.2.1).bind fun r9 =>
   some (r9, r8.1)
  | some (.ret d6) =>
   none
  else none else none else none
 | some (.ret d5) =>
  none
 else none else none else none
def y9j (k : Nat) : Vm.Spec := { ps := [.slice (.int .u32), .slice (.int .u32)], rs := [.imm (.slice (.int .u32)), .imm (.slice (.int .u32))], f := fun x => zh0 k x.1 x.2 }
noncomputable def y5l : Vm.Spec := y9j fuel
theorem zz8 : Vm.Spec.holds Tryz.prog 70 y5l := z0u (E := w3a) (L := w0d) (fn := Tryz.f70) (Z := y9j) (z1f ok) (z0m (by exact ⟨⟨by kernel_rfl, z8d⟩, ⟨by kernel_rfl, zv4⟩, ⟨by kernel_rfl, z8e⟩, ⟨by kernel_rfl, y5t⟩, trivial⟩)) z0v (z7u (by exact ⟨by kernel_rfl, by kernel_rfl, by kernel_rfl, by kernel_rfl, trivial⟩)) (z3b (by exact ⟨(z25 [[70]] (by exact ⟨z0h (ls := [(4, z84)]) rfl rfl ⟨by kernel_rfl, fun _ => rfl, fun _ _ => by kernel_rfl, z0i (by kernel_rfl)⟩,  trivial⟩) rfl), (z25 [[70]] (by exact ⟨z0h (ls := [(2, z91)]) rfl rfl ⟨by kernel_rfl, fun _ => rfl, fun _ _ => by kernel_rfl, z0i (by kernel_rfl)⟩,  trivial⟩) rfl),  trivial⟩)) (by kernel_rfl) (by kernel_rfl) (z0h (ls := [(7, y50), (12, y32), (16, y34)]) rfl rfl ⟨by kernel_rfl, fun _ => rfl, fun _ _ => by kernel_rfl, by kernel_rfl, fun _ => rfl, fun _ _ => by kernel_rfl, by kernel_rfl, fun _ => rfl, fun _ _ => by kernel_rfl, z0i (by kernel_rfl)⟩) fun k x => by kernel_rfl
noncomputable def w3b : Env := { te := te, spec := [(70, y5l)], body := [] }
def yp4 : Ann := { slots := [(0, .one (.val (.slice (.int .u32)))), (1, .one (.val (.slice (.int .u32))))], objs := [] }
def y53 : Ann := { slots := [(0, .one (.val (.slice (.int .u32))))], objs := [] }
def z8l : Nat -> List Int -> List Int -> Option (LR y53 a0)
 | 0, _, _ => none
 | m + 1, s0, s1 =>
  if decide ((s1.length : Int) > 0) = true then
  (zh0 fuel s0 s1).bind fun r1 =>
  z8l m s1 r1.2
  else
  some (.exit (s0, ()))
def y52 : LSpec := { h := yp4, x := y53, r := a0, xid := 0, rt := false, pins := [], f := fun k d => z8l k d.1 d.2.1 }
def w0e : z1t := [([37], [(1, y52)])]
def z6t (k : Nat) (a0 : List Int) (a1 : List Int) : Option (List Int) :=
 match z8l k a0 a1 with
 | none => none
 | some (.exit d1) =>
  some d1.1
 | some (.ret d1) =>
  none
def y9k (k : Nat) : Vm.Spec := { ps := [.slice (.int .u32), .slice (.int .u32)], rs := [.imm (.slice (.int .u32))], f := fun x => z6t k x.1 x.2 }
noncomputable def y5m : Vm.Spec := y9k fuel
theorem zz9 : Vm.Spec.holds Tryz.prog 37 y5m := z0u (E := w3b) (L := w0e) (fn := Tryz.f37) (Z := y9k) (z1f ok) (z0m (by exact ⟨⟨by kernel_rfl, zz8⟩, trivial⟩)) z0v (z07 rfl) (z01 rfl) (by kernel_rfl) (by kernel_rfl) (z0h (ls := [(1, y52)]) rfl rfl ⟨by kernel_rfl, fun _ => rfl, fun _ _ => by kernel_rfl, z0i (by kernel_rfl)⟩) fun k x => by kernel_rfl
noncomputable def wl5 : Env := { te := te, spec := [], body := [] }
def w4l : Ann := { slots := [(0, .one (.val (.int .i64))), (3, .one (.own 44 (.int .u32)))], objs := [(44, .buf (.int .u32))] }
def yj9 : Ann := { slots := [(3, .one (.own 44 (.int .u32)))], objs := [(44, .buf (.int .u32))] }
def zo9 : Nat -> Int -> List Int -> Option (LR yj9 a0)
 | 0, _, _ => none
 | m + 1, s0, b44 =>
  if decide (s0 > 0) = true then if (b44.length + 1) * 4 <= 140737488355328 then
  zo9 m (IntKind.i64.wrap (s0.tdiv 1000000000)) (b44 ++ [IntKind.u32.wrap (s0.tmod 1000000000)])
  else none
  else
  some (.exit (b44, ()))
def yj8 : LSpec := { h := w4l, x := yj9, r := a0, xid := 0, rt := false, pins := [], f := fun k d => zo9 k d.1 d.2.1 }
def w9f : z1t := [([39], [(2, yj8)])]
def z6g (k : Nat) (a0 : Int) : Option (List Int) :=
 match zo9 k a0 [] with
 | none => none
 | some (.exit d1) =>
  some d1.1
 | some (.ret d1) =>
  none
def w0t (k : Nat) : Vm.Spec := { ps := [.int .i64], rs := [.fresh (.int .u32)], f := fun x => z6g k x }
noncomputable def y3o : Vm.Spec := w0t fuel
theorem z9m : Vm.Spec.holds Tryz.prog 39 y3o := z0u (E := wl5) (L := w9f) (fn := Tryz.f39) (Z := w0t) (z1f ok) (z0m (by exact trivial)) z0v (z07 rfl) (z01 rfl) (by kernel_rfl) (by kernel_rfl) (z0h (ls := [(2, yj8)]) rfl rfl ⟨by kernel_rfl, fun _ => rfl, fun _ _ => by kernel_rfl, z0i (by kernel_rfl)⟩) fun k x => by kernel_rfl
noncomputable def w3e : Env := { te := te, spec := [(33, z9z), (34, y0w), (35, yf4), (36, y8e), (37, y5m), (38, zp5), (39, y3o)], body := [] }
def w0h : z1t := []
def z7z (k : Nat) (a0 : ByteArray) : Option (Int) :=
 (z2o fuel a0 (⟨#[45]⟩ : ByteArray)).bind fun r1 =>
 (z5y fuel r1.1 (⟨#[47]⟩ : ByteArray)).bind fun r2 =>
 (z6s fuel r2.1).bind fun r3 =>
 if r2.2.2 = true then
 (z6s fuel r2.2.1).bind fun r4 =>
 if (r3 == 5) = false then if (r4 == 5) = false then if r1.2 = true then if ((r2.1.toList == (⟨#[48]⟩ : ByteArray).toList)) = true then
 some 5
 else
 if (r3 != 0) = false then if (r4 != 0) = true then
 some 2
 else
 if r2.2.2 = true then if ((r2.2.1.toList == (⟨#[48]⟩ : ByteArray).toList)) = false then if ((r2.2.1.toList == (⟨#[49]⟩ : ByteArray).toList)) = false then
 (z3w fuel r2.1).bind fun r5 =>
 (z3w fuel r2.2.1).bind fun r6 =>
 (z6t fuel r5 r6).bind fun r7 =>
 (z6g fuel 1).bind fun r8 =>
 (z4u fuel r7 r8).bind fun r9 =>
 if (r9 != 0) = true then
 some 3
 else
 some 0
 else
 some 3
 else
 some 3
 else
 some 0
 else
 some 2
 else
 if (r3 != 0) = false then if (r4 != 0) = true then
 some 2
 else
 if r2.2.2 = true then if ((r2.2.1.toList == (⟨#[48]⟩ : ByteArray).toList)) = false then if ((r2.2.1.toList == (⟨#[49]⟩ : ByteArray).toList)) = false then
 (z3w fuel r2.1).bind fun r10 =>
 (z3w fuel r2.2.1).bind fun r11 =>
 (z6t fuel r10 r11).bind fun r12 =>
 (z6g fuel 1).bind fun r13 =>
 (z4u fuel r12 r13).bind fun r14 =>
 if (r14 != 0) = true then
 some 3
 else
 some 0
 else
 some 3
 else
 some 3
 else
 some 0
 else
 some 2
 else
 some 5
 else
 some 5
 else
 if (r3 == 5) = false then if r1.2 = true then if ((r2.1.toList == (⟨#[48]⟩ : ByteArray).toList)) = true then
 some 5
 else
 if (r3 != 0) = false then if r2.2.2 = true then if ((r2.2.1.toList == (⟨#[48]⟩ : ByteArray).toList)) = false then if ((r2.2.1.toList == (⟨#[49]⟩ : ByteArray).toList)) = false then
 (z3w fuel r2.1).bind fun r15 =>
 (z3w fuel r2.2.1).bind fun r16 =>
 (z6t fuel r15 r16).bind fun r17 =>
 (z6g fuel 1).bind fun r18 =>
 (z4u fuel r17 r18).bind fun r19 =>
 if (r19 != 0) = true then
 some 3
 else
 some 0
 else
 some 3
 else
 some 3
 else
 some 0
 else
 some 2
 else
 if (r3 != 0) = false then if r2.2.2 = true then if ((r2.2.1.toList == (⟨#[48]⟩ : ByteArray).toList)) = false then if ((r2.2.1.toList == (⟨#[49]⟩ : ByteArray).toList)) = false then
 (z3w fuel r2.1).bind fun r20 =>
 (z3w fuel r2.2.1).bind fun r21 =>
 (z6t fuel r20 r21).bind fun r22 =>
 (z6g fuel 1).bind fun r23 =>
 (z4u fuel r22 r23).bind fun r24 =>
 if (r24 != 0) = true then
 some 3
 else
 some 0
 else
 some 3
 else
 some 3
 else
 some 0
 else
 some 2
 else
 some 5
def y9n (k : Nat) : Vm.Spec := { ps := [.str], rs := [.imm (.int .i64)], f := fun x => z7z k x }
noncomputable def y0s : Vm.Spec := y9n fuel
theorem zh1 : Vm.Spec.holds Tryz.prog 10 y0s := z0u (E := w3e) (L := w0h) (fn := Tryz.f10) (Z := y9n) (z1f ok) (z0m (by exact ⟨⟨by kernel_rfl, z9n⟩, ⟨by kernel_rfl, zq8⟩, ⟨by kernel_rfl, y8n⟩, ⟨by kernel_rfl, y1m⟩, ⟨by kernel_rfl, zz9⟩, ⟨by kernel_rfl, z8d⟩, ⟨by kernel_rfl, z9m⟩, trivial⟩)) z0v (z07 rfl) (z01 rfl) (by kernel_rfl) (by kernel_rfl) (z0o rfl) fun k x => by kernel_rfl
noncomputable def yn8 : Env := { te := te, spec := [(10, y0s)], body := [] }
def y8x : Ann := { slots := [(6, .one (.val (.slice .str))), (7, .one (.val (.int .i64))), (8, .one (.val (.int .i64)))], objs := [] }
def y09 : Ann := { slots := [(2, .one (.val (.int .i64)))], objs := [] }
def z2v : Nat -> List ByteArray -> Int -> Int -> Option (LR a0 y09)
 | 0, _, _, _ => none
 | m + 1, s6, s7, s8 =>
  if decide (s8 < s7) = true then if (0 : Int) <= s8 then if s8 < s6.length then
  (z7z fuel (s6.getD s8.toNat ByteArray.empty)).bind fun r1 =>
  if (r1 != 0) = true then
  some (.ret (r1, ()))
  else
  z2v m s6 s7 (IntKind.i64.wrap (s8 + 1))
  else none else none
  else
  some (.exit ())
def y08 : LSpec := { h := y8x, x := a0, r := y09, xid := 0, rt := true, pins := [], f := fun k d => z2v k d.1 d.2.1 d.2.2.1 }
def yf3 : z1t := [([91], [(2, y08)])]
def z3c (k : Nat) (a0 : List ByteArray) : Option (Int) :=
 match z2v k a0 (a0.length : Int) 0 with
 | none => none
 | some (.exit d1) =>
  some 0
 | some (.ret d1) =>
  some d1.1
def y2h (k : Nat) : Vm.Spec := { ps := [.slice .str], rs := [.imm (.int .i64)], f := fun x => z3c k x }
noncomputable def z9l : Vm.Spec := y2h fuel
theorem z6h : Vm.Spec.holds Tryz.prog 91 z9l := z0u (E := yn8) (L := yf3) (fn := Tryz.f91) (Z := y2h) (z1f ok) (z0m (by exact ⟨⟨by kernel_rfl, zh1⟩, trivial⟩)) z0v (z07 rfl) (z01 rfl) (by kernel_rfl) (by kernel_rfl) (z0h (ls := [(2, y08)]) rfl rfl ⟨by kernel_rfl, fun _ => rfl, fun _ _ => by kernel_rfl, z0i (by kernel_rfl)⟩) fun k x => by kernel_rfl
noncomputable def y88 : Env := { te := te, spec := [(91, z9l)], body := [] }
def y6h : z1t := []
def z1v (k : Nat) (a0 : List ByteArray) : Option (Int) :=
 if decide ((a0.length : Int) > 40) = true then
 some 2
 else
 (z3c fuel a0).bind fun r1 =>
 some r1
def zv1 (k : Nat) : Vm.Spec := { ps := [.slice .str], rs := [.imm (.int .i64)], f := fun x => z1v k x }
noncomputable def z6i : Vm.Spec := zv1 fuel
theorem z56 : Vm.Spec.holds Tryz.prog 66 z6i := z0u (E := y88) (L := y6h) (fn := Tryz.f66) (Z := zv1) (z1f ok) (z0m (by exact ⟨⟨by kernel_rfl, z6h⟩, trivial⟩)) z0v (z07 rfl) (z01 rfl) (by kernel_rfl) (by kernel_rfl) (z0o rfl) fun k x => by kernel_rfl
noncomputable def yn5 : Env := { te := te, spec := [(66, z6i)], body := [] }
def y8w : Ann := { slots := [(0, .one (.val (.slice (.slice .str)))), (9, .one (.val (.slice (.slice .str)))), (10, .one (.val (.int .i64))), (11, .one (.val (.int .i64)))], objs := [] }
def y07 : Ann := { slots := [(2, .one (.val (.int .i64)))], objs := [] }
def z2u : Nat -> List (List ByteArray) -> List (List ByteArray) -> Int -> Int -> Option (LR a0 y07)
 | 0, _, _, _, _ => none
 | m + 1, s0, s9, s10, s11 =>
  if decide (s11 < s10) = true then if (0 : Int) <= s11 then if s11 < s9.length then if (0 : Int) < s0.length then if (((s9.getD s11.toNat []).length : Int) != ((s0.getD 0 []).length : Int)) = true then
  some (.ret (3, ()))
  else
  (z1v fuel (s9.getD s11.toNat [])).bind fun r1 =>
  if (r1 != 0) = true then
  some (.ret (r1, ()))
  else
  z2u m s0 s9 s10 (IntKind.i64.wrap (s11 + 1))
  else none else none else none
  else
  some (.exit ())
def y06 : LSpec := { h := y8w, x := a0, r := y07, xid := 0, rt := true, pins := [], f := fun k d => z2u k d.1 d.2.1 d.2.2.1 d.2.2.2.1 }
def yf0 : z1t := [([31], [(4, y06)])]
def z3l (k : Nat) (a0 : List (List ByteArray)) : Option (Int) :=
 if decide ((a0.length : Int) > 40) = true then
 some 2
 else
 match z2u k a0 a0 (a0.length : Int) 0 with
 | none => none
 | some (.exit d1) =>
  some 0
 | some (.ret d1) =>
  some d1.1
def y2e (k : Nat) : Vm.Spec := { ps := [.slice (.slice .str)], rs := [.imm (.int .i64)], f := fun x => z3l k x }
noncomputable def z9j : Vm.Spec := y2e fuel
theorem z6e : Vm.Spec.holds Tryz.prog 31 z9j := z0u (E := yn5) (L := yf0) (fn := Tryz.f31) (Z := y2e) (z1f ok) (z0m (by exact ⟨⟨by kernel_rfl, z56⟩, trivial⟩)) z0v (z07 rfl) (z01 rfl) (by kernel_rfl) (by kernel_rfl) (z0h (ls := [(4, y06)]) rfl rfl ⟨by kernel_rfl, fun _ => rfl, fun _ _ => by kernel_rfl, z0i (by kernel_rfl)⟩) fun k x => by kernel_rfl
noncomputable def yn6 : Env := { te := te, spec := [], body := [] }
def yf1 : z1t := []
def z5b (k : Nat) (a0 : List (List ByteArray)) : Option (Int) :=
 if ((a0.length : Int) == 0) = true then
 some 0
 else
 if (0 : Int) < a0.length then
 some ((a0.getD 0 []).length : Int)
 else none
def y2f (k : Nat) : Vm.Spec := { ps := [.slice (.slice .str)], rs := [.imm (.int .i64)], f := fun x => z5b k x }
noncomputable def z9k : Vm.Spec := y2f fuel
theorem z6f : Vm.Spec.holds Tryz.prog 32 z9k := z0u (E := yn6) (L := yf1) (fn := Tryz.f32) (Z := y2f) (z1f ok) (z0m (by exact trivial)) z0v (z07 rfl) (z01 rfl) (by kernel_rfl) (by kernel_rfl) (z0o rfl) fun k x => by kernel_rfl
noncomputable def ye4 : Env := { te := te, spec := [(31, z9j), (32, z9k)], body := [] }
def yb6 : z1t := []
def z2f (k : Nat) (a0 : List (List ByteArray)) : Option (Int) :=
 if decide ((a0.length : Int) > 12) = true then
 some 2
 else
 (z3l fuel a0).bind fun r1 =>
 if (r1 != 0) = true then
 some r1
 else
 (z5b fuel a0).bind fun r2 =>
 if (r2 == 0) = true then
 some 8
 else
 if (0 : Int) < a0.length then if decide (((a0.getD 0 []).length : Int) > 12) = true then
 some 2
 else
 some 0
 else none
def y1f (k : Nat) : Vm.Spec := { ps := [.slice (.slice .str)], rs := [.imm (.int .i64)], f := fun x => z2f k x }
noncomputable def z5k : Vm.Spec := y1f fuel
theorem z3f : Vm.Spec.holds Tryz.prog 9 z5k := z0u (E := ye4) (L := yb6) (fn := Tryz.f9) (Z := y1f) (z1f ok) (z0m (by exact ⟨⟨by kernel_rfl, z6e⟩, ⟨by kernel_rfl, z6f⟩, trivial⟩)) z0v (z07 rfl) (z01 rfl) (by kernel_rfl) (by kernel_rfl) (z0o rfl) fun k x => by kernel_rfl
noncomputable def wl6 : Env := { te := te, spec := [(33, z9z), (34, y0w), (36, y8e), (39, y3o)], body := [] }
def w9g : z1t := []
def z7n (k : Nat) (a0 : ByteArray) : Option (Bool × ((List Int) × (List Int))) :=
 (z2o fuel a0 (⟨#[45]⟩ : ByteArray)).bind fun r1 =>
 (z5y fuel r1.1 (⟨#[47]⟩ : ByteArray)).bind fun r2 =>
 (z3w fuel r2.1).bind fun r3 =>
 (z6g fuel 1).bind fun r4 =>
 if r2.2.2 = true then
 (z3w fuel r2.2.1).bind fun r5 =>
 some (r1.2, (r3, r5))
 else
 some (r1.2, (r3, r4))
def w0u (k : Nat) : Vm.Spec := { ps := [.str], rs := [.imm qT], f := fun x => z7n k x }
noncomputable def zo1 : Vm.Spec := w0u fuel
theorem z5c : Vm.Spec.holds Tryz.prog 25 zo1 := z0u (E := wl6) (L := w9g) (fn := Tryz.f25) (Z := w0u) (z1f ok) (z0m (by exact ⟨⟨by kernel_rfl, z9n⟩, ⟨by kernel_rfl, zq8⟩, ⟨by kernel_rfl, y1m⟩, ⟨by kernel_rfl, z9m⟩, trivial⟩)) z0v (z07 rfl) (z01 rfl) (by kernel_rfl) (by kernel_rfl) (z0o rfl) fun k x => by kernel_rfl
noncomputable def w05 : Env := { te := te, spec := [(25, zo1)], body := [] }
def yj3 : Ann := { slots := [(3, .one (.own 64 qT)), (6, .one (.val (.slice .str))), (7, .one (.val (.int .i64))), (8, .one (.val (.int .i64)))], objs := [(64, .buf qT)] }
def y30 : Ann := { slots := [(3, .one (.own 64 qT))], objs := [(64, .buf qT)] }
def z7e : Nat -> List ByteArray -> Int -> Int -> List (Bool × ((List Int) × (List Int))) -> Option (LR y30 a0)
 | 0, _, _, _, _ => none
 | m + 1, s6, s7, s8, b64 =>
  if decide (s8 < s7) = true then if (0 : Int) <= s8 then if s8 < s6.length then
  (z7n fuel (s6.getD s8.toNat ByteArray.empty)).bind fun r1 =>
  if (b64.length + 1) * 56 <= 140737488355328 then
  z7e m s6 s7 (IntKind.i64.wrap (s8 + 1)) (b64 ++ [r1])
  else none else none else none
  else
  some (.exit (b64, ()))
def y2z : LSpec := { h := yj3, x := y30, r := a0, xid := 0, rt := false, pins := [], f := fun k d => z7e k d.1 d.2.1 d.2.2.1 d.2.2.2.1 }
def yv2 : z1t := [([63], [(3, y2z)])]
def z2m (k : Nat) (a0 : List ByteArray) : Option (List (Bool × ((List Int) × (List Int)))) :=
 match z7e k a0 (a0.length : Int) 0 [] with
 | none => none
 | some (.exit d1) =>
  some d1.1
 | some (.ret d1) =>
  none
def y6q (k : Nat) : Vm.Spec := { ps := [.slice .str], rs := [.fresh qT], f := fun x => z2m k x }
noncomputable def z7t : Vm.Spec := y6q fuel
theorem z4n : Vm.Spec.holds Tryz.prog 63 z7t := z0u (E := w05) (L := yv2) (fn := Tryz.f63) (Z := y6q) (z1f ok) (z0m (by exact ⟨⟨by kernel_rfl, z5c⟩, trivial⟩)) z0v (z07 rfl) (z01 rfl) (by kernel_rfl) (by kernel_rfl) (z0h (ls := [(3, y2z)]) rfl rfl ⟨by kernel_rfl, fun _ => rfl, fun _ _ => by kernel_rfl, z0i (by kernel_rfl)⟩) fun k x => by kernel_rfl
noncomputable def w36 : Env := { te := te, spec := [(63, z7t)], body := [] }
def yo9 : Ann := { slots := [(3, .one (.own 64 (.slice qT))), (6, .one (.val (.slice (.slice .str)))), (7, .one (.val (.int .i64))), (8, .one (.val (.int .i64)))], objs := [(64, .buf (.slice qT))] }
def y4t : Ann := { slots := [(3, .one (.own 64 (.slice qT)))], objs := [(64, .buf (.slice qT))] }
def z8j : Nat -> List (List ByteArray) -> Int -> Int -> List (List (Bool × ((List Int) × (List Int)))) -> Option (LR y4t a0)
 | 0, _, _, _, _ => none
 | m + 1, s6, s7, s8, b64 =>
  if decide (s8 < s7) = true then if (0 : Int) <= s8 then if s8 < s6.length then
  (z2m fuel (s6.getD s8.toNat [])).bind fun r1 =>
  if (b64.length + 1) * 24 <= 140737488355328 then
  z8j m s6 s7 (IntKind.i64.wrap (s8 + 1)) (b64 ++ [r1])
  else none else none else none
  else
  some (.exit (b64, ()))
def y4s : LSpec := { h := yo9, x := y4t, r := a0, xid := 0, rt := false, pins := [], f := fun k d => z8j k d.1 d.2.1 d.2.2.1 d.2.2.2.1 }
def w09 : z1t := [([42], [(3, y4s)])]
def z69 (k : Nat) (a0 : List (List ByteArray)) : Option (List (List (Bool × ((List Int) × (List Int))))) :=
 match z8j k a0 (a0.length : Int) 0 [] with
 | none => none
 | some (.exit d1) =>
  some d1.1
 | some (.ret d1) =>
  none
def y9f (k : Nat) : Vm.Spec := { ps := [.slice (.slice .str)], rs := [.fresh (.slice qT)], f := fun x => z69 k x }
noncomputable def zg7 : Vm.Spec := y9f fuel
theorem z6l : Vm.Spec.holds Tryz.prog 42 zg7 := z0u (E := w36) (L := w09) (fn := Tryz.f42) (Z := y9f) (z1f ok) (z0m (by exact ⟨⟨by kernel_rfl, z4n⟩, trivial⟩)) z0v (z07 rfl) (z01 rfl) (by kernel_rfl) (by kernel_rfl) (z0h (ls := [(3, y4s)]) rfl rfl ⟨by kernel_rfl, fun _ => rfl, fun _ _ => by kernel_rfl, z0i (by kernel_rfl)⟩) fun k x => by kernel_rfl
noncomputable def w9a : Env := { te := te, spec := [(39, y3o)], body := [] }
def w7s : z1t := []
def z6n (k : Nat) (a0 : Int) : Option (Bool × ((List Int) × (List Int))) :=
 if decide (a0 < 0) = true then
 (z6g fuel (IntKind.i64.wrap (0 - a0))).bind fun r1 =>
 (z6g fuel 1).bind fun r2 =>
 some (true, (r1, r2))
 else
 (z6g fuel a0).bind fun r3 =>
 (z6g fuel 1).bind fun r4 =>
 some (false, (r3, r4))
def yr0 (k : Nat) : Vm.Spec := { ps := [.int .i64], rs := [.imm qT], f := fun x => z6n k x }
noncomputable def yf7 : Vm.Spec := yr0 fuel
theorem y2p : Vm.Spec.holds Tryz.prog 43 yf7 := z0u (E := w9a) (L := w7s) (fn := Tryz.f43) (Z := yr0) (z1f ok) (z0m (by exact ⟨⟨by kernel_rfl, z9m⟩, trivial⟩)) z0v (z07 rfl) (z01 rfl) (by kernel_rfl) (by kernel_rfl) (z0o rfl) fun k x => by kernel_rfl
noncomputable def yu7 : Env := { te := te, spec := [(39, y3o)], body := [] }
def yo1 : z1t := []
def z36 (k : Nat) (a0 : Bool × ((List Int) × (List Int))) : Option (List Int) :=
 if ((a0.2.2.length : Int) == 0) = true then
 (z6g fuel 1).bind fun r1 =>
 some r1
 else
 some a0.2.2
def y4k (k : Nat) : Vm.Spec := { ps := [qT], rs := [.imm (.slice (.int .u32))], f := fun x => z36 k x }
noncomputable def zd2 : Vm.Spec := y4k fuel
theorem z6v : Vm.Spec.holds Tryz.prog 73 zd2 := z0u (E := yu7) (L := yo1) (fn := Tryz.f73) (Z := y4k) (z1f ok) (z0m (by exact ⟨⟨by kernel_rfl, z9m⟩, trivial⟩)) z0v (z07 rfl) (z01 rfl) (by kernel_rfl) (by kernel_rfl) (z0o rfl) fun k x => by kernel_rfl
noncomputable def w9e : Env := { te := te, spec := [(37, y5m), (38, zp5), (39, y3o), (70, y5l)], body := [] }
def w7w : z1t := []
def zj6 (k : Nat) (a0 : Bool) (a1 : List Int) (a2 : List Int) : Option (Bool × ((List Int) × (List Int))) :=
 if ((a1.length : Int) == 0) = true then
 some (false, ([], []))
 else
 (z6t fuel a1 a2).bind fun r1 =>
 (z6g fuel 1).bind fun r2 =>
 (z4u fuel r1 r2).bind fun r3 =>
 if decide (r3 > 0) = true then
 (zh0 fuel a1 r1).bind fun r4 =>
 (zh0 fuel a2 r1).bind fun r5 =>
 some (a0, (r4.1, r5.1))
 else
 some (a0, (a1, a2))
def yr4 (k : Nat) : Vm.Spec := { ps := [.bool, .slice (.int .u32), .slice (.int .u32)], rs := [.imm qT], f := fun x => zj6 k x.1 x.2.1 x.2.2 }
noncomputable def y6m : Vm.Spec := yr4 fuel
theorem zq7 : Vm.Spec.holds Tryz.prog 74 y6m := z0u (E := w9e) (L := w7w) (fn := Tryz.f74) (Z := yr4) (z1f ok) (z0m (by exact ⟨⟨by kernel_rfl, zz9⟩, ⟨by kernel_rfl, z8d⟩, ⟨by kernel_rfl, z9m⟩, ⟨by kernel_rfl, zz8⟩, trivial⟩)) z0v (z07 rfl) (z01 rfl) (by kernel_rfl) (by kernel_rfl) (z0o rfl) fun k x => by kernel_rfl
noncomputable def w38 : Env := { te := te, spec := [], body := [] }
def yp1 : Ann := { slots := [(1, .one (.val (.slice (.int .u32)))), (5, .one (.own 76 (.int .u32))), (6, .one (.val (.int .u32))), (20, .one (.val (.slice (.int .u32)))), (21, .one (.val (.int .i64))), (22, .one (.val (.int .i64)))], objs := [(76, .buf (.int .u32))] }
def y4x : Ann := { slots := [(5, .one (.own 76 (.int .u32))), (6, .one (.val (.int .u32)))], objs := [(76, .buf (.int .u32))] }
def z63 : Nat -> List Int -> Int -> List Int -> Int -> Int -> List Int -> Option (LR y4x a0)
 | 0, _, _, _, _, _, _ => none
 | m + 1, s1, s6, s20, s21, s22, b76 =>
  if decide (s22 < s21) = true then if (0 : Int) <= s22 then if s22 < s20.length then if decide (s22 < (s1.length : Int)) = true then if (0 : Int) <= s22 then if s22 < s1.length then if (b76.length + 1) * 4 <= 140737488355328 then
  z63 m s1 (IntKind.u32.wrap ((IntKind.u32.wrap ((IntKind.u32.wrap ((s20.getD s22.toNat 0) + s6)) + (s1.getD s22.toNat 0))).tdiv 1000000000)) s20 s21 (IntKind.i64.wrap (s22 + 1)) (b76 ++ [(IntKind.u32.wrap ((IntKind.u32.wrap ((s20.getD s22.toNat 0) + s6)) + (s1.getD s22.toNat 0))).tmod 1000000000])
  else none else none else none
  else
  if (b76.length + 1) * 4 <= 140737488355328 then
  z63 m s1 (IntKind.u32.wrap ((IntKind.u32.wrap ((s20.getD s22.toNat 0) + s6)).tdiv 1000000000)) s20 s21 (IntKind.i64.wrap (s22 + 1)) (b76 ++ [(IntKind.u32.wrap ((s20.getD s22.toNat 0) + s6)).tmod 1000000000])
  else none else none else none
  else
  some (.exit (s6, b76, ()))
def y4w : LSpec := { h := yp1, x := y4x, r := a0, xid := 0, rt := false, pins := [], f := fun k d => z63 k d.1 d.2.1 d.2.2.1 d.2.2.2.1 d.2.2.2.2.1 d.2.2.2.2.2.1 }
def w0b : z1t := [([75], [(6, y4w)])]
def y12 (k : Nat) (a0 : List Int) (a1 : List Int) : Option (List Int) :=
 if decide ((a0.length : Int) < (a1.length : Int)) = true then if (0 : Int) <= IntKind.i64.wrap ((a1.length : Int) + 1) then if (IntKind.i64.wrap ((a1.length : Int) + 1)) * 4 <= 281474976710656 then
 match z63 k a0 0 a1 (a1.length : Int) 0 (List.replicate 0 0) with
 | none => none
 | some (.exit d1) =>
  if decide (d1.1 > 0) = true then if (d1.2.1.length + 1) * 4 <= 140737488355328 then
  some (d1.2.1 ++ [d1.1])
  else none
  else
  some d1.2.1
 | some (.ret d1) =>
  none
 else none else none
 else
 if (0 : Int) <= IntKind.i64.wrap ((a0.length : Int) + 1) then if (IntKind.i64.wrap ((a0.length : Int) + 1)) * 4 <= 281474976710656 then
 match z63 k a1 0 a0 (a0.length : Int) 0 (List.replicate 0 0) with
 | none => none
 | some (.exit d2) =>
  if decide (d2.1 > 0) = true then if (d2.2.1.length + 1) * 4 <= 140737488355328 then
  some (d2.2.1 ++ [d2.1])
  else none
  else
  some d2.2.1
 | some (.ret d2) =>
  none
 else none else none
def y9h (k : Nat) : Vm.Spec := { ps := [.slice (.int .u32), .slice (.int .u32)], rs := [.fresh (.int .u32)], f := fun x => y12 k x.1 x.2 }
noncomputable def yf5 : Vm.Spec := y9h fuel
theorem y8o : Vm.Spec.holds Tryz.prog 75 yf5 := z0u (E := w38) (L := w0b) (fn := Tryz.f75) (Z := y9h) (z1f ok) (z0m (by exact trivial)) z0v (z07 rfl) (z01 rfl) (by kernel_rfl) (by kernel_rfl) (z0h (ls := [(6, y4w)]) rfl rfl ⟨by kernel_rfl, fun _ => rfl, fun _ _ => by kernel_rfl, z0i (by kernel_rfl)⟩) fun k x => by kernel_rfl
noncomputable def w3f : Env := { te := te, spec := [(38, zp5), (72, zp6), (73, zd2), (74, y6m), (75, yf5), (76, yf6)], body := [] }
def w0i : z1t := []
def z5m (k : Nat) (a0 : Bool × ((List Int) × (List Int))) (a1 : Bool × ((List Int) × (List Int))) : Option (Bool × ((List Int) × (List Int))) :=
 if ((a0.2.1.length : Int) == 0) = true then
 some a1
 else
 if ((a1.2.1.length : Int) == 0) = true then
 some a0
 else
 (z36 fuel a1).bind fun r1 =>
 (z4v fuel a0.2.1 r1).bind fun r2 =>
 (z36 fuel a0).bind fun r3 =>
 (z4v fuel a1.2.1 r3).bind fun r4 =>
 (z36 fuel a0).bind fun r5 =>
 (z36 fuel a1).bind fun r6 =>
 (z4v fuel r5 r6).bind fun r7 =>
 if (a0.1 == a1.1) = true then
 (y12 fuel r2 r4).bind fun r8 =>
 (zj6 fuel a0.1 r8 r7).bind fun r9 =>
 some r9
 else
 (z4u fuel r2 r4).bind fun r10 =>
 if decide (r10 >= 0) = true then
 (zq6 fuel r2 r4).bind fun r11 =>
 (zj6 fuel a0.1 r11 r7).bind fun r12 =>
 some r12
 else
 (zq6 fuel r4 r2).bind fun r13 =>
 (zj6 fuel a1.1 r13 r7).bind fun r14 =>
 some r14
def y9o (k : Nat) : Vm.Spec := { ps := [qT, qT], rs := [.imm qT], f := fun x => z5m k x.1 x.2 }
noncomputable def z9x : Vm.Spec := y9o fuel
theorem z5h : Vm.Spec.holds Tryz.prog 46 z9x := z0u (E := w3f) (L := w0i) (fn := Tryz.f46) (Z := y9o) (z1f ok) (z0m (by exact ⟨⟨by kernel_rfl, z8d⟩, ⟨by kernel_rfl, z8e⟩, ⟨by kernel_rfl, z6v⟩, ⟨by kernel_rfl, zq7⟩, ⟨by kernel_rfl, y8o⟩, ⟨by kernel_rfl, y8p⟩, trivial⟩)) z0v (z07 rfl) (z01 rfl) (by kernel_rfl) (by kernel_rfl) (z0o rfl) fun k x => by kernel_rfl
noncomputable def w3i : Env := { te := te, spec := [], body := [] }
def w0l : z1t := []
def z80 (k : Nat) (a0 : Bool × ((List Int) × (List Int))) : Option (Bool × ((List Int) × (List Int))) :=
 if ((a0.2.1.length : Int) == 0) = true then
 some a0
 else
 some (!a0.1, a0.2)
def y9r (k : Nat) : Vm.Spec := { ps := [qT], rs := [.imm qT], f := fun x => z80 k x }
noncomputable def y0t : Vm.Spec := y9r fuel
theorem zh2 : Vm.Spec.holds Tryz.prog 58 y0t := z0u (E := w3i) (L := w0l) (fn := Tryz.f58) (Z := y9r) (z1f ok) (z0m (by exact trivial)) z0v (z07 rfl) (z01 rfl) (by kernel_rfl) (by kernel_rfl) (z0o rfl) fun k x => by kernel_rfl
noncomputable def w3l : Env := { te := te, spec := [(46, z9x), (58, y0t)], body := [] }
def w0o : z1t := []
def z4b (k : Nat) (a0 : Bool × ((List Int) × (List Int))) (a1 : Bool × ((List Int) × (List Int))) : Option (Bool × ((List Int) × (List Int))) :=
 (z80 fuel a1).bind fun r1 =>
 (z5m fuel a0 r1).bind fun r2 =>
 some r2
def y9u (k : Nat) : Vm.Spec := { ps := [qT, qT], rs := [.imm qT], f := fun x => z4b k x.1 x.2 }
noncomputable def y0v : Vm.Spec := y9u fuel
theorem zh4 : Vm.Spec.holds Tryz.prog 44 y0v := z0u (E := w3l) (L := w0o) (fn := Tryz.f44) (Z := y9u) (z1f ok) (z0m (by exact ⟨⟨by kernel_rfl, z5h⟩, ⟨by kernel_rfl, zh2⟩, trivial⟩)) z0v (z07 rfl) (z01 rfl) (by kernel_rfl) (by kernel_rfl) (z0o rfl) fun k x => by kernel_rfl
noncomputable def w08 : Env := { te := te, spec := [], body := [] }
def yv5 : z1t := []
def z31 (k : Nat) (a0 : Bool × ((List Int) × (List Int))) : Option (Int) :=
 if ((a0.2.1.length : Int) == 0) = true then
 some 0
 else
 if a0.1 = true then
 some (-1)
 else
 some 1
def y6t (k : Nat) : Vm.Spec := { ps := [qT], rs := [.imm (.int .i64)], f := fun x => z31 k x }
noncomputable def zi9 : Vm.Spec := y6t fuel
theorem z7o : Vm.Spec.holds Tryz.prog 26 zi9 := z0u (E := w08) (L := yv5) (fn := Tryz.f26) (Z := y6t) (z1f ok) (z0m (by exact trivial)) z0v (z07 rfl) (z01 rfl) (by kernel_rfl) (by kernel_rfl) (z0o rfl) fun k x => by kernel_rfl
noncomputable def w3g : Env := { te := te, spec := [(26, zi9), (44, y0v)], body := [] }
def w0j : z1t := []
def z4w (k : Nat) (a0 : Bool × ((List Int) × (List Int))) (a1 : Bool × ((List Int) × (List Int))) : Option (Int) :=
 (z4b fuel a0 a1).bind fun r1 =>
 (z31 fuel r1).bind fun r2 =>
 some r2
def y9p (k : Nat) : Vm.Spec := { ps := [qT, qT], rs := [.imm (.int .i64)], f := fun x => z4w k x.1 x.2 }
noncomputable def z9y : Vm.Spec := y9p fuel
theorem z5i : Vm.Spec.holds Tryz.prog 57 z9y := z0u (E := w3g) (L := w0j) (fn := Tryz.f57) (Z := y9p) (z1f ok) (z0m (by exact ⟨⟨by kernel_rfl, z7o⟩, ⟨by kernel_rfl, zh4⟩, trivial⟩)) z0v (z07 rfl) (z01 rfl) (by kernel_rfl) (by kernel_rfl) (z0o rfl) fun k x => by kernel_rfl
noncomputable def y1v : Env := { te := te, spec := [], body := [] }
def zx9 : Ann := { slots := [(0, .one (.val .str)), (1, .one (.val (.int .u8)))], objs := [] }
def z9r : Ann := { slots := [(0, .one (.val .str))], objs := [] }
def z33 : Nat -> ByteArray -> Int -> Option (LR z9r a0)
 | 0, _, _ => none
 | m + 1, s0, s1 =>
  if decide ((s0.size : Int) > 0) = true then if (0 : Int) < (s0.size : Int) then if (((s0.data.getD 0 0).toNat : Int) == s1) = true then if (1 : Int) <= s0.size then
  z33 m (s0.extract 1 s0.size) s1
  else none
  else
  some (.exit (s0, ()))
  else none
  else
  some (.exit (s0, ()))
def z9q : LSpec := { h := zx9, x := z9r, r := a0, xid := 0, rt := false, pins := [], f := fun k d => z33 k d.1 d.2.1 }
def y0q : z1t := [([108], [(1, z9q)])]
def z7i (k : Nat) (a0 : ByteArray) (a1 : Int) : Option (ByteArray) :=
 match z33 k a0 a1 with
 | none => none
 | some (.exit d1) =>
  some d1.1
 | some (.ret d1) =>
  none
def zd6 (k : Nat) : Vm.Spec := { ps := [.str, .int .u8], rs := [.imm .str], f := fun x => z7i k x.1 x.2 }
noncomputable def zf7 : Vm.Spec := zd6 fuel
theorem zo3 : Vm.Spec.holds Tryz.prog 108 zf7 := z0u (E := y1v) (L := y0q) (fn := Tryz.f108) (Z := zd6) (z1f ok) (z0m (by exact trivial)) z0v (z07 rfl) (z01 rfl) (by kernel_rfl) (by kernel_rfl) (z0h (ls := [(1, z9q)]) rfl rfl ⟨by kernel_rfl, fun _ => rfl, fun _ _ => by kernel_rfl, z0i (by kernel_rfl)⟩) fun k x => by kernel_rfl
noncomputable def y6g : Env := { te := te, spec := [(108, zf7)], body := [] }
def y5k : z1t := []
def z7p (k : Nat) (a0 : ByteArray) (a1 : ByteArray) : Option (ByteArray) :=
 if ((a0.toList == (⟨#[]⟩ : ByteArray).toList)) = false then if ((a1.toList == (⟨#[]⟩ : ByteArray).toList)) = true then
 some a0
 else
 if ((a1.size : Int) == 1) = true then if (0 : Int) < (a1.size : Int) then if decide (((a1.data.getD 0 0).toNat : Int) < 128) = true then if (0 : Int) < (a1.size : Int) then
 (z7i fuel a0 ((a1.data.getD 0 0).toNat : Int)).bind fun r1 =>
 some r1
 else none else none else none else none
 else
 some a0
def zq1 (k : Nat) : Vm.Spec := { ps := [.str, .str], rs := [.imm .str], f := fun x => z7p k x.1 x.2 }
noncomputable def zv0 : Vm.Spec := zq1 fuel
theorem y02 : Vm.Spec.holds Tryz.prog 102 zv0 := z0u (E := y6g) (L := y5k) (fn := Tryz.f102) (Z := zq1) (z1f ok) (z0m (by exact ⟨⟨by kernel_rfl, zo3⟩, trivial⟩)) z0v (z07 rfl) (z01 rfl) (by kernel_rfl) (by kernel_rfl) (z0o rfl) fun k x => by kernel_rfl
noncomputable def w06 : Env := { te := te, spec := [(102, zv0)], body := [] }
def yc8 : Ann := { slots := [(5, .one (.val (.int .u32))), (6, .one (.fix (.pbox 24 0))), (7, .one (.val (.int .i64)))], objs := [(24, .box [.val (.arr 9 (.int .u8))])] }
def y1p : Ann := { slots := [(6, .one (.fix (.pbox 24 0)))], objs := [(24, .box [.val (.arr 9 (.int .u8))])] }
def yj6 : Ann := { slots := [(0, .one (.val (.slice (.int .u32)))), (3, .one (.own 56 (.int .u8))), (4, .one (.val (.int .i64)))], objs := [(56, .buf (.int .u8))] }
def y36 : Ann := { slots := [(3, .one (.own 56 (.int .u8)))], objs := [(56, .buf (.int .u8))] }
def z5q : Nat -> Int -> Int -> List Int -> Option (LR y1p a0)
 | 0, _, _, _ => none
 | m + 1, s5, s7, b24_0 =>
  if decide (s7 >= 0) = true then if (0 : Int) <= s7 then if s7 < 9 then
  z5q m (IntKind.u32.wrap (s5.tdiv 10)) (IntKind.i64.wrap (s7 - 1)) (b24_0.set s7.toNat (IntKind.u8.wrap (IntKind.u32.wrap (48 + (s5.tmod 10)))))
  else none else none
  else
  some (.exit (b24_0, ()))
def y1o : LSpec := { h := yc8, x := y1p, r := a0, xid := 2, rt := false, pins := [24], f := fun k d => z5q k d.1 d.2.1 d.2.2.1 }
def z6c : Nat -> List Int -> Int -> List Int -> Option (LR y36 a0)
 | 0, _, _, _ => none
 | m + 1, s0, s4, b56 =>
  if decide (s4 >= 0) = true then if (0 : Int) <= s4 then if s4 < s0.length then
  match z5q m (s0.getD s4.toNat 0) 8 (List.replicate 9 0) with
  | none => none
  | some (.exit d1) =>
   if (b56.length + ((d1.1.take 9).drop 0).length) * 1 <= 140737488355328 then
   z6c m s0 (IntKind.i64.wrap (s4 - 1)) (b56 ++ ((d1.1.take 9).drop 0))
   else none
  | some (.ret d1) =>
   none
  else none else none
  else
  some (.exit (b56, ()))
def y35 : LSpec := { h := yj6, x := y36, r := a0, xid := 0, rt := false, pins := [], f := fun k d => z6c k d.1 d.2.1 d.2.2.1 }
def yv3 : z1t := [([88], [(5, y35), (10, y1o)])]
def z7x (k : Nat) (a0 : List Int) : Option (ByteArray) :=
 if ((a0.length : Int) == 0) = true then
 some (⟨#[48]⟩ : ByteArray)
 else
 if (0 : Int) <= IntKind.i64.wrap (9 * (a0.length : Int)) then if (IntKind.i64.wrap (9 * (a0.length : Int))) * 1 <= 281474976710656 then
 match z6c k a0 (IntKind.i64.wrap ((a0.length : Int) - 1)) (List.replicate 0 0) with
 | none => none
 | some (.exit d1) =>
  (z7p fuel (⟨(d1.1.map fun n => UInt8.ofNat n.toNat).toArray⟩ : ByteArray) (⟨#[48]⟩ : ByteArray)).bind fun r2 =>
  some r2
 | some (.ret d1) =>
  none
 else none else none
def y6r (k : Nat) : Vm.Spec := { ps := [.slice (.int .u32)], rs := [.imm .str], f := fun x => z7x k x }
noncomputable def y29 : Vm.Spec := y6r fuel
theorem zv3 : Vm.Spec.holds Tryz.prog 88 y29 := z0u (E := w06) (L := yv3) (fn := Tryz.f88) (Z := y6r) (z1f ok) (z0m (by exact ⟨⟨by kernel_rfl, y02⟩, trivial⟩)) z0v (z07 rfl) (z01 rfl) (by kernel_rfl) (by kernel_rfl) (z0h (ls := [(5, y35), (10, y1o)]) rfl rfl ⟨by kernel_rfl, fun _ => rfl, fun _ _ => by kernel_rfl, by kernel_rfl, fun _ => rfl, fun _ _ => by kernel_rfl, z0i (by kernel_rfl)⟩) fun k x => by kernel_rfl
noncomputable def w3j : Env := { te := te, spec := [(73, zd2), (88, y29)], body := [] }
def w0m : z1t := []
def z6u (k : Nat) (a0 : Bool × ((List Int) × (List Int))) : Option (ByteArray) :=
 if ((a0.2.1.length : Int) == 0) = true then
 some (⟨#[48]⟩ : ByteArray)
 else
 (z7x fuel a0.2.1).bind fun r1 =>
 if a0.1 = true then if (⟨#[45]⟩ : ByteArray).size + r1.size <= 4611686018427387904 then
 (z36 fuel a0).bind fun r2 =>
 (z7x fuel r2).bind fun r3 =>
 if (!(r3.toList == (⟨#[49]⟩ : ByteArray).toList)) = true then if (⟨#[47]⟩ : ByteArray).size + r3.size <= 4611686018427387904 then if ((⟨#[45]⟩ : ByteArray) ++ r1).size + ((⟨#[47]⟩ : ByteArray) ++ r3).size <= 4611686018427387904 then
 some (((⟨#[45]⟩ : ByteArray) ++ r1) ++ ((⟨#[47]⟩ : ByteArray) ++ r3))
 else none else none
 else
 some ((⟨#[45]⟩ : ByteArray) ++ r1)
 else none
 else
 (z36 fuel a0).bind fun r4 =>
 (z7x fuel r4).bind fun r5 =>
 if (!(r5.toList == (⟨#[49]⟩ : ByteArray).toList)) = true then if (⟨#[47]⟩ : ByteArray).size + r5.size <= 4611686018427387904 then if r1.size + ((⟨#[47]⟩ : ByteArray) ++ r5).size <= 4611686018427387904 then
 some (r1 ++ ((⟨#[47]⟩ : ByteArray) ++ r5))
 else none else none
 else
 some r1
def y9s (k : Nat) : Vm.Spec := { ps := [qT], rs := [.imm .str], f := fun x => z6u k x }
noncomputable def zg9 : Vm.Spec := y9s fuel
theorem z6p : Vm.Spec.holds Tryz.prog 59 zg9 := z0u (E := w3j) (L := w0m) (fn := Tryz.f59) (Z := y9s) (z1f ok) (z0m (by exact ⟨⟨by kernel_rfl, z6v⟩, ⟨by kernel_rfl, zv3⟩, trivial⟩)) z0v (z07 rfl) (z01 rfl) (by kernel_rfl) (by kernel_rfl) (z0o rfl) fun k x => by kernel_rfl
noncomputable def yn7 : Env := { te := te, spec := [(88, y29)], body := [] }
def yf2 : z1t := []
def z7d (k : Nat) (a0 : List Int) : Option (Int) :=
 (z7x fuel a0).bind fun r1 =>
 some (r1.size : Int)
def y2g (k : Nat) : Vm.Spec := { ps := [.slice (.int .u32)], rs := [.imm (.int .i64)], f := fun x => z7d k x }
noncomputable def y4h : Vm.Spec := y2g fuel
theorem y47 : Vm.Spec.holds Tryz.prog 101 y4h := z0u (E := yn7) (L := yf2) (fn := Tryz.f101) (Z := y2g) (z1f ok) (z0m (by exact ⟨⟨by kernel_rfl, zv3⟩, trivial⟩)) z0v (z07 rfl) (z01 rfl) (by kernel_rfl) (by kernel_rfl) (z0o rfl) fun k x => by kernel_rfl
noncomputable def w7o : Env := { te := te, spec := [(101, y4h)], body := [] }
def w3o : z1t := []
def z8f (k : Nat) (a0 : Bool × ((List Int) × (List Int))) : Option (Int) :=
 (z7d fuel a0.2.1).bind fun r1 =>
 if decide (r1 > 2000) = false then
 (z7d fuel a0.2.2).bind fun r2 =>
 if decide (r2 > 2000) = true then
 some 2
 else
 some 0
 else
 some 2
def yg0 (k : Nat) : Vm.Spec := { ps := [qT], rs := [.imm (.int .i64)], f := fun x => z8f k x }
noncomputable def zo6 : Vm.Spec := yg0 fuel
theorem z77 : Vm.Spec.holds Tryz.prog 86 zo6 := z0u (E := w7o) (L := w3o) (fn := Tryz.f86) (Z := yg0) (z1f ok) (z0m (by exact ⟨⟨by kernel_rfl, y47⟩, trivial⟩)) z0v (z07 rfl) (z01 rfl) (by kernel_rfl) (by kernel_rfl) (z0o rfl) fun k x => by kernel_rfl
noncomputable def w04 : Env := { te := te, spec := [(59, zg9), (86, zo6)], body := [] }
def yj2 : Ann := { slots := [(4, .one (.own 92 .str)), (8, .one (.val (.slice qT))), (9, .one (.val (.int .i64))), (10, .one (.val (.int .i64)))], objs := [(92, .buf .str)] }
def y2y : Ann := { slots := [(4, .one (.own 92 .str))], objs := [(92, .buf .str)] }
def y2x : Ann := { slots := [(2, .one (.fix .nil)), (3, .one (.val (.int .i64)))], objs := [] }
def z5e : Nat -> List (Bool × ((List Int) × (List Int))) -> Int -> Int -> List ByteArray -> Option (LR y2y y2x)
 | 0, _, _, _, _ => none
 | m + 1, s8, s9, s10, b92 =>
  if decide (s10 < s9) = true then if (0 : Int) <= s10 then if s10 < s8.length then
  (z8f fuel ((s8.getD s10.toNat (false, ([], []))).1, ((s8.getD s10.toNat (false, ([], []))).2))).bind fun r1 =>
  if (r1 != 0) = true then
  some (.ret (r1, ()))
  else
  (z6u fuel ((s8.getD s10.toNat (false, ([], []))).1, ((s8.getD s10.toNat (false, ([], []))).2))).bind fun r2 =>
  if (b92.length + 1) * 16 <= 140737488355328 then
  z5e m s8 s9 (IntKind.i64.wrap (s10 + 1)) (b92 ++ [r2])
  else none else none else none
  else
  some (.exit (b92, ()))
def y2w : LSpec := { h := yj2, x := y2y, r := y2x, xid := 0, rt := true, pins := [], f := fun k d => z5e k d.1 d.2.1 d.2.2.1 d.2.2.2.1 }
def yv1 : z1t := [([53], [(3, y2w)])]
def z3g (k : Nat) (a0 : List (Bool × ((List Int) × (List Int)))) : Option (List ByteArray × Int) :=
 match z5e k a0 (a0.length : Int) 0 [] with
 | none => none
 | some (.exit d1) =>
  some (d1.1, 0)
 | some (.ret d1) =>
  some ([], d1.1)
def y6p (k : Nat) : Vm.Spec := { ps := [.slice qT], rs := [.fresh .str, .imm (.int .i64)], f := fun x => z3g k x }
noncomputable def zi8 : Vm.Spec := y6p fuel
theorem z7l : Vm.Spec.holds Tryz.prog 53 zi8 := z0u (E := w04) (L := yv1) (fn := Tryz.f53) (Z := y6p) (z1f ok) (z0m (by exact ⟨⟨by kernel_rfl, z6p⟩, ⟨by kernel_rfl, z77⟩, trivial⟩)) z0v (z07 rfl) (z01 rfl) (by kernel_rfl) (by kernel_rfl) (z0h (ls := [(3, y2w)]) rfl rfl ⟨by kernel_rfl, fun _ => rfl, fun _ _ => by kernel_rfl, z0i (by kernel_rfl)⟩) fun k x => by kernel_rfl
noncomputable def ye6 : Env := { te := te, spec := [(53, zi8)], body := [] }
def y7f : Ann := { slots := [(4, .one (.own 104 (.slice .str))), (9, .one (.val (.slice (.slice qT)))), (10, .one (.val (.int .i64))), (11, .one (.val (.int .i64)))], objs := [(104, .buf (.slice .str))] }
def zw3 : Ann := { slots := [(4, .one (.own 104 (.slice .str)))], objs := [(104, .buf (.slice .str))] }
def zw2 : Ann := { slots := [(2, .one (.fix .nil)), (3, .one (.val (.int .i64)))], objs := [] }
def z3h : Nat -> List (List (Bool × ((List Int) × (List Int)))) -> Int -> Int -> List (List ByteArray) -> Option (LR zw3 zw2)
 | 0, _, _, _, _ => none
 | m + 1, s9, s10, s11, b104 =>
  if decide (s11 < s10) = true then if (0 : Int) <= s11 then if s11 < s9.length then
  (z3g fuel (s9.getD s11.toNat [])).bind fun r1 =>
  if (r1.2 != 0) = true then
  some (.ret (r1.2, ()))
  else
  if (b104.length + 1) * 24 <= 140737488355328 then
  z3h m s9 s10 (IntKind.i64.wrap (s11 + 1)) (b104 ++ [r1.1])
  else none else none else none
  else
  some (.exit (b104, ()))
def zw1 : LSpec := { h := y7f, x := zw3, r := zw2, xid := 0, rt := true, pins := [], f := fun k d => z3h k d.1 d.2.1 d.2.2.1 d.2.2.2.1 }
def yb8 : z1t := [([47], [(3, zw1)])]
def z6m (k : Nat) (a0 : List (List (Bool × ((List Int) × (List Int))))) : Option (List (List ByteArray) × Int) :=
 match z3h k a0 (a0.length : Int) 0 [] with
 | none => none
 | some (.exit d1) =>
  some (d1.1, 0)
 | some (.ret d1) =>
  some ([], d1.1)
def y1h (k : Nat) : Vm.Spec := { ps := [.slice (.slice qT)], rs := [.fresh (.slice .str), .imm (.int .i64)], f := fun x => z6m k x }
noncomputable def y28 : Vm.Spec := y1h fuel
theorem y2n : Vm.Spec.holds Tryz.prog 47 y28 := z0u (E := ye6) (L := yb8) (fn := Tryz.f47) (Z := y1h) (z1f ok) (z0m (by exact ⟨⟨by kernel_rfl, z7l⟩, trivial⟩)) z0v (z07 rfl) (z01 rfl) (by kernel_rfl) (by kernel_rfl) (z0h (ls := [(3, zw1)]) rfl rfl ⟨by kernel_rfl, fun _ => rfl, fun _ _ => by kernel_rfl, z0i (by kernel_rfl)⟩) fun k x => by kernel_rfl
noncomputable def w02 : Env := { te := te, spec := [], body := [] }
def yu9 : z1t := []
def ya0 (k : Nat) (a0 : Int) (a1 : Int) : Option (Int × Int) :=
 some (IntKind.u64.wrap ((IntKind.u64.wrap ((IntKind.u64.wrap ((a0.fdiv (2 ^ 32)) * (a1.fdiv (2 ^ 32)))) + ((IntKind.u64.wrap ((IntKind.u64.wrap ((a0.fdiv (2 ^ 32)) * (yc1 .and .u64 a1 4294967295))) + ((IntKind.u64.wrap ((yc1 .and .u64 a0 4294967295) * (yc1 .and .u64 a1 4294967295))).fdiv (2 ^ 32)))).fdiv (2 ^ 32)))) + ((IntKind.u64.wrap ((yc1 .and .u64 (IntKind.u64.wrap ((IntKind.u64.wrap ((a0.fdiv (2 ^ 32)) * (yc1 .and .u64 a1 4294967295))) + ((IntKind.u64.wrap ((yc1 .and .u64 a0 4294967295) * (yc1 .and .u64 a1 4294967295))).fdiv (2 ^ 32)))) 4294967295) + (IntKind.u64.wrap ((yc1 .and .u64 a0 4294967295) * (a1.fdiv (2 ^ 32)))))).fdiv (2 ^ 32))), IntKind.u64.wrap (a0 * a1))
def y6n (k : Nat) : Vm.Spec := { ps := [.int .u64, .int .u64], rs := [.imm (.int .u64), .imm (.int .u64)], f := fun x => ya0 k x.1 x.2 }
noncomputable def y9d : Vm.Spec := y6n fuel
theorem y75 : Vm.Spec.holds Tryz.prog 98 y9d := z0u (E := w02) (L := yu9) (fn := Tryz.f98) (Z := y6n) (z1f ok) (z0m (by exact trivial)) z0v (z07 rfl) (z01 rfl) (by kernel_rfl) (by kernel_rfl) (z0o rfl) fun k x => by kernel_rfl
noncomputable def w7m : Env := { te := te, spec := [(98, y9d)], body := [] }
def w3m : z1t := []
def ys1 (k : Nat) (a0 : Int) (a1 : Int) : Option (Int × Int) :=
 (ya0 fuel a0 a1).bind fun r1 =>
 some (r1.1, r1.2)
def yf8 (k : Nat) : Vm.Spec := { ps := [.int .u64, .int .u64], rs := [.imm (.int .u64), .imm (.int .u64)], f := fun x => ys1 k x.1 x.2 }
noncomputable def yq7 : Vm.Spec := yf8 fuel
theorem yc5 : Vm.Spec.holds Tryz.prog 77 yq7 := z0u (E := w7m) (L := w3m) (fn := Tryz.f77) (Z := yf8) (z1f ok) (z0m (by exact ⟨⟨by kernel_rfl, y75⟩, trivial⟩)) z0v (z07 rfl) (z01 rfl) (by kernel_rfl) (by kernel_rfl) (z0o rfl) fun k x => by kernel_rfl
noncomputable def y5f : Env := { te := te, spec := [(77, yq7)], body := [] }
def y23 : Ann := { slots := [(7, .one (.own 120 .str)), (8, .one (.val (.int .i64)))], objs := [(120, .buf .str)] }
def zg5 : Ann := { slots := [(7, .one (.own 120 .str))], objs := [(120, .buf .str)] }
def z87 : Nat -> Int -> List ByteArray -> Option (LR zg5 a0)
 | 0, _, _ => none
 | m + 1, s8, b120 =>
  if decide (s8 < (b120.length : Int)) = true then if (0 : Int) <= s8 then if s8 <= b120.length then if (0 : Int) <= s8 then if s8 <= b120.length then
  z87 m (IntKind.i64.wrap (s8 + ((min (b120.take s8.toNat).length (b120.length - s8.toNat) : Nat) : Int))) (b120.take s8.toNat ++ ((b120.take s8.toNat).take (b120.length - s8.toNat) ++ b120.drop (s8.toNat + min (b120.take s8.toNat).length (b120.length - s8.toNat))))
  else none else none else none else none
  else
  some (.exit (b120, ()))
def zg4 : LSpec := { h := y23, x := zg5, r := a0, xid := 0, rt := false, pins := [120], f := fun k d => z87 k d.1 d.2.1 }
def y44 : z1t := [([48], [(8, zg4)])]
def z1w (k : Nat) (a0 : List ByteArray) (a1 : Int) : Option (List ByteArray) :=
 if decide (a1 < 0) = true then
 none
 else
 (ys1 fuel (IntKind.u64.wrap ((a0.length : Int))) (IntKind.u64.wrap (a1))).bind fun r1 =>
 if decide (r1.1 > 0) = false then if decide (r1.2 > 9223372036854775807) = true then
 none
 else
 if (0 : Int) <= IntKind.i64.wrap (r1.2) then if IntKind.i64.wrap (r1.2) <= IntKind.i64.wrap (r1.2) then if (IntKind.i64.wrap (r1.2)) * 16 <= 281474976710656 then
 match z87 k ((min a0.length (List.replicate ((IntKind.i64.wrap (r1.2)).toNat) ByteArray.empty).length : Nat) : Int) (a0.take (List.replicate ((IntKind.i64.wrap (r1.2)).toNat) ByteArray.empty).length ++ (List.replicate ((IntKind.i64.wrap (r1.2)).toNat) ByteArray.empty).drop a0.length) with
 | none => none
 | some (.exit d2) =>
  some d2.1
 | some (.ret d2) =>
  none
 else none else none else none else none
def zm1 (k : Nat) : Vm.Spec := { ps := [.slice .str, .int .i64], rs := [.fresh .str], f := fun x => z1w k x.1 x.2 }
noncomputable def zp7 : Vm.Spec := zm1 fuel
theorem zx7 : Vm.Spec.holds Tryz.prog 48 zp7 := z0u (E := y5f) (L := y44) (fn := Tryz.f48) (Z := zm1) (z1f ok) (z0m (by exact ⟨⟨by kernel_rfl, yc5⟩, trivial⟩)) z0v (z07 rfl) (z01 rfl) (by kernel_rfl) (by kernel_rfl) (z0h (ls := [(8, zg4)]) rfl rfl ⟨by kernel_rfl, fun _ => rfl, fun _ _ => by kernel_rfl, z0i (by kernel_rfl)⟩) fun k x => by kernel_rfl
noncomputable def ye7 : Env := { te := te, spec := [(31, z9j), (32, z9k), (66, z6i)], body := [] }
def yb9 : z1t := []
def z6q (k : Nat) (a0 : (List (List ByteArray)) × ((List ByteArray) × (List ByteArray))) : Option (Int) :=
 if decide ((a0.1.length : Int) > 40) = false then if decide ((a0.2.2.length : Int) > 40) = true then
 some 2
 else
 (z3l fuel a0.1).bind fun r1 =>
 if (r1 != 0) = true then
 some r1
 else
 (z1v fuel a0.2.1).bind fun r2 =>
 if (r2 != 0) = true then
 some r2
 else
 (z1v fuel a0.2.2).bind fun r3 =>
 if (r3 != 0) = true then
 some r3
 else
 if ((a0.1.length : Int) != (a0.2.1.length : Int)) = false then if decide ((a0.1.length : Int) > 0) = true then
 (z5b fuel a0.1).bind fun r4 =>
 if (r4 != (a0.2.2.length : Int)) = true then
 some 3
 else
 some 0
 else
 some 0
 else
 some 3
 else
 some 2
def y1i (k : Nat) : Vm.Spec := { ps := [.pair (.slice (.slice .str)) (.pair (.slice .str) (.slice .str))], rs := [.imm (.int .i64)], f := fun x => z6q k x }
noncomputable def y2b : Vm.Spec := y1i fuel
theorem y2r : Vm.Spec.holds Tryz.prog 78 y2b := z0u (E := ye7) (L := yb9) (fn := Tryz.f78) (Z := y1i) (z1f ok) (z0m (by exact ⟨⟨by kernel_rfl, z6e⟩, ⟨by kernel_rfl, z6f⟩, ⟨by kernel_rfl, z56⟩, trivial⟩)) z0v (z07 rfl) (z01 rfl) (by kernel_rfl) (by kernel_rfl) (z0o rfl) fun k x => by kernel_rfl
noncomputable def w3h : Env := { te := te, spec := [(72, zp6), (73, zd2), (74, y6m)], body := [] }
def w0k : z1t := []
def z2n (k : Nat) (a0 : Bool × ((List Int) × (List Int))) (a1 : Bool × ((List Int) × (List Int))) : Option (Bool × ((List Int) × (List Int))) :=
 if ((a0.2.1.length : Int) == 0) = false then if ((a1.2.1.length : Int) == 0) = true then
 some (false, ([], []))
 else
 (z4v fuel a0.2.1 a1.2.1).bind fun r1 =>
 (z36 fuel a0).bind fun r2 =>
 (z36 fuel a1).bind fun r3 =>
 (z4v fuel r2 r3).bind fun r4 =>
 (zj6 fuel (!(a0.1 == a1.1)) r1 r4).bind fun r5 =>
 some r5
 else
 some (false, ([], []))
def y9q (k : Nat) : Vm.Spec := { ps := [qT, qT], rs := [.imm qT], f := fun x => z2n k x.1 x.2 }
noncomputable def zg8 : Vm.Spec := y9q fuel
theorem z6o : Vm.Spec.holds Tryz.prog 52 zg8 := z0u (E := w3h) (L := w0k) (fn := Tryz.f52) (Z := y9q) (z1f ok) (z0m (by exact ⟨⟨by kernel_rfl, z8e⟩, ⟨by kernel_rfl, z6v⟩, ⟨by kernel_rfl, zq7⟩, trivial⟩)) z0v (z07 rfl) (z01 rfl) (by kernel_rfl) (by kernel_rfl) (z0o rfl) fun k x => by kernel_rfl
noncomputable def w3k : Env := { te := te, spec := [(72, zp6), (73, zd2), (74, y6m)], body := [] }
def w0n : z1t := []
def z5n (k : Nat) (a0 : Bool × ((List Int) × (List Int))) (a1 : Bool × ((List Int) × (List Int))) : Option (Bool × ((List Int) × (List Int))) :=
 if ((a0.2.1.length : Int) == 0) = false then if ((a1.2.1.length : Int) == 0) = true then
 some (false, ([], []))
 else
 (z36 fuel a1).bind fun r1 =>
 (z4v fuel a0.2.1 r1).bind fun r2 =>
 (z36 fuel a0).bind fun r3 =>
 (z4v fuel r3 a1.2.1).bind fun r4 =>
 (zj6 fuel (!(a0.1 == a1.1)) r2 r4).bind fun r5 =>
 some r5
 else
 some (false, ([], []))
def y9t (k : Nat) : Vm.Spec := { ps := [qT, qT], rs := [.imm qT], f := fun x => z5n k x.1 x.2 }
noncomputable def y0u : Vm.Spec := y9t fuel
theorem zh3 : Vm.Spec.holds Tryz.prog 50 y0u := z0u (E := w3k) (L := w0n) (fn := Tryz.f50) (Z := y9t) (z1f ok) (z0m (by exact ⟨⟨by kernel_rfl, z8e⟩, ⟨by kernel_rfl, z6v⟩, ⟨by kernel_rfl, zq7⟩, trivial⟩)) z0v (z07 rfl) (z01 rfl) (by kernel_rfl) (by kernel_rfl) (z0o rfl) fun k x => by kernel_rfl
noncomputable def yb5 : Env := { te := te, spec := [(53, zi8), (59, zg9), (86, zo6)], body := [] }
def y8d : z1t := []
def z14 (k : Nat) (a0 : Int) (a1 : List (Bool × ((List Int) × (List Int)))) (a2 : List (Bool × ((List Int) × (List Int)))) (a3 : List (Bool × ((List Int) × (List Int)))) (a4 : Bool × ((List Int) × (List Int))) : Option ((Int × ((List ByteArray) × ((List ByteArray) × ((List ByteArray) × ByteArray)))) × Int) :=
 (z3g fuel a1).bind fun r1 =>
 if (r1.2 != 0) = true then
 some ((0, ([], ([], ([], ByteArray.empty)))), r1.2)
 else
 (z3g fuel a2).bind fun r2 =>
 if (r2.2 != 0) = true then
 some ((0, ([], ([], ([], ByteArray.empty)))), r2.2)
 else
 (z3g fuel a3).bind fun r3 =>
 if (r3.2 != 0) = true then
 some ((0, ([], ([], ([], ByteArray.empty)))), r3.2)
 else
 (z8f fuel a4).bind fun r4 =>
 if (r4 != 0) = true then
 some ((0, ([], ([], ([], ByteArray.empty)))), r4)
 else
 if (a0 == 0) = true then
 (z6u fuel a4).bind fun r5 =>
 some ((a0, (r1.1, (r2.1, (r3.1, r5)))), 0)
 else
 some ((a0, (r1.1, (r2.1, (r3.1, ByteArray.empty)))), 0)
def zz3 (k : Nat) : Vm.Spec := { ps := [.int .i64, .slice qT, .slice qT, .slice qT, qT], rs := [.imm (.pair (.int .i64) (.pair (.slice .str) (.pair (.slice .str) (.pair (.slice .str) .str)))), .imm (.int .i64)], f := fun x => z14 k x.1 x.2.1 x.2.2.1 x.2.2.2.1 x.2.2.2.2 }
noncomputable def y1e : Vm.Spec := zz3 fuel
theorem y20 : Vm.Spec.holds Tryz.prog 81 y1e := z0u (E := yb5) (L := y8d) (fn := Tryz.f81) (Z := zz3) (z1f ok) (z0m (by exact ⟨⟨by kernel_rfl, z7l⟩, ⟨by kernel_rfl, z6p⟩, ⟨by kernel_rfl, z77⟩, trivial⟩)) z0v (z07 rfl) (z01 rfl) (by kernel_rfl) (by kernel_rfl) (z0o rfl) fun k x => by kernel_rfl
end Go.Proofs.YtcdcoeofhnfjdabGreatDoor
