/- Pure functions, printed by a program of this session out of the program. -/
import Derived.Test.YtcdcoeofhnfjdabGreatDoorVmD
import Derived.Test.YtcdcoeofhnfjdabGreatDoorSh
set_option linter.unusedVariables false
namespace Go.Proofs.YtcdcoeofhnfjdabGreatDoor
open Go Vm Go.Proofs
abbrev qT : Ty := .pair .bool (.pair (.slice (.int .u32)) (.slice (.int .u32)))
def a0 : Ann := { slots := [], objs := [] }
def te : TE := [(2, ⟨.int .i64, .sc, 8⟩),
  (3, ⟨.int .i64, .sc, 8⟩),
  (4, ⟨.bool, .sc, 1⟩),
  (5, ⟨.int .u8, .sc, 1⟩),
  (9, ⟨.str, .sc, 16⟩),
  (23, ⟨.slice (.slice .str), .slice 31, 24⟩),
  (24, ⟨.str, .sc, 16⟩),
  (26, ⟨.int .i64, .sc, 8⟩),
  (30, ⟨.slice .str, .slice 24, 24⟩),
  (31, ⟨.slice .str, .slice 24, 24⟩),
  (37, ⟨.pair .str (.pair (.slice .str) (.slice .str)), .st [24, 31, 31], 64⟩),
  (42, ⟨.slice (.int .i64), .slice 3, 24⟩),
  (60, ⟨.slice (.int .u32), .slice 114, 24⟩),
  (62, ⟨qT, .st [4, 60, 60], 56⟩),
  (65, ⟨.slice (.slice (.slice .str)), .slice 23, 24⟩),
  (82, ⟨.slice (.slice qT), .slice 87, 24⟩),
  (87, ⟨.slice qT, .slice 62, 24⟩),
  (91, ⟨.pair (.slice (.slice .str)) (.pair (.slice .str) (.slice .str)), .st [23, 31, 31], 72⟩),
  (93, ⟨.pair (.int .i64) (.pair (.slice .str) (.pair (.slice .str) (.pair (.slice .str) .str))), .st [3, 31, 31, 31, 24], 96⟩),
  (100, ⟨.slice (.int .i64), .slice 26, 24⟩),
  (113, ⟨.slice (.int .u8), .slice 5, 24⟩),
  (114, ⟨.int .u32, .sc, 4⟩),
  (121, ⟨.int .u64, .sc, 8⟩),
  (125, ⟨.opq, .ptr 129, 8⟩),
  (129, ⟨.pair (.slice (.slice qT)) (.pair (.slice (.int .i64)) (.pair (.int .i64) (.int .i64))), .st [82, 42, 3, 3], 64⟩),
  (141, ⟨.int .u64, .sc, 8⟩),
  (149, ⟨.arr 9 (.int .u8), .ar 9 5, 9⟩)]
theorem ok : EOk Tryz.prog { te := te, spec := [], body := [] } := v13 (by kernel_rfl)
theorem z0v : Tryz.prog.follows .mixedOrders = true := by kernel_rfl
noncomputable def y0h : Env := { te := te, spec := [], body := [] }
def zy0 : z1u := []
def z56 (k : Nat) (a0 : ByteArray) (a1 : ByteArray) : Option (Bool) :=
 if decide ((a0.size : Int) >= (a1.size : Int)) = true then if (0 : Int) <= (a1.size : Int) then if (a1.size : Int) <= a0.size then
 some (((a0.extract 0 (a1.size : Int).toNat).toList == a1.toList))
 else none else none
 else
 some false
def zb5 (k : Nat) : Vm.Spec := { ps := [.str, .str], rs := [.imm .bool], f := fun x => z56 k x.1 x.2 }
noncomputable def zd2 : Vm.Spec := zb5 fuel
theorem zk8 : Vm.Spec.holds Tryz.prog 92 zd2 := z0u (E := y0h) (L := zy0) (fn := Tryz.f92) (Z := zb5) (z1g ok) (z0o (by exact trivial)) z0v (z07 rfl) (z01 rfl) (by kernel_rfl) (by kernel_rfl) (z0n rfl) fun k x => by kernel_rfl
noncomputable def y0g : Env := { te := te, spec := [(92, zd2)], body := [] }
def zx9 : z1u := []
def z55 (k : Nat) (a0 : ByteArray) (a1 : ByteArray) : Option (ByteArray × Bool) :=
 (z56 fuel a0 a1).bind fun r1 =>
 if (!r1) = true then
 some (a0, false)
 else
 if (0 : Int) <= (a1.size : Int) then if (a1.size : Int) <= a0.size then
 some (a0.extract (a1.size : Int).toNat a0.size, true)
 else none else none
def zb4 (k : Nat) : Vm.Spec := { ps := [.str, .str], rs := [.imm .str, .imm .bool], f := fun x => z55 k x.1 x.2 }
noncomputable def zd1 : Vm.Spec := zb4 fuel
theorem zk7 : Vm.Spec.holds Tryz.prog 67 zd1 := z0u (E := y0g) (L := zx9) (fn := Tryz.f67) (Z := zb4) (z1g ok) (z0o (by exact ⟨⟨by kernel_rfl, zk8⟩, trivial⟩)) z0v (z07 rfl) (z01 rfl) (by kernel_rfl) (by kernel_rfl) (z0n rfl) fun k x => by kernel_rfl
noncomputable def y55 : Env := { te := te, spec := [(67, zd1)], body := [] }
def y3u : z1u := []
def z2p (k : Nat) (a0 : ByteArray) (a1 : ByteArray) : Option (ByteArray × Bool) :=
 (z55 fuel a0 a1).bind fun r1 =>
 some (r1.1, r1.2)
def zl5 (k : Nat) : Vm.Spec := { ps := [.str, .str], rs := [.imm .str, .imm .bool], f := fun x => z2p k x.1 x.2 }
noncomputable def z9u : Vm.Spec := zl5 fuel
theorem z9j : Vm.Spec.holds Tryz.prog 33 z9u := z0u (E := y55) (L := y3u) (fn := Tryz.f33) (Z := zl5) (z1g ok) (z0o (by exact ⟨⟨by kernel_rfl, zk7⟩, trivial⟩)) z0v (z07 rfl) (z01 rfl) (by kernel_rfl) (by kernel_rfl) (z0n rfl) fun k x => by kernel_rfl
noncomputable def y7x : Env := { te := te, spec := [(93, Vm.sIndex)], body := [] }
def y67 : z1u := []
def z8b (k : Nat) (a0 : ByteArray) (a1 : ByteArray) : Option (ByteArray × ByteArray × Bool) :=
 (Vm.stdIndex a0 a1).bind fun r1 =>
 if decide (r1 >= 0) = true then if (0 : Int) <= r1 then if r1 <= a0.size then if (0 : Int) <= IntKind.i64.wrap (r1 + (a1.size : Int)) then if IntKind.i64.wrap (r1 + (a1.size : Int)) <= a0.size then
 some (a0.extract 0 r1.toNat, a0.extract (IntKind.i64.wrap (r1 + (a1.size : Int))).toNat a0.size, true)
 else none else none else none else none
 else
 some (a0, (⟨#[]⟩ : ByteArray), false)
def zu4 (k : Nat) : Vm.Spec := { ps := [.str, .str], rs := [.imm .str, .imm .str, .imm .bool], f := fun x => z8b k x.1 x.2 }
noncomputable def zy2 : Vm.Spec := zu4 fuel
theorem y0u : Vm.Spec.holds Tryz.prog 68 zy2 := z0u (E := y7x) (L := y67) (fn := Tryz.f68) (Z := zu4) (z1g ok) (z0o (by exact ⟨⟨by kernel_rfl, wc1⟩, trivial⟩)) z0v (z07 rfl) (z01 rfl) (by kernel_rfl) (by kernel_rfl) (z0n rfl) fun k x => by kernel_rfl
noncomputable def yt6 : Env := { te := te, spec := [(68, zy2)], body := [] }
def ym9 : z1u := []
def z5w (k : Nat) (a0 : ByteArray) (a1 : ByteArray) : Option (ByteArray × ByteArray × Bool) :=
 (z8b fuel a0 a1).bind fun r1 =>
 some (r1.1, r1.2.1, r1.2.2)
def y4a (k : Nat) : Vm.Spec := { ps := [.str, .str], rs := [.imm .str, .imm .str, .imm .bool], f := fun x => z5w k x.1 x.2 }
noncomputable def y0n : Vm.Spec := y4a fuel
theorem zq1 : Vm.Spec.holds Tryz.prog 34 y0n := z0u (E := yt6) (L := ym9) (fn := Tryz.f34) (Z := y4a) (z1g ok) (z0o (by exact ⟨⟨by kernel_rfl, y0u⟩, trivial⟩)) z0v (z07 rfl) (z01 rfl) (by kernel_rfl) (by kernel_rfl) (z0n rfl) fun k x => by kernel_rfl
noncomputable def w2z : Env := { te := te, spec := [], body := [] }
def yn7 : Ann := { slots := [(18, .one (.val (.slice (.int .u8)))), (19, .one (.val (.int .i64))), (20, .one (.val (.int .i64)))], objs := [] }
def y4k : Ann := { slots := [(2, .one (.val (.int .i64)))], objs := [] }
def z6x : Nat -> List Int -> Int -> Int -> Option (LR a0 y4k)
 | 0, _, _, _ => none
 | m + 1, s18, s19, s20 =>
  if decide (s20 < s19) = true then if (0 : Int) <= s20 then if s20 < s18.length then if decide (s18.getD s20.toNat 0 < 48) = false then if decide (s18.getD s20.toNat 0 > 57) = true then
  some (.ret (5, ()))
  else
  z6x m s18 s19 (IntKind.i64.wrap (s20 + 1))
  else
  some (.ret (5, ()))
  else none else none
  else
  some (.exit ())
def y4j : LSpec := { h := yn7, x := a0, r := y4k, xid := 0, rt := true, pins := [], f := fun k d => z6x k d.1 d.2.1 d.2.2.1 }
def w01 : z1u := [([35], [(4, y4j)])]
def z6p (k : Nat) (a0 : ByteArray) : Option (Int) :=
 if ((a0.toList == (⟨#[]⟩ : ByteArray).toList)) = false then if (0 : Int) < (a0.size : Int) then if (((a0.data.getD 0 0).toNat : Int) == 48) = true then if decide ((a0.size : Int) > 1) = true then
 some 5
 else
 match z6x k (a0.data.toList.map fun c => (c.toNat : Int)) ((a0.data.toList.map fun c => (c.toNat : Int)).length : Int) 0 with
 | none => none
 | some (.exit d1) =>
  if decide ((a0.size : Int) > 2000) = true then
  some 2
  else
  some 0
 | some (.ret d1) =>
  some d1.1
 else
 match z6x k (a0.data.toList.map fun c => (c.toNat : Int)) ((a0.data.toList.map fun c => (c.toNat : Int)).length : Int) 0 with
 | none => none
 | some (.exit d2) =>
  if decide ((a0.size : Int) > 2000) = true then
  some 2
  else
  some 0
 | some (.ret d2) =>
  some d2.1
 else none
 else
 some 5
def y95 (k : Nat) : Vm.Spec := { ps := [.str], rs := [.imm (.int .i64)], f := fun x => z6p k x }
noncomputable def ye4 : Vm.Spec := y95 fuel
theorem y8c : Vm.Spec.holds Tryz.prog 35 ye4 := z0u (E := w2z) (L := w01) (fn := Tryz.f35) (Z := y95) (z1g ok) (z0o (by exact trivial)) z0v (z07 rfl) (z01 rfl) (by kernel_rfl) (by kernel_rfl) (z0h (ls := [(4, y4j)]) rfl rfl ⟨by kernel_rfl, fun _ => rfl, fun _ _ => by kernel_rfl, z0i (by kernel_rfl)⟩) fun k x => by kernel_rfl
noncomputable def w7d : Env := { te := te, spec := [], body := [(69, Tryz.f69)] }
def yw7 : Ann := { slots := [(5, .one (.val (.int .u32))), (20, .one (.val (.slice (.int .u8)))), (21, .one (.val (.int .i64))), (22, .one (.val (.int .i64)))], objs := [] }
def y76 : Ann := { slots := [(5, .one (.val (.int .u32)))], objs := [] }
def yw6 : Ann := { slots := [(0, .one (.val .str)), (3, .one (.own 144 (.int .u32))), (4, .one (.val (.int .i64)))], objs := [(144, .buf (.int .u32))] }
def y74 : Ann := { slots := [(3, .one (.own 144 (.int .u32)))], objs := [(144, .buf (.int .u32))] }
def zx1 : Ann := { slots := [(0, .one (.pre 148 (.int .u32)))], objs := [(148, .buf (.int .u32))] }
def z9l : Ann := { slots := [(0, .one (.pre 148 (.int .u32)))], objs := [(148, .buf (.int .u32))] }
def zc3 : Nat -> Int -> List Int -> Int -> Int -> Option (LR y76 a0)
 | 0, _, _, _, _ => none
 | m + 1, s5, s20, s21, s22 =>
  if decide (s22 < s21) = true then if (0 : Int) <= s22 then if s22 < s20.length then
  zc3 m (IntKind.u32.wrap ((IntKind.u32.wrap (s5 * 10)) + (IntKind.u32.wrap (IntKind.u8.wrap ((s20.getD s22.toNat 0) - 48))))) s20 s21 (IntKind.i64.wrap (s22 + 1))
  else none else none
  else
  some (.exit (s5, ()))
def y75 : LSpec := { h := yw7, x := y76, r := a0, xid := 2, rt := false, pins := [], f := fun k d => zc3 k d.1 d.2.1 d.2.2.1 d.2.2.2.1 }
def zc2 : Nat -> ByteArray -> Int -> List Int -> Option (LR y74 a0)
 | 0, _, _, _ => none
 | m + 1, s0, s4, b144 =>
  if decide (s4 > 0) = true then if (0 : Int) <= s4 then if s4 <= s0.size then if (0 : Int) <= (if IntKind.i64.wrap (s4 - 9) > 0 then IntKind.i64.wrap (s4 - 9) else 0) then if (if IntKind.i64.wrap (s4 - 9) > 0 then IntKind.i64.wrap (s4 - 9) else 0) <= s4 then
  match zc3 m 0 ((s0.extract (if IntKind.i64.wrap (s4 - 9) > 0 then IntKind.i64.wrap (s4 - 9) else 0).toNat s4.toNat).data.toList.map fun c => (c.toNat : Int)) (((s0.extract (if IntKind.i64.wrap (s4 - 9) > 0 then IntKind.i64.wrap (s4 - 9) else 0).toNat s4.toNat).data.toList.map fun c => (c.toNat : Int)).length : Int) 0 with
  | none => none
  | some (.exit d1) =>
   if (b144.length + 1) * 4 <= 140737488355328 then
   zc2 m s0 (IntKind.i64.wrap (s4 - 9)) (b144 ++ [d1.1])
   else none
  | some (.ret d1) =>
   none
  else none else none else none else none
  else
  some (.exit (b144, ()))
def y73 : LSpec := { h := yw6, x := y74, r := a0, xid := 0, rt := false, pins := [], f := fun k d => zc2 k d.1 d.2.1 d.2.2.1 }
def z32 : Nat -> Nat -> List Int -> Option (LR z9l a0)
 | 0, _, _ => none
 | m + 1, s0, b148 =>
  if decide ((s0 : Int) > 0) = true then if (0 : Int) <= IntKind.i64.wrap ((s0 : Int) - 1) then if IntKind.i64.wrap ((s0 : Int) - 1) < s0 then if (b148.getD ((IntKind.i64.wrap ((s0 : Int) - 1)).toNat) 0 == 0) = true then if (0 : Int) <= IntKind.i64.wrap ((s0 : Int) - 1) then if IntKind.i64.wrap ((s0 : Int) - 1) <= s0 then
  z32 m ((IntKind.i64.wrap ((s0 : Int) - 1)).toNat) b148
  else none else none
  else
  some (.exit (s0, b148, ()))
  else none else none
  else
  some (.exit (s0, b148, ()))
def z9k : LSpec := { h := zx1, x := z9l, r := a0, xid := 0, rt := false, pins := [148], f := fun k d => z32 k d.1 d.2.1 }
def w3f : z1u := [([36], [(3, y73), (7, y75)]), ([69, 36], [(1, z9k)])]
def z3u (k : Nat) (a0 : ByteArray) : Option (List Int) :=
 match zc2 k a0 (a0.size : Int) [] with
 | none => none
 | some (.exit d1) =>
  match z32 k d1.1.length d1.1 with
  | none => none
  | some (.exit d2) =>
   some (d2.2.1.take d2.1)
  | some (.ret d2) =>
   none
 | some (.ret d1) =>
  none
def ye9 (k : Nat) : Vm.Spec := { ps := [.str], rs := [.fresh (.int .u32)], f := fun x => z3u k x }
noncomputable def y82 : Vm.Spec := ye9 fuel
theorem y1d : Vm.Spec.holds Tryz.prog 36 y82 := z0u (E := w7d) (L := w3f) (fn := Tryz.f36) (Z := ye9) (z1g ok) (z0o (by exact trivial)) z0v (z7p (by exact ⟨by kernel_rfl, by kernel_rfl, trivial⟩)) (z3b (by exact ⟨(z26 [[36]] (by exact ⟨z0h (ls := [(1, z9k)]) rfl rfl ⟨by kernel_rfl, fun _ => rfl, fun _ _ => by kernel_rfl, z0i (by kernel_rfl)⟩,  trivial⟩) rfl),  trivial⟩)) (by kernel_rfl) (by kernel_rfl) (z0h (ls := [(3, y73), (7, y75)]) rfl rfl ⟨by kernel_rfl, fun _ => rfl, fun _ _ => by kernel_rfl, by kernel_rfl, fun _ => rfl, fun _ _ => by kernel_rfl, z0i (by kernel_rfl)⟩) fun k x => by kernel_rfl
noncomputable def w31 : Env := { te := te, spec := [], body := [] }
def yn9 : Ann := { slots := [(0, .one (.val (.slice (.int .u32)))), (1, .one (.val (.slice (.int .u32)))), (5, .one (.val (.int .i64)))], objs := [] }
def y4o : Ann := { slots := [(4, .one (.val (.int .i64)))], objs := [] }
def z8e : Nat -> List Int -> List Int -> Int -> Option (LR a0 y4o)
 | 0, _, _, _ => none
 | m + 1, s0, s1, s5 =>
  if decide (s5 >= 0) = true then if (0 : Int) <= s5 then if s5 < s0.length then if (0 : Int) <= s5 then if s5 < s1.length then if decide (s0.getD s5.toNat 0 < s1.getD s5.toNat 0) = true then
  some (.ret ((-1), ()))
  else
  if (0 : Int) <= s5 then if s5 < s0.length then if (0 : Int) <= s5 then if s5 < s1.length then if decide (s0.getD s5.toNat 0 > s1.getD s5.toNat 0) = true then
  some (.ret (1, ()))
  else
  z8e m s0 s1 (IntKind.i64.wrap (s5 - 1))
  else none else none else none else none else none else none else none else none
  else
  some (.exit ())
def y4n : LSpec := { h := yn9, x := a0, r := y4o, xid := 0, rt := true, pins := [], f := fun k d => z8e k d.1 d.2.1 d.2.2.1 }
def w03 : z1u := [([38], [(6, y4n)])]
def z4s (k : Nat) (a0 : List Int) (a1 : List Int) : Option (Int) :=
 if ((a0.length : Int) != (a1.length : Int)) = true then if decide ((a0.length : Int) < (a1.length : Int)) = true then
 some (-1)
 else
 some 1
 else
 match z8e k a0 a1 (IntKind.i64.wrap ((a0.length : Int) - 1)) with
 | none => none
 | some (.exit d1) =>
  some 0
 | some (.ret d1) =>
  some d1.1
def y97 (k : Nat) : Vm.Spec := { ps := [.slice (.int .u32), .slice (.int .u32)], rs := [.imm (.int .i64)], f := fun x => z4s k x.1 x.2 }
noncomputable def zo7 : Vm.Spec := y97 fuel
theorem z85 : Vm.Spec.holds Tryz.prog 38 zo7 := z0u (E := w31) (L := w03) (fn := Tryz.f38) (Z := y97) (z1g ok) (z0o (by exact trivial)) z0v (z07 rfl) (z01 rfl) (by kernel_rfl) (by kernel_rfl) (z0h (ls := [(6, y4n)]) rfl rfl ⟨by kernel_rfl, fun _ => rfl, fun _ _ => by kernel_rfl, z0i (by kernel_rfl)⟩) fun k x => by kernel_rfl
noncomputable def w34 : Env := { te := te, spec := [], body := [(69, Tryz.f69)] }
def yo3 : Ann := { slots := [(5, .one (.own 68 (.int .u32))), (6, .one (.val (.int .i64))), (7, .one (.val (.int .u32))), (8, .one (.val (.int .u64))), (25, .one (.val (.slice (.int .u32)))), (26, .one (.val (.int .i64))), (27, .one (.val (.int .i64)))], objs := [(68, .buf (.int .u32))] }
def y4w : Ann := { slots := [(5, .one (.own 68 (.int .u32))), (8, .one (.val (.int .u64)))], objs := [(68, .buf (.int .u32))] }
def yo2 : Ann := { slots := [(1, .one (.val (.slice (.int .u32)))), (5, .one (.own 68 (.int .u32))), (18, .one (.val (.slice (.int .u32)))), (19, .one (.val (.int .i64))), (20, .one (.val (.int .i64)))], objs := [(68, .buf (.int .u32))] }
def y4u : Ann := { slots := [(5, .one (.own 68 (.int .u32)))], objs := [(68, .buf (.int .u32))] }
def zt7 : Ann := { slots := [(0, .one (.pre 68 (.int .u32)))], objs := [(68, .buf (.int .u32))] }
def z8z : Ann := { slots := [(0, .one (.pre 68 (.int .u32)))], objs := [(68, .buf (.int .u32))] }
def z8h : Nat -> Int -> Int -> Int -> List Int -> Int -> Int -> List Int -> Option (LR y4w a0)
 | 0, _, _, _, _, _, _, _ => none
 | m + 1, s6, s7, s8, s25, s26, s27, b68 =>
  if decide (s27 < s26) = true then if (0 : Int) <= s27 then if s27 < s25.length then if (0 : Int) <= IntKind.i64.wrap (s6 + s27) then if IntKind.i64.wrap (s6 + s27) < b68.length then if (0 : Int) <= IntKind.i64.wrap (s6 + s27) then if IntKind.i64.wrap (s6 + s27) < b68.length then
  z8h m s6 s7 (IntKind.u64.wrap ((IntKind.u64.wrap ((IntKind.u64.wrap ((IntKind.u64.wrap ((IntKind.u64.wrap (s7)) * (IntKind.u64.wrap (s25.getD s27.toNat 0)))) + (IntKind.u64.wrap (b68.getD ((IntKind.i64.wrap (s6 + s27)).toNat) 0)))) + s8)).tdiv 1000000000)) s25 s26 (IntKind.i64.wrap (s27 + 1)) (b68.set ((IntKind.i64.wrap (s6 + s27)).toNat) (IntKind.u32.wrap ((IntKind.u64.wrap ((IntKind.u64.wrap ((IntKind.u64.wrap ((IntKind.u64.wrap (s7)) * (IntKind.u64.wrap (s25.getD s27.toNat 0)))) + (IntKind.u64.wrap (b68.getD ((IntKind.i64.wrap (s6 + s27)).toNat) 0)))) + s8)).tmod 1000000000)))
  else none else none else none else none else none else none
  else
  some (.exit (s8, b68, ()))
def y4v : LSpec := { h := yo3, x := y4w, r := a0, xid := 2, rt := false, pins := [68], f := fun k d => z8h k d.1 d.2.1 d.2.2.1 d.2.2.2.1 d.2.2.2.2.1 d.2.2.2.2.2.1 d.2.2.2.2.2.2.1 }
def z8g : Nat -> List Int -> List Int -> Int -> Int -> List Int -> Option (LR y4u a0)
 | 0, _, _, _, _, _ => none
 | m + 1, s1, s18, s19, s20, b68 =>
  if decide (s20 < s19) = true then if (0 : Int) <= s20 then if s20 < s18.length then
  match z8h m s20 (s18.getD s20.toNat 0) 0 s1 (s1.length : Int) 0 b68 with
  | none => none
  | some (.exit d1) =>
   if (0 : Int) <= IntKind.i64.wrap (s20 + (s1.length : Int)) then if IntKind.i64.wrap (s20 + (s1.length : Int)) < d1.2.1.length then
   z8g m s1 s18 s19 (IntKind.i64.wrap (s20 + 1)) (d1.2.1.set ((IntKind.i64.wrap (s20 + (s1.length : Int))).toNat) (IntKind.u32.wrap (d1.1)))
   else none else none
  | some (.ret d1) =>
   none
  else none else none
  else
  some (.exit (b68, ()))
def y4t : LSpec := { h := yo2, x := y4u, r := a0, xid := 0, rt := false, pins := [68], f := fun k d => z8g k d.1 d.2.1 d.2.2.1 d.2.2.2.1 d.2.2.2.2.1 }
def z30 : Nat -> Nat -> List Int -> Option (LR z8z a0)
 | 0, _, _ => none
 | m + 1, s0, b68 =>
  if decide ((s0 : Int) > 0) = true then if (0 : Int) <= IntKind.i64.wrap ((s0 : Int) - 1) then if IntKind.i64.wrap ((s0 : Int) - 1) < s0 then if (b68.getD ((IntKind.i64.wrap ((s0 : Int) - 1)).toNat) 0 == 0) = true then if (0 : Int) <= IntKind.i64.wrap ((s0 : Int) - 1) then if IntKind.i64.wrap ((s0 : Int) - 1) <= s0 then
  z30 m ((IntKind.i64.wrap ((s0 : Int) - 1)).toNat) b68
  else none else none
  else
  some (.exit (s0, b68, ()))
  else none else none
  else
  some (.exit (s0, b68, ()))
def z8y : LSpec := { h := zt7, x := z8z, r := a0, xid := 0, rt := false, pins := [68], f := fun k d => z30 k d.1 d.2.1 }
def w06 : z1u := [([72], [(3, y4t), (7, y4v)]), ([69, 72], [(1, z8y)])]
def z4t (k : Nat) (a0 : List Int) (a1 : List Int) : Option (List Int) :=
 if (0 : Int) <= IntKind.i64.wrap ((a0.length : Int) + (a1.length : Int)) then if IntKind.i64.wrap ((a0.length : Int) + (a1.length : Int)) <= IntKind.i64.wrap ((a0.length : Int) + (a1.length : Int)) then if (IntKind.i64.wrap ((a0.length : Int) + (a1.length : Int))) * 4 <= 281474976710656 then
 match z8g k a1 a0 (a0.length : Int) 0 (List.replicate ((IntKind.i64.wrap ((a0.length : Int) + (a1.length : Int))).toNat) 0) with
 | none => none
 | some (.exit d1) =>
  match z30 k d1.1.length d1.1 with
  | none => none
  | some (.exit d2) =>
   some (d2.2.1.take d2.1)
  | some (.ret d2) =>
   none
 | some (.ret d1) =>
  none
 else none else none else none
def y9a (k : Nat) : Vm.Spec := { ps := [.slice (.int .u32), .slice (.int .u32)], rs := [.fresh (.int .u32)], f := fun x => z4t k x.1 x.2 }
noncomputable def zo8 : Vm.Spec := y9a fuel
theorem z86 : Vm.Spec.holds Tryz.prog 72 zo8 := z0u (E := w34) (L := w06) (fn := Tryz.f72) (Z := y9a) (z1g ok) (z0o (by exact trivial)) z0v (z7p (by exact ⟨by kernel_rfl, by kernel_rfl, trivial⟩)) (z3b (by exact ⟨(z26 [[72]] (by exact ⟨z0h (ls := [(1, z8y)]) rfl rfl ⟨by kernel_rfl, fun _ => rfl, fun _ _ => by kernel_rfl, z0i (by kernel_rfl)⟩,  trivial⟩) rfl),  trivial⟩)) (by kernel_rfl) (by kernel_rfl) (z0h (ls := [(3, y4t), (7, y4v)]) rfl rfl ⟨by kernel_rfl, fun _ => rfl, fun _ _ => by kernel_rfl, by kernel_rfl, fun _ => rfl, fun _ _ => by kernel_rfl, z0i (by kernel_rfl)⟩) fun k x => by kernel_rfl
noncomputable def w35 : Env := { te := te, spec := [], body := [(69, Tryz.f69)] }
def yo4 : Ann := { slots := [(0, .one (.val (.slice (.int .u32)))), (1, .one (.val (.slice (.int .u32)))), (5, .one (.own 44 (.int .u32))), (6, .one (.val (.int .i64))), (13, .one (.val (.int .i64))), (14, .one (.val (.int .i64)))], objs := [(44, .buf (.int .u32))] }
def y4y : Ann := { slots := [(5, .one (.own 44 (.int .u32)))], objs := [(44, .buf (.int .u32))] }
def zt8 : Ann := { slots := [(0, .one (.pre 44 (.int .u32)))], objs := [(44, .buf (.int .u32))] }
def z91 : Ann := { slots := [(0, .one (.pre 44 (.int .u32)))], objs := [(44, .buf (.int .u32))] }
def z4d : Nat -> List Int -> List Int -> Int -> Int -> Int -> List Int -> Option (LR y4y a0)
 | 0, _, _, _, _, _, _ => none
 | m + 1, s0, s1, s6, s13, s14, b44 =>
  if decide (s14 < s13) = true then if (0 : Int) <= s14 then if s14 < s0.length then if decide (s14 < (s1.length : Int)) = true then if (0 : Int) <= s14 then if s14 < s1.length then if decide (IntKind.i64.wrap ((IntKind.i64.wrap ((IntKind.i64.wrap (s0.getD s14.toNat 0)) - s6)) - (IntKind.i64.wrap (s1.getD s14.toNat 0))) < 0) = true then if (0 : Int) <= s14 then if s14 < b44.length then
  z4d m s0 s1 1 s13 (IntKind.i64.wrap (s14 + 1)) (b44.set s14.toNat (IntKind.u32.wrap (IntKind.i64.wrap ((IntKind.i64.wrap ((IntKind.i64.wrap ((IntKind.i64.wrap (s0.getD s14.toNat 0)) - s6)) - (IntKind.i64.wrap (s1.getD s14.toNat 0)))) + 1000000000))))
  else none else none
  else
  if (0 : Int) <= s14 then if s14 < b44.length then
  z4d m s0 s1 0 s13 (IntKind.i64.wrap (s14 + 1)) (b44.set s14.toNat (IntKind.u32.wrap (IntKind.i64.wrap ((IntKind.i64.wrap ((IntKind.i64.wrap (s0.getD s14.toNat 0)) - s6)) - (IntKind.i64.wrap (s1.getD s14.toNat 0))))))
  else none else none else none else none
  else
  if decide (IntKind.i64.wrap ((IntKind.i64.wrap (s0.getD s14.toNat 0)) - s6) < 0) = true then if (0 : Int) <= s14 then if s14 < b44.length then
  z4d m s0 s1 1 s13 (IntKind.i64.wrap (s14 + 1)) (b44.set s14.toNat (IntKind.u32.wrap (IntKind.i64.wrap ((IntKind.i64.wrap ((IntKind.i64.wrap (s0.getD s14.toNat 0)) - s6)) + 1000000000))))
  else none else none
  else
  if (0 : Int) <= s14 then if s14 < b44.length then
  z4d m s0 s1 0 s13 (IntKind.i64.wrap (s14 + 1)) (b44.set s14.toNat (IntKind.u32.wrap (IntKind.i64.wrap ((IntKind.i64.wrap (s0.getD s14.toNat 0)) - s6))))
  else none else none else none else none
  else
  some (.exit (b44, ()))
def y4x : LSpec := { h := yo4, x := y4y, r := a0, xid := 0, rt := false, pins := [44], f := fun k d => z4d k d.1 d.2.1 d.2.2.1 d.2.2.2.1 d.2.2.2.2.1 d.2.2.2.2.2.1 }
def z31 : Nat -> Nat -> List Int -> Option (LR z91 a0)
 | 0, _, _ => none
 | m + 1, s0, b44 =>
  if decide ((s0 : Int) > 0) = true then if (0 : Int) <= IntKind.i64.wrap ((s0 : Int) - 1) then if IntKind.i64.wrap ((s0 : Int) - 1) < s0 then if (b44.getD ((IntKind.i64.wrap ((s0 : Int) - 1)).toNat) 0 == 0) = true then if (0 : Int) <= IntKind.i64.wrap ((s0 : Int) - 1) then if IntKind.i64.wrap ((s0 : Int) - 1) <= s0 then
  z31 m ((IntKind.i64.wrap ((s0 : Int) - 1)).toNat) b44
  else none else none
  else
  some (.exit (s0, b44, ()))
  else none else none
  else
  some (.exit (s0, b44, ()))
def z90 : LSpec := { h := zt8, x := z91, r := a0, xid := 0, rt := false, pins := [44], f := fun k d => z31 k d.1 d.2.1 }
def w07 : z1u := [([76], [(4, y4x)]), ([69, 76], [(1, z90)])]
def zp9 (k : Nat) (a0 : List Int) (a1 : List Int) : Option (List Int) :=
 if (0 : Int) <= (a0.length : Int) then if (a0.length : Int) <= (a0.length : Int) then if (a0.length : Int) * 4 <= 281474976710656 then
 match z4d k a0 a1 0 (a0.length : Int) 0 (List.replicate ((a0.length : Int).toNat) 0) with
 | none => none
 | some (.exit d1) =>
  match z31 k d1.1.length d1.1 with
  | none => none
  | some (.exit d2) =>
   some (d2.2.1.take d2.1)
  | some (.ret d2) =>
   none
 | some (.ret d1) =>
  none
 else none else none else none
def y9b (k : Nat) : Vm.Spec := { ps := [.slice (.int .u32), .slice (.int .u32)], rs := [.fresh (.int .u32)], f := fun x => zp9 k x.1 x.2 }
noncomputable def ye6 : Vm.Spec := y9b fuel
theorem y8e : Vm.Spec.holds Tryz.prog 76 ye6 := z0u (E := w35) (L := w07) (fn := Tryz.f76) (Z := y9b) (z1g ok) (z0o (by exact trivial)) z0v (z7p (by exact ⟨by kernel_rfl, by kernel_rfl, trivial⟩)) (z3b (by exact ⟨(z26 [[76]] (by exact ⟨z0h (ls := [(1, z90)]) rfl rfl ⟨by kernel_rfl, fun _ => rfl, fun _ _ => by kernel_rfl, z0i (by kernel_rfl)⟩,  trivial⟩) rfl),  trivial⟩)) (by kernel_rfl) (by kernel_rfl) (z0h (ls := [(4, y4x)]) rfl rfl ⟨by kernel_rfl, fun _ => rfl, fun _ _ => by kernel_rfl, z0i (by kernel_rfl)⟩) fun k x => by kernel_rfl
noncomputable def yz7 : Env := { te := te, spec := [], body := [] }
def yi8 : Ann := { slots := [(0, .one (.val (.slice (.int .u32))))], objs := [] }
def y2v : Ann := { slots := [(0, .one (.val (.slice (.int .u32))))], objs := [] }
def z7b : Nat -> List Int -> Option (LR y2v a0)
 | 0, _ => none
 | m + 1, s0 =>
  if decide ((s0.length : Int) > 0) = true then if (0 : Int) <= IntKind.i64.wrap ((s0.length : Int) - 1) then if IntKind.i64.wrap ((s0.length : Int) - 1) < s0.length then if (s0.getD ((IntKind.i64.wrap ((s0.length : Int) - 1)).toNat) 0 == 0) = true then if (0 : Int) <= IntKind.i64.wrap ((s0.length : Int) - 1) then if IntKind.i64.wrap ((s0.length : Int) - 1) <= s0.length then
  z7b m ((s0.take (IntKind.i64.wrap ((s0.length : Int) - 1)).toNat).drop 0)
  else none else none
  else
  some (.exit (s0, ()))
  else none else none
  else
  some (.exit (s0, ()))
def y2u : LSpec := { h := yi8, x := y2v, r := a0, xid := 0, rt := false, pins := [], f := fun k d => z7b k d.1 }
def yu2 : z1u := [([69], [(1, y2u)])]
def z7s (k : Nat) (a0 : List Int) : Option (List Int) :=
 match z7b k a0 with
 | none => none
 | some (.exit d1) =>
  some d1.1
 | some (.ret d1) =>
  none
def y6h (k : Nat) : Vm.Spec := { ps := [.slice (.int .u32)], rs := [.imm (.slice (.int .u32))], f := fun x => z7s k x }
noncomputable def y1z : Vm.Spec := y6h fuel
theorem zu7 : Vm.Spec.holds Tryz.prog 69 y1z := z0u (E := yz7) (L := yu2) (fn := Tryz.f69) (Z := y6h) (z1g ok) (z0o (by exact trivial)) z0v (z07 rfl) (z01 rfl) (by kernel_rfl) (by kernel_rfl) (z0h (ls := [(1, y2u)]) rfl rfl ⟨by kernel_rfl, fun _ => rfl, fun _ _ => by kernel_rfl, z0i (by kernel_rfl)⟩) fun k x => by kernel_rfl
noncomputable def yt4 : Env := { te := te, spec := [(69, y1z)], body := [] }
def yb9 : Ann := { slots := [(0, .one (.val (.slice (.int .u32)))), (1, .one (.val (.int .u32))), (6, .one (.own 44 (.int .u32))), (7, .one (.val (.int .u64))), (8, .one (.val (.int .i64)))], objs := [(44, .buf (.int .u32))] }
def y1i : Ann := { slots := [(6, .one (.own 44 (.int .u32))), (7, .one (.val (.int .u64)))], objs := [(44, .buf (.int .u32))] }
def z5o : Nat -> List Int -> Int -> Int -> Int -> List Int -> Option (LR y1i a0)
 | 0, _, _, _, _, _ => none
 | m + 1, s0, s1, s7, s8, b44 =>
  if decide (s8 >= 0) = true then if (0 : Int) <= s8 then if s8 < s0.length then if IntKind.u64.wrap (s1) = 0 then
  none
  else
  if (0 : Int) <= s8 then if s8 < b44.length then if IntKind.u64.wrap (s1) = 0 then
  none
  else
  z5o m s0 s1 ((IntKind.u64.wrap ((IntKind.u64.wrap (s7 * 1000000000)) + (IntKind.u64.wrap (s0.getD s8.toNat 0)))).tmod (IntKind.u64.wrap (s1))) (IntKind.i64.wrap (s8 - 1)) (b44.set s8.toNat (IntKind.u32.wrap (IntKind.u64.wrap ((IntKind.u64.wrap ((IntKind.u64.wrap (s7 * 1000000000)) + (IntKind.u64.wrap (s0.getD s8.toNat 0)))).tdiv (IntKind.u64.wrap (s1))))))
  else none else none else none else none
  else
  some (.exit (s7, b44, ()))
def y1h : LSpec := { h := yb9, x := y1i, r := a0, xid := 0, rt := false, pins := [44], f := fun k d => z5o k d.1 d.2.1 d.2.2.1 d.2.2.2.1 d.2.2.2.2.1 }
def ym7 : z1u := [([94], [(4, y1h)])]
def zd7 (k : Nat) (a0 : List Int) (a1 : Int) : Option ((List Int) × (List Int)) :=
 if (0 : Int) <= (a0.length : Int) then if (a0.length : Int) <= (a0.length : Int) then if (a0.length : Int) * 4 <= 281474976710656 then
 match z5o k a0 a1 0 (IntKind.i64.wrap ((a0.length : Int) - 1)) (List.replicate ((a0.length : Int).toNat) 0) with
 | none => none
 | some (.exit d1) =>
  (z7s fuel d1.2.1).bind fun r2 =>
  (z7s fuel [IntKind.u32.wrap (d1.1)]).bind fun r3 =>
  some (r2, r3)
 | some (.ret d1) =>
  none
 else none else none else none
def y48 (k : Nat) : Vm.Spec := { ps := [.slice (.int .u32), .int .u32], rs := [.imm (.slice (.int .u32)), .imm (.slice (.int .u32))], f := fun x => zd7 k x.1 x.2 }
noncomputable def y6a : Vm.Spec := y48 fuel
theorem y5i : Vm.Spec.holds Tryz.prog 94 y6a := z0u (E := yt4) (L := ym7) (fn := Tryz.f94) (Z := y48) (z1g ok) (z0o (by exact ⟨⟨by kernel_rfl, zu7⟩, trivial⟩)) z0v (z07 rfl) (z01 rfl) (by kernel_rfl) (by kernel_rfl) (z0h (ls := [(4, y1h)]) rfl rfl ⟨by kernel_rfl, fun _ => rfl, fun _ _ => by kernel_rfl, z0i (by kernel_rfl)⟩) fun k x => by kernel_rfl
noncomputable def w32 : Env := { te := te, spec := [(38, zo7), (69, y1z), (72, zo8), (94, y6a)], body := [(95, Tryz.f95), (96, Tryz.f96)] }
def yo0 : Ann := { slots := [(0, .one (.val (.slice (.int .u32)))), (7, .one (.own 188 (.int .u32)))], objs := [(188, .buf (.int .u32))] }
def y4q : Ann := { slots := [(7, .one (.own 188 (.int .u32)))], objs := [(188, .buf (.int .u32))] }
def yi6 : Ann := { slots := [(7, .one (.own 188 (.int .u32))), (8, .one (.own 204 (.int .u32))), (9, .one (.val (.int .i64))), (11, .one (.val (.int .i64))), (13, .one (.val (.int .u64))), (14, .one (.val (.int .u64)))], objs := [(188, .buf (.int .u32)), (204, .buf (.int .u32))] }
def zr4 : Ann := { slots := [(7, .one (.own 188 (.int .u32))), (8, .one (.own 204 (.int .u32))), (13, .one (.val (.int .u64)))], objs := [(188, .buf (.int .u32)), (204, .buf (.int .u32))] }
def zr3 : Ann := { slots := [], objs := [] }
def zr5 : Ann := { slots := [(0, .one (.own 188 (.int .u32))), (1, .one (.own 204 (.int .u32))), (2, .one (.val (.int .i64))), (3, .one (.val (.int .u64))), (9, .one (.val (.int .i64))), (10, .one (.val (.int .u64))), (11, .one (.val (.int .i64)))], objs := [(188, .buf (.int .u32)), (204, .buf (.int .u32))] }
def z7x : Ann := { slots := [(9, .one (.val (.int .i64)))], objs := [(188, .buf (.int .u32)), (204, .buf (.int .u32))] }
def zt6 : Ann := { slots := [(0, .one (.own 188 (.int .u32))), (1, .one (.own 204 (.int .u32))), (2, .one (.val (.int .i64))), (6, .one (.val (.int .u32))), (7, .one (.val (.int .i64)))], objs := [(188, .buf (.int .u32)), (204, .buf (.int .u32))] }
def z8x : Ann := { slots := [], objs := [(188, .buf (.int .u32)), (204, .buf (.int .u32))] }
def yo8 : List (Nat × OSh) := [(188, .buf (.int .u32)), (204, .buf (.int .u32)), (264, .buf (.int .u32))]
def yi5 : Ann := { slots := [(7, .one (.own 188 (.int .u32))), (8, .one (.own 204 (.int .u32))), (9, .one (.val (.int .i64))), (10, .one (.own 264 (.int .u32))), (11, .one (.val (.int .i64)))], objs := yo8 }
def yo9 : List (Nat × OSh) := [(188, .buf (.int .u32)), (264, .buf (.int .u32)), (204, .buf (.int .u32))]
def y2q : Ann := { slots := [(7, .one (.own 188 (.int .u32))), (10, .one (.own 264 (.int .u32)))], objs := yo9 }
def zf0 : Nat -> List Int -> List Int -> Option (LR y4q a0)
 | 0, _, _ => none
 | m + 1, s0, b188 =>
  if decide ((b188.length : Int) <= (s0.length : Int)) = true then if (b188.length + 1) * 4 <= 140737488355328 then
  zf0 m s0 (b188 ++ [0])
  else none
  else
  some (.exit (b188, ()))
def y4p : LSpec := { h := yo0, x := y4q, r := a0, xid := 0, rt := false, pins := [], f := fun k d => zf0 k d.1 d.2.1 }
def z6a : Nat -> Int -> Int -> Int -> Int -> List Int -> List Int -> Option (LR zr4 zr3)
 | 0, _, _, _, _, _, _ => none
 | m + 1, s9, s11, s13, s14, b188, b204 =>
  if decide (s13 >= 1000000000) = false then if (0 : Int) <= IntKind.i64.wrap (s9 - 2) then if IntKind.i64.wrap (s9 - 2) < b204.length then if (0 : Int) <= IntKind.i64.wrap ((IntKind.i64.wrap (s11 + s9)) - 2) then if IntKind.i64.wrap ((IntKind.i64.wrap (s11 + s9)) - 2) < b188.length then if decide (IntKind.u64.wrap (s13 * (IntKind.u64.wrap (b204.getD ((IntKind.i64.wrap (s9 - 2)).toNat) 0))) > IntKind.u64.wrap ((IntKind.u64.wrap (s14 * 1000000000)) + (IntKind.u64.wrap (b188.getD ((IntKind.i64.wrap ((IntKind.i64.wrap (s11 + s9)) - 2)).toNat) 0)))) = true then if (0 : Int) <= IntKind.i64.wrap (s9 - 1) then if IntKind.i64.wrap (s9 - 1) < b204.length then if decide (IntKind.u64.wrap (s14 + (IntKind.u64.wrap (b204.getD ((IntKind.i64.wrap (s9 - 1)).toNat) 0))) >= 1000000000) = true then
  some (.exit (IntKind.u64.wrap (s13 - 1), b188, b204, ()))
  else
  z6a m s9 s11 (IntKind.u64.wrap (s13 - 1)) (IntKind.u64.wrap (s14 + (IntKind.u64.wrap (b204.getD ((IntKind.i64.wrap (s9 - 1)).toNat) 0)))) b188 b204
  else none else none
  else
  some (.exit (s13, b188, b204, ()))
  else none else none else none else none
  else
  if (0 : Int) <= IntKind.i64.wrap (s9 - 1) then if IntKind.i64.wrap (s9 - 1) < b204.length then if decide (IntKind.u64.wrap (s14 + (IntKind.u64.wrap (b204.getD ((IntKind.i64.wrap (s9 - 1)).toNat) 0))) >= 1000000000) = true then
  some (.exit (IntKind.u64.wrap (s13 - 1), b188, b204, ()))
  else
  z6a m s9 s11 (IntKind.u64.wrap (s13 - 1)) (IntKind.u64.wrap (s14 + (IntKind.u64.wrap (b204.getD ((IntKind.i64.wrap (s9 - 1)).toNat) 0)))) b188 b204
  else none else none
def y2r : LSpec := { h := yi6, x := zr4, r := zr3, xid := 4, rt := false, pins := [188, 204], f := fun k d => z6a k d.1 d.2.1 d.2.2.1 d.2.2.2.1 d.2.2.2.2.1 d.2.2.2.2.2.1 }
def z13 : Nat -> Int -> Int -> Int -> Int -> Int -> List Int -> List Int -> Option (LR z7x a0)
 | 0, _, _, _, _, _, _, _ => none
 | m + 1, s2, s3, s9, s10, s11, b188, b204 =>
  if decide (s11 <= (b204.length : Int)) = true then if decide (s11 < (b204.length : Int)) = true then if (0 : Int) <= s11 then if s11 < b204.length then if (0 : Int) <= IntKind.i64.wrap (s2 + s11) then if IntKind.i64.wrap (s2 + s11) < b188.length then if decide (IntKind.i64.wrap ((IntKind.i64.wrap ((IntKind.i64.wrap (b188.getD ((IntKind.i64.wrap (s2 + s11)).toNat) 0)) - (IntKind.i64.wrap ((IntKind.u64.wrap (s10 + (IntKind.u64.wrap (s3 * (IntKind.u64.wrap (b204.getD s11.toNat 0)))))).tmod 1000000000)))) - s9) < 0) = true then if (0 : Int) <= IntKind.i64.wrap (s2 + s11) then if IntKind.i64.wrap (s2 + s11) < b188.length then
  z13 m s2 s3 1 (IntKind.u64.wrap ((IntKind.u64.wrap (s10 + (IntKind.u64.wrap (s3 * (IntKind.u64.wrap (b204.getD s11.toNat 0)))))).tdiv 1000000000)) (IntKind.i64.wrap (s11 + 1)) (b188.set ((IntKind.i64.wrap (s2 + s11)).toNat) (IntKind.u32.wrap (IntKind.i64.wrap ((IntKind.i64.wrap ((IntKind.i64.wrap ((IntKind.i64.wrap (b188.getD ((IntKind.i64.wrap (s2 + s11)).toNat) 0)) - (IntKind.i64.wrap ((IntKind.u64.wrap (s10 + (IntKind.u64.wrap (s3 * (IntKind.u64.wrap (b204.getD s11.toNat 0)))))).tmod 1000000000)))) - s9)) + 1000000000)))) b204
  else none else none
  else
  if (0 : Int) <= IntKind.i64.wrap (s2 + s11) then if IntKind.i64.wrap (s2 + s11) < b188.length then
  z13 m s2 s3 0 (IntKind.u64.wrap ((IntKind.u64.wrap (s10 + (IntKind.u64.wrap (s3 * (IntKind.u64.wrap (b204.getD s11.toNat 0)))))).tdiv 1000000000)) (IntKind.i64.wrap (s11 + 1)) (b188.set ((IntKind.i64.wrap (s2 + s11)).toNat) (IntKind.u32.wrap (IntKind.i64.wrap ((IntKind.i64.wrap ((IntKind.i64.wrap (b188.getD ((IntKind.i64.wrap (s2 + s11)).toNat) 0)) - (IntKind.i64.wrap ((IntKind.u64.wrap (s10 + (IntKind.u64.wrap (s3 * (IntKind.u64.wrap (b204.getD s11.toNat 0)))))).tmod 1000000000)))) - s9)))) b204
  else none else none else none else none else none else none
  else
  if (0 : Int) <= IntKind.i64.wrap (s2 + s11) then if IntKind.i64.wrap (s2 + s11) < b188.length then if decide (IntKind.i64.wrap ((IntKind.i64.wrap ((IntKind.i64.wrap (b188.getD ((IntKind.i64.wrap (s2 + s11)).toNat) 0)) - (IntKind.i64.wrap (s10.tmod 1000000000)))) - s9) < 0) = true then if (0 : Int) <= IntKind.i64.wrap (s2 + s11) then if IntKind.i64.wrap (s2 + s11) < b188.length then
  z13 m s2 s3 1 (IntKind.u64.wrap (s10.tdiv 1000000000)) (IntKind.i64.wrap (s11 + 1)) (b188.set ((IntKind.i64.wrap (s2 + s11)).toNat) (IntKind.u32.wrap (IntKind.i64.wrap ((IntKind.i64.wrap ((IntKind.i64.wrap ((IntKind.i64.wrap (b188.getD ((IntKind.i64.wrap (s2 + s11)).toNat) 0)) - (IntKind.i64.wrap (s10.tmod 1000000000)))) - s9)) + 1000000000)))) b204
  else none else none
  else
  if (0 : Int) <= IntKind.i64.wrap (s2 + s11) then if IntKind.i64.wrap (s2 + s11) < b188.length then
  z13 m s2 s3 0 (IntKind.u64.wrap (s10.tdiv 1000000000)) (IntKind.i64.wrap (s11 + 1)) (b188.set ((IntKind.i64.wrap (s2 + s11)).toNat) (IntKind.u32.wrap (IntKind.i64.wrap ((IntKind.i64.wrap ((IntKind.i64.wrap (b188.getD ((IntKind.i64.wrap (s2 + s11)).toNat) 0)) - (IntKind.i64.wrap (s10.tmod 1000000000)))) - s9)))) b204
  else none else none else none else none
  else
  some (.exit (s9, b188, b204, ()))
def z7w : LSpec := { h := zr5, x := z7x, r := a0, xid := 0, rt := false, pins := [188, 204], f := fun k d => z13 k d.1 d.2.1 d.2.2.1 d.2.2.2.1 d.2.2.2.2.1 d.2.2.2.2.2.1 d.2.2.2.2.2.2.1 }
def z1t : Nat -> Int -> Int -> Int -> List Int -> List Int -> Option (LR z8x a0)
 | 0, _, _, _, _, _ => none
 | m + 1, s2, s6, s7, b188, b204 =>
  if decide (s7 <= (b204.length : Int)) = true then if (0 : Int) <= IntKind.i64.wrap (s2 + s7) then if IntKind.i64.wrap (s2 + s7) < b188.length then if decide (s7 < (b204.length : Int)) = true then if (0 : Int) <= s7 then if s7 < b204.length then if (0 : Int) <= IntKind.i64.wrap (s2 + s7) then if IntKind.i64.wrap (s2 + s7) < b188.length then
  z1t m s2 (IntKind.u32.wrap ((IntKind.u32.wrap ((IntKind.u32.wrap ((b188.getD ((IntKind.i64.wrap (s2 + s7)).toNat) 0) + s6)) + (b204.getD s7.toNat 0))).tdiv 1000000000)) (IntKind.i64.wrap (s7 + 1)) (b188.set ((IntKind.i64.wrap (s2 + s7)).toNat) ((IntKind.u32.wrap ((IntKind.u32.wrap ((b188.getD ((IntKind.i64.wrap (s2 + s7)).toNat) 0) + s6)) + (b204.getD s7.toNat 0))).tmod 1000000000)) b204
  else none else none else none else none
  else
  if (0 : Int) <= IntKind.i64.wrap (s2 + s7) then if IntKind.i64.wrap (s2 + s7) < b188.length then
  z1t m s2 (IntKind.u32.wrap ((IntKind.u32.wrap ((b188.getD ((IntKind.i64.wrap (s2 + s7)).toNat) 0) + s6)).tdiv 1000000000)) (IntKind.i64.wrap (s7 + 1)) (b188.set ((IntKind.i64.wrap (s2 + s7)).toNat) ((IntKind.u32.wrap ((b188.getD ((IntKind.i64.wrap (s2 + s7)).toNat) 0) + s6)).tmod 1000000000)) b204
  else none else none else none else none
  else
  some (.exit (b188, b204, ()))
def z8w : LSpec := { h := zt6, x := z8x, r := a0, xid := 0, rt := false, pins := [188, 204], f := fun k d => z1t k d.1 d.2.1 d.2.2.1 d.2.2.2.1 d.2.2.2.2.1 }
def z5c : Nat -> Int -> Int -> List Int -> List Int -> List Int -> Option (LR y2q a0)
 | 0, _, _, _, _, _ => none
 | m + 1, s9, s11, b188, b204, b264 =>
  if decide (s11 >= 0) = true then if (0 : Int) <= IntKind.i64.wrap (s11 + s9) then if IntKind.i64.wrap (s11 + s9) < b188.length then if (0 : Int) <= IntKind.i64.wrap ((IntKind.i64.wrap (s11 + s9)) - 1) then if IntKind.i64.wrap ((IntKind.i64.wrap (s11 + s9)) - 1) < b188.length then if (0 : Int) <= IntKind.i64.wrap (s9 - 1) then if IntKind.i64.wrap (s9 - 1) < b204.length then if IntKind.u64.wrap (b204.getD ((IntKind.i64.wrap (s9 - 1)).toNat) 0) = 0 then
  none
  else
  if (0 : Int) <= IntKind.i64.wrap (s9 - 1) then if IntKind.i64.wrap (s9 - 1) < b204.length then if IntKind.u64.wrap (b204.getD ((IntKind.i64.wrap (s9 - 1)).toNat) 0) = 0 then
  none
  else
  match z6a m s9 s11 (IntKind.u64.wrap ((IntKind.u64.wrap ((IntKind.u64.wrap ((IntKind.u64.wrap (b188.getD ((IntKind.i64.wrap (s11 + s9)).toNat) 0)) * 1000000000)) + (IntKind.u64.wrap (b188.getD ((IntKind.i64.wrap ((IntKind.i64.wrap (s11 + s9)) - 1)).toNat) 0)))).tdiv (IntKind.u64.wrap (b204.getD ((IntKind.i64.wrap (s9 - 1)).toNat) 0)))) ((IntKind.u64.wrap ((IntKind.u64.wrap ((IntKind.u64.wrap (b188.getD ((IntKind.i64.wrap (s11 + s9)).toNat) 0)) * 1000000000)) + (IntKind.u64.wrap (b188.getD ((IntKind.i64.wrap ((IntKind.i64.wrap (s11 + s9)) - 1)).toNat) 0)))).tmod (IntKind.u64.wrap (b204.getD ((IntKind.i64.wrap (s9 - 1)).toNat) 0))) b188 b204 with
  | none => none
  | some (.exit d1) =>
   match z13 m s11 d1.1 0 0 0 d1.2.1 d1.2.2.1 with
   | none => none
   | some (.exit d2) =>
    if decide (d2.1 > 0) = true then
    match z1t m s11 0 0 d2.2.1 d2.2.2.1 with
    | none => none
    | some (.exit d3) =>
     if (0 : Int) <= s11 then if s11 < b264.length then
     z5c m s9 (IntKind.i64.wrap (s11 - 1)) d3.1 d3.2.1 (b264.set s11.toNat (IntKind.u32.wrap (IntKind.u64.wrap (d1.1 - 1))))
     else none else none
    | some (.ret d3) =>
     none
    else
    if (0 : Int) <= s11 then if s11 < b264.length then
    z5c m s9 (IntKind.i64.wrap (s11 - 1)) d2.2.1 d2.2.2.1 (b264.set s11.toNat (IntKind.u32.wrap (d1.1)))
    else none else none
   | some (.ret d2) =>
    none
  | some (.ret d1) =>
   none
  else none else none else none else none else none else none else none else none
  else
  some (.exit (b188, b264, b204, ()))
def y2p : LSpec := { h := yi5, x := y2q, r := a0, xid := 2, rt := false, pins := [188, 204, 264], f := fun k d => z5c k d.1 d.2.1 d.2.2.1 d.2.2.2.1 d.2.2.2.2.1 }
def w04 : z1u := [([70], [(7, y4p), (12, y2p), (16, y2r)]), ([95, 70], [(4, z7w)]), ([96, 70], [(2, z8w)])]
def zg4 (k : Nat) (a0 : List Int) (a1 : List Int) : Option ((List Int) × (List Int)) :=
 (z4s fuel a0 a1).bind fun r1 =>
 if decide (r1 < 0) = true then
 some ([], a0)
 else
 if ((a1.length : Int) == 1) = true then if (0 : Int) < a1.length then
 (zd7 fuel a0 (a1.getD 0 0)).bind fun r2 =>
 some (r2.1, r2.2)
 else none
 else
 if (0 : Int) <= IntKind.i64.wrap ((a1.length : Int) - 1) then if IntKind.i64.wrap ((a1.length : Int) - 1) < a1.length then if IntKind.u64.wrap ((IntKind.u64.wrap (a1.getD ((IntKind.i64.wrap ((a1.length : Int) - 1)).toNat) 0)) + 1) = 0 then
 none
 else
 (z4t fuel a0 [IntKind.u32.wrap (IntKind.u64.wrap ((1000000000 : Int).tdiv (IntKind.u64.wrap ((IntKind.u64.wrap (a1.getD ((IntKind.i64.wrap ((a1.length : Int) - 1)).toNat) 0)) + 1))))]).bind fun r3 =>
 if (r3.length + 1) * 4 <= 140737488355328 then
 (z4t fuel a1 [IntKind.u32.wrap (IntKind.u64.wrap ((1000000000 : Int).tdiv (IntKind.u64.wrap ((IntKind.u64.wrap (a1.getD ((IntKind.i64.wrap ((a1.length : Int) - 1)).toNat) 0)) + 1))))]).bind fun r4 =>
 match zf0 k a0 (r3 ++ [0]) with
 | none => none
 | some (.exit d5) =>
  if (0 : Int) <= IntKind.i64.wrap ((d5.1.length : Int) - (r4.length : Int)) then if IntKind.i64.wrap ((d5.1.length : Int) - (r4.length : Int)) <= IntKind.i64.wrap ((d5.1.length : Int) - (r4.length : Int)) then if (IntKind.i64.wrap ((d5.1.length : Int) - (r4.length : Int))) * 4 <= 281474976710656 then
  match z5c k (r4.length : Int) (IntKind.i64.wrap ((IntKind.i64.wrap ((d5.1.length : Int) - (r4.length : Int))) - 1)) d5.1 r4 (List.replicate ((IntKind.i64.wrap ((d5.1.length : Int) - (r4.length : Int))).toNat) 0) with
  | none => none
  | some (.exit d6) =>
   (z7s fuel d6.1).bind fun r7 =>
   (zd7 fuel r7 (IntKind.u32.wrap (IntKind.u64.wrap ((1000000000 : Int).tdiv (IntKind.u64.wrap ((IntKind.u64.wrap (a1.getD ((IntKind.i64.wrap ((a1.length : Int) - 1)).toNat) 0)) + 1)))))).bind fun r8 =>
   (z7s fuel d6.2.1).bind fun r9 =>
   some (r9, r8.1)
  | some (.ret d6) =>
   none
  else none else none else none
 | some (.ret d5) =>
  none
 else none else none else none
def y98 (k : Nat) : Vm.Spec := { ps := [.slice (.int .u32), .slice (.int .u32)], rs := [.imm (.slice (.int .u32)), .imm (.slice (.int .u32))], f := fun x => zg4 k x.1 x.2 }
noncomputable def y59 : Vm.Spec := y98 fuel
theorem zz0 : Vm.Spec.holds Tryz.prog 70 y59 := z0u (E := w32) (L := w04) (fn := Tryz.f70) (Z := y98) (z1g ok) (z0o (by exact ⟨⟨by kernel_rfl, z85⟩, ⟨by kernel_rfl, zu7⟩, ⟨by kernel_rfl, z86⟩, ⟨by kernel_rfl, y5i⟩, trivial⟩)) z0v (z7p (by exact ⟨by kernel_rfl, by kernel_rfl, by kernel_rfl, by kernel_rfl, trivial⟩)) (z3b (by exact ⟨(z26 [[70]] (by exact ⟨z0h (ls := [(4, z7w)]) rfl rfl ⟨by kernel_rfl, fun _ => rfl, fun _ _ => by kernel_rfl, z0i (by kernel_rfl)⟩,  trivial⟩) rfl), (z26 [[70]] (by exact ⟨z0h (ls := [(2, z8w)]) rfl rfl ⟨by kernel_rfl, fun _ => rfl, fun _ _ => by kernel_rfl, z0i (by kernel_rfl)⟩,  trivial⟩) rfl),  trivial⟩)) (by kernel_rfl) (by kernel_rfl) (z0h (ls := [(7, y4p), (12, y2p), (16, y2r)]) rfl rfl ⟨by kernel_rfl, fun _ => rfl, fun _ _ => by kernel_rfl, by kernel_rfl, fun _ => rfl, fun _ _ => by kernel_rfl, by kernel_rfl, fun _ => rfl, fun _ _ => by kernel_rfl, z0i (by kernel_rfl)⟩) fun k x => by kernel_rfl
noncomputable def w33 : Env := { te := te, spec := [(70, y59)], body := [] }
def yo1 : Ann := { slots := [(0, .one (.val (.slice (.int .u32)))), (1, .one (.val (.slice (.int .u32))))], objs := [] }
def y4s : Ann := { slots := [(0, .one (.val (.slice (.int .u32))))], objs := [] }
def z8f : Nat -> List Int -> List Int -> Option (LR y4s a0)
 | 0, _, _ => none
 | m + 1, s0, s1 =>
  if decide ((s1.length : Int) > 0) = true then
  (zg4 fuel s0 s1).bind fun r1 =>
  z8f m s1 r1.2
  else
  some (.exit (s0, ()))
def y4r : LSpec := { h := yo1, x := y4s, r := a0, xid := 0, rt := false, pins := [], f := fun k d => z8f k d.1 d.2.1 }
def w05 : z1u := [([37], [(1, y4r)])]
def z6q (k : Nat) (a0 : List Int) (a1 : List Int) : Option (List Int) :=
 match z8f k a0 a1 with
 | none => none
 | some (.exit d1) =>
  some d1.1
 | some (.ret d1) =>
  none
def y99 (k : Nat) : Vm.Spec := { ps := [.slice (.int .u32), .slice (.int .u32)], rs := [.imm (.slice (.int .u32))], f := fun x => z6q k x.1 x.2 }
noncomputable def y5a : Vm.Spec := y99 fuel
theorem zz1 : Vm.Spec.holds Tryz.prog 37 y5a := z0u (E := w33) (L := w05) (fn := Tryz.f37) (Z := y99) (z1g ok) (z0o (by exact ⟨⟨by kernel_rfl, zz0⟩, trivial⟩)) z0v (z07 rfl) (z01 rfl) (by kernel_rfl) (by kernel_rfl) (z0h (ls := [(1, y4r)]) rfl rfl ⟨by kernel_rfl, fun _ => rfl, fun _ _ => by kernel_rfl, z0i (by kernel_rfl)⟩) fun k x => by kernel_rfl
noncomputable def wk1 : Env := { te := te, spec := [], body := [] }
def w4d : Ann := { slots := [(0, .one (.val (.int .i64))), (3, .one (.own 44 (.int .u32)))], objs := [(44, .buf (.int .u32))] }
def yj0 : Ann := { slots := [(3, .one (.own 44 (.int .u32)))], objs := [(44, .buf (.int .u32))] }
def zo1 : Nat -> Int -> List Int -> Option (LR yj0 a0)
 | 0, _, _ => none
 | m + 1, s0, b44 =>
  if decide (s0 > 0) = true then if (b44.length + 1) * 4 <= 140737488355328 then
  zo1 m (IntKind.i64.wrap (s0.tdiv 1000000000)) (b44 ++ [IntKind.u32.wrap (s0.tmod 1000000000)])
  else none
  else
  some (.exit (b44, ()))
def yi9 : LSpec := { h := w4d, x := yj0, r := a0, xid := 0, rt := false, pins := [], f := fun k d => zo1 k d.1 d.2.1 }
def w94 : z1u := [([39], [(2, yi9)])]
def z6d (k : Nat) (a0 : Int) : Option (List Int) :=
 match zo1 k a0 [] with
 | none => none
 | some (.exit d1) =>
  some d1.1
 | some (.ret d1) =>
  none
def w0j (k : Nat) : Vm.Spec := { ps := [.int .i64], rs := [.fresh (.int .u32)], f := fun x => z6d k x }
noncomputable def y3c : Vm.Spec := w0j fuel
theorem z9i : Vm.Spec.holds Tryz.prog 39 y3c := z0u (E := wk1) (L := w94) (fn := Tryz.f39) (Z := w0j) (z1g ok) (z0o (by exact trivial)) z0v (z07 rfl) (z01 rfl) (by kernel_rfl) (by kernel_rfl) (z0h (ls := [(2, yi9)]) rfl rfl ⟨by kernel_rfl, fun _ => rfl, fun _ _ => by kernel_rfl, z0i (by kernel_rfl)⟩) fun k x => by kernel_rfl
noncomputable def w36 : Env := { te := te, spec := [(33, z9u), (34, y0n), (35, ye4), (36, y82), (37, y5a), (38, zo7), (39, y3c)], body := [] }
def w08 : z1u := []
def z6r (k : Nat) (a0 : ByteArray) : Option (Int) :=
 (z2p fuel a0 (⟨#[45]⟩ : ByteArray)).bind fun r1 =>
 (z5w fuel r1.1 (⟨#[47]⟩ : ByteArray)).bind fun r2 =>
 (z6p fuel r2.1).bind fun r3 =>
 if r2.2.2 = true then
 (z6p fuel r2.2.1).bind fun r4 =>
 if (r3 == 5) = false then if (r4 == 5) = false then if r1.2 = true then if ((r2.1.toList == (⟨#[48]⟩ : ByteArray).toList)) = true then
 some 5
 else
 if (r3 != 0) = false then if (r4 != 0) = true then
 some 2
 else
 if r2.2.2 = true then if ((r2.2.1.toList == (⟨#[48]⟩ : ByteArray).toList)) = false then if ((r2.2.1.toList == (⟨#[49]⟩ : ByteArray).toList)) = false then
 (z3u fuel r2.1).bind fun r5 =>
 (z3u fuel r2.2.1).bind fun r6 =>
 (z6q fuel r5 r6).bind fun r7 =>
 (z6d fuel 1).bind fun r8 =>
 (z4s fuel r7 r8).bind fun r9 =>
 if (r9 != 0) = true then
 some 3
 else
 some 0
 else
 some 3
 else
 some 3
 else
 some 0
 else
 some 2
 else
 if (r3 != 0) = false then if (r4 != 0) = true then
 some 2
 else
 if r2.2.2 = true then if ((r2.2.1.toList == (⟨#[48]⟩ : ByteArray).toList)) = false then if ((r2.2.1.toList == (⟨#[49]⟩ : ByteArray).toList)) = false then
 (z3u fuel r2.1).bind fun r10 =>
 (z3u fuel r2.2.1).bind fun r11 =>
 (z6q fuel r10 r11).bind fun r12 =>
 (z6d fuel 1).bind fun r13 =>
 (z4s fuel r12 r13).bind fun r14 =>
 if (r14 != 0) = true then
 some 3
 else
 some 0
 else
 some 3
 else
 some 3
 else
 some 0
 else
 some 2
 else
 some 5
 else
 some 5
 else
 if (r3 == 5) = false then if r1.2 = true then if ((r2.1.toList == (⟨#[48]⟩ : ByteArray).toList)) = true then
 some 5
 else
 if (r3 != 0) = false then if r2.2.2 = true then if ((r2.2.1.toList == (⟨#[48]⟩ : ByteArray).toList)) = false then if ((r2.2.1.toList == (⟨#[49]⟩ : ByteArray).toList)) = false then
 (z3u fuel r2.1).bind fun r15 =>
 (z3u fuel r2.2.1).bind fun r16 =>
 (z6q fuel r15 r16).bind fun r17 =>
 (z6d fuel 1).bind fun r18 =>
 (z4s fuel r17 r18).bind fun r19 =>
 if (r19 != 0) = true then
 some 3
 else
 some 0
 else
 some 3
 else
 some 3
 else
 some 0
 else
 some 2
 else
 if (r3 != 0) = false then if r2.2.2 = true then if ((r2.2.1.toList == (⟨#[48]⟩ : ByteArray).toList)) = false then if ((r2.2.1.toList == (⟨#[49]⟩ : ByteArray).toList)) = false then
 (z3u fuel r2.1).bind fun r20 =>
 (z3u fuel r2.2.1).bind fun r21 =>
 (z6q fuel r20 r21).bind fun r22 =>
 (z6d fuel 1).bind fun r23 =>
 (z4s fuel r22 r23).bind fun r24 =>
 if (r24 != 0) = true then
 some 3
 else
 some 0
 else
 some 3
 else
 some 3
 else
 some 0
 else
 some 2
 else
 some 5
def y9c (k : Nat) : Vm.Spec := { ps := [.str], rs := [.imm (.int .i64)], f := fun x => z6r k x }
noncomputable def zo9 : Vm.Spec := y9c fuel
theorem z87 : Vm.Spec.holds Tryz.prog 10 zo9 := z0u (E := w36) (L := w08) (fn := Tryz.f10) (Z := y9c) (z1g ok) (z0o (by exact ⟨⟨by kernel_rfl, z9j⟩, ⟨by kernel_rfl, zq1⟩, ⟨by kernel_rfl, y8c⟩, ⟨by kernel_rfl, y1d⟩, ⟨by kernel_rfl, zz1⟩, ⟨by kernel_rfl, z85⟩, ⟨by kernel_rfl, z9i⟩, trivial⟩)) z0v (z07 rfl) (z01 rfl) (by kernel_rfl) (by kernel_rfl) (z0n rfl) fun k x => by kernel_rfl
noncomputable def ym5 : Env := { te := te, spec := [(10, zo9)], body := [] }
def y8m : Ann := { slots := [(6, .one (.val (.slice .str))), (7, .one (.val (.int .i64))), (8, .one (.val (.int .i64)))], objs := [] }
def y02 : Ann := { slots := [(2, .one (.val (.int .i64)))], objs := [] }
def z2w : Nat -> List ByteArray -> Int -> Int -> Option (LR a0 y02)
 | 0, _, _, _ => none
 | m + 1, s6, s7, s8 =>
  if decide (s8 < s7) = true then if (0 : Int) <= s8 then if s8 < s6.length then
  (z6r fuel (s6.getD s8.toNat ByteArray.empty)).bind fun r1 =>
  if (r1 != 0) = true then
  some (.ret (r1, ()))
  else
  z2w m s6 s7 (IntKind.i64.wrap (s8 + 1))
  else none else none
  else
  some (.exit ())
def y01 : LSpec := { h := y8m, x := a0, r := y02, xid := 0, rt := true, pins := [], f := fun k d => z2w k d.1 d.2.1 d.2.2.1 }
def ye3 : z1u := [([91], [(2, y01)])]
def z3c (k : Nat) (a0 : List ByteArray) : Option (Int) :=
 match z2w k a0 (a0.length : Int) 0 with
 | none => none
 | some (.exit d1) =>
  some 0
 | some (.ret d1) =>
  some d1.1
def y26 (k : Nat) : Vm.Spec := { ps := [.slice .str], rs := [.imm (.int .i64)], f := fun x => z3c k x }
noncomputable def z9h : Vm.Spec := y26 fuel
theorem z6e : Vm.Spec.holds Tryz.prog 91 z9h := z0u (E := ym5) (L := ye3) (fn := Tryz.f91) (Z := y26) (z1g ok) (z0o (by exact ⟨⟨by kernel_rfl, z87⟩, trivial⟩)) z0v (z07 rfl) (z01 rfl) (by kernel_rfl) (by kernel_rfl) (z0h (ls := [(2, y01)]) rfl rfl ⟨by kernel_rfl, fun _ => rfl, fun _ _ => by kernel_rfl, z0i (by kernel_rfl)⟩) fun k x => by kernel_rfl
noncomputable def y7w : Env := { te := te, spec := [(91, z9h)], body := [] }
def y66 : z1u := []
def z1v (k : Nat) (a0 : List ByteArray) : Option (Int) :=
 if decide ((a0.length : Int) > 40) = true then
 some 2
 else
 (z3c fuel a0).bind fun r1 =>
 some r1
def zu3 (k : Nat) : Vm.Spec := { ps := [.slice .str], rs := [.imm (.int .i64)], f := fun x => z1v k x }
noncomputable def z6f : Vm.Spec := zu3 fuel
theorem z54 : Vm.Spec.holds Tryz.prog 66 z6f := z0u (E := y7w) (L := y66) (fn := Tryz.f66) (Z := zu3) (z1g ok) (z0o (by exact ⟨⟨by kernel_rfl, z6e⟩, trivial⟩)) z0v (z07 rfl) (z01 rfl) (by kernel_rfl) (by kernel_rfl) (z0n rfl) fun k x => by kernel_rfl
noncomputable def ym2 : Env := { te := te, spec := [(66, z6f)], body := [] }
def y8l : Ann := { slots := [(0, .one (.val (.slice (.slice .str)))), (9, .one (.val (.slice (.slice .str)))), (10, .one (.val (.int .i64))), (11, .one (.val (.int .i64)))], objs := [] }
def y00 : Ann := { slots := [(2, .one (.val (.int .i64)))], objs := [] }
def z2v : Nat -> List (List ByteArray) -> List (List ByteArray) -> Int -> Int -> Option (LR a0 y00)
 | 0, _, _, _, _ => none
 | m + 1, s0, s9, s10, s11 =>
  if decide (s11 < s10) = true then if (0 : Int) <= s11 then if s11 < s9.length then if (0 : Int) < s0.length then if (((s9.getD s11.toNat []).length : Int) != ((s0.getD 0 []).length : Int)) = true then
  some (.ret (3, ()))
  else
  (z1v fuel (s9.getD s11.toNat [])).bind fun r1 =>
  if (r1 != 0) = true then
  some (.ret (r1, ()))
  else
  z2v m s0 s9 s10 (IntKind.i64.wrap (s11 + 1))
  else none else none else none
  else
  some (.exit ())
def zz9 : LSpec := { h := y8l, x := a0, r := y00, xid := 0, rt := true, pins := [], f := fun k d => z2v k d.1 d.2.1 d.2.2.1 d.2.2.2.1 }
def ye0 : z1u := [([31], [(4, zz9)])]
def z4b (k : Nat) (a0 : List (List ByteArray)) : Option (Int) :=
 if decide ((a0.length : Int) > 40) = true then
 some 2
 else
 match z2v k a0 a0 (a0.length : Int) 0 with
 | none => none
 | some (.exit d1) =>
  some 0
 | some (.ret d1) =>
  some d1.1
def y23 (k : Nat) : Vm.Spec := { ps := [.slice (.slice .str)], rs := [.imm (.int .i64)], f := fun x => z4b k x }
noncomputable def zh6 : Vm.Spec := y23 fuel
theorem z98 : Vm.Spec.holds Tryz.prog 31 zh6 := z0u (E := ym2) (L := ye0) (fn := Tryz.f31) (Z := y23) (z1g ok) (z0o (by exact ⟨⟨by kernel_rfl, z54⟩, trivial⟩)) z0v (z07 rfl) (z01 rfl) (by kernel_rfl) (by kernel_rfl) (z0h (ls := [(4, zz9)]) rfl rfl ⟨by kernel_rfl, fun _ => rfl, fun _ _ => by kernel_rfl, z0i (by kernel_rfl)⟩) fun k x => by kernel_rfl
noncomputable def ym3 : Env := { te := te, spec := [], body := [] }
def ye1 : z1u := []
def z68 (k : Nat) (a0 : List (List ByteArray)) : Option (Int) :=
 if ((a0.length : Int) == 0) = true then
 some 0
 else
 if (0 : Int) < a0.length then
 some ((a0.getD 0 []).length : Int)
 else none
def y24 (k : Nat) : Vm.Spec := { ps := [.slice (.slice .str)], rs := [.imm (.int .i64)], f := fun x => z68 k x }
noncomputable def zh7 : Vm.Spec := y24 fuel
theorem z99 : Vm.Spec.holds Tryz.prog 32 zh7 := z0u (E := ym3) (L := ye1) (fn := Tryz.f32) (Z := y24) (z1g ok) (z0o (by exact trivial)) z0v (z07 rfl) (z01 rfl) (by kernel_rfl) (by kernel_rfl) (z0n rfl) fun k x => by kernel_rfl
noncomputable def yd4 : Env := { te := te, spec := [(31, zh6), (32, zh7)], body := [] }
def ya5 : z1u := []
def z1z (k : Nat) (a0 : List (List ByteArray)) : Option (Int) :=
 if decide ((a0.length : Int) > 12) = true then
 some 2
 else
 (z4b fuel a0).bind fun r1 =>
 if (r1 != 0) = true then
 some r1
 else
 (z68 fuel a0).bind fun r2 =>
 if (r2 == 0) = true then
 some 8
 else
 if (0 : Int) < a0.length then if decide (((a0.getD 0 []).length : Int) > 12) = true then
 some 2
 else
 some 0
 else none
def y16 (k : Nat) : Vm.Spec := { ps := [.slice (.slice .str)], rs := [.imm (.int .i64)], f := fun x => z1z k x }
noncomputable def z5h : Vm.Spec := y16 fuel
theorem z3g : Vm.Spec.holds Tryz.prog 9 z5h := z0u (E := yd4) (L := ya5) (fn := Tryz.f9) (Z := y16) (z1g ok) (z0o (by exact ⟨⟨by kernel_rfl, z98⟩, ⟨by kernel_rfl, z99⟩, trivial⟩)) z0v (z07 rfl) (z01 rfl) (by kernel_rfl) (by kernel_rfl) (z0n rfl) fun k x => by kernel_rfl
noncomputable def wk2 : Env := { te := te, spec := [(33, z9u), (34, y0n), (36, y82), (39, y3c)], body := [] }
def w95 : z1u := []
def z7j (k : Nat) (a0 : ByteArray) : Option (Bool × ((List Int) × (List Int))) :=
 (z2p fuel a0 (⟨#[45]⟩ : ByteArray)).bind fun r1 =>
 (z5w fuel r1.1 (⟨#[47]⟩ : ByteArray)).bind fun r2 =>
 (z3u fuel r2.1).bind fun r3 =>
 (z6d fuel 1).bind fun r4 =>
 if r2.2.2 = true then
 (z3u fuel r2.2.1).bind fun r5 =>
 some (r1.2, (r3, r5))
 else
 some (r1.2, (r3, r4))
def w0k (k : Nat) : Vm.Spec := { ps := [.str], rs := [.imm qT], f := fun x => z7j k x }
noncomputable def zn2 : Vm.Spec := w0k fuel
theorem z59 : Vm.Spec.holds Tryz.prog 25 zn2 := z0u (E := wk2) (L := w95) (fn := Tryz.f25) (Z := w0k) (z1g ok) (z0o (by exact ⟨⟨by kernel_rfl, z9j⟩, ⟨by kernel_rfl, zq1⟩, ⟨by kernel_rfl, y1d⟩, ⟨by kernel_rfl, z9i⟩, trivial⟩)) z0v (z07 rfl) (z01 rfl) (by kernel_rfl) (by kernel_rfl) (z0n rfl) fun k x => by kernel_rfl
noncomputable def yz5 : Env := { te := te, spec := [(25, zn2)], body := [] }
def yi4 : Ann := { slots := [(3, .one (.own 64 qT)), (6, .one (.val (.slice .str))), (7, .one (.val (.int .i64))), (8, .one (.val (.int .i64)))], objs := [(64, .buf qT)] }
def y2o : Ann := { slots := [(3, .one (.own 64 qT))], objs := [(64, .buf qT)] }
def z7a : Nat -> List ByteArray -> Int -> Int -> List (Bool × ((List Int) × (List Int))) -> Option (LR y2o a0)
 | 0, _, _, _, _ => none
 | m + 1, s6, s7, s8, b64 =>
  if decide (s8 < s7) = true then if (0 : Int) <= s8 then if s8 < s6.length then
  (z7j fuel (s6.getD s8.toNat ByteArray.empty)).bind fun r1 =>
  if (b64.length + 1) * 56 <= 140737488355328 then
  z7a m s6 s7 (IntKind.i64.wrap (s8 + 1)) (b64 ++ [r1])
  else none else none else none
  else
  some (.exit (b64, ()))
def y2n : LSpec := { h := yi4, x := y2o, r := a0, xid := 0, rt := false, pins := [], f := fun k d => z7a k d.1 d.2.1 d.2.2.1 d.2.2.2.1 }
def yu0 : z1u := [([63], [(3, y2n)])]
def z2m (k : Nat) (a0 : List ByteArray) : Option (List (Bool × ((List Int) × (List Int)))) :=
 match z7a k a0 (a0.length : Int) 0 [] with
 | none => none
 | some (.exit d1) =>
  some d1.1
 | some (.ret d1) =>
  none
def y6f (k : Nat) : Vm.Spec := { ps := [.slice .str], rs := [.fresh qT], f := fun x => z2m k x }
noncomputable def z7o : Vm.Spec := y6f fuel
theorem z4l : Vm.Spec.holds Tryz.prog 63 z7o := z0u (E := yz5) (L := yu0) (fn := Tryz.f63) (Z := y6f) (z1g ok) (z0o (by exact ⟨⟨by kernel_rfl, z59⟩, trivial⟩)) z0v (z07 rfl) (z01 rfl) (by kernel_rfl) (by kernel_rfl) (z0h (ls := [(3, y2n)]) rfl rfl ⟨by kernel_rfl, fun _ => rfl, fun _ _ => by kernel_rfl, z0i (by kernel_rfl)⟩) fun k x => by kernel_rfl
noncomputable def w2y : Env := { te := te, spec := [(63, z7o)], body := [] }
def yn6 : Ann := { slots := [(3, .one (.own 64 (.slice qT))), (6, .one (.val (.slice (.slice .str)))), (7, .one (.val (.int .i64))), (8, .one (.val (.int .i64)))], objs := [(64, .buf (.slice qT))] }
def y4i : Ann := { slots := [(3, .one (.own 64 (.slice qT)))], objs := [(64, .buf (.slice qT))] }
def z8d : Nat -> List (List ByteArray) -> Int -> Int -> List (List (Bool × ((List Int) × (List Int)))) -> Option (LR y4i a0)
 | 0, _, _, _, _ => none
 | m + 1, s6, s7, s8, b64 =>
  if decide (s8 < s7) = true then if (0 : Int) <= s8 then if s8 < s6.length then
  (z2m fuel (s6.getD s8.toNat [])).bind fun r1 =>
  if (b64.length + 1) * 24 <= 140737488355328 then
  z8d m s6 s7 (IntKind.i64.wrap (s8 + 1)) (b64 ++ [r1])
  else none else none else none
  else
  some (.exit (b64, ()))
def y4h : LSpec := { h := yn6, x := y4i, r := a0, xid := 0, rt := false, pins := [], f := fun k d => z8d k d.1 d.2.1 d.2.2.1 d.2.2.2.1 }
def yz9 : z1u := [([42], [(3, y4h)])]
def z67 (k : Nat) (a0 : List (List ByteArray)) : Option (List (List (Bool × ((List Int) × (List Int))))) :=
 match z8d k a0 (a0.length : Int) 0 [] with
 | none => none
 | some (.exit d1) =>
  some d1.1
 | some (.ret d1) =>
  none
def y94 (k : Nat) : Vm.Spec := { ps := [.slice (.slice .str)], rs := [.fresh (.slice qT)], f := fun x => z67 k x }
noncomputable def zg2 : Vm.Spec := y94 fuel
theorem z6i : Vm.Spec.holds Tryz.prog 42 zg2 := z0u (E := w2y) (L := yz9) (fn := Tryz.f42) (Z := y94) (z1g ok) (z0o (by exact ⟨⟨by kernel_rfl, z4l⟩, trivial⟩)) z0v (z07 rfl) (z01 rfl) (by kernel_rfl) (by kernel_rfl) (z0h (ls := [(3, y4h)]) rfl rfl ⟨by kernel_rfl, fun _ => rfl, fun _ _ => by kernel_rfl, z0i (by kernel_rfl)⟩) fun k x => by kernel_rfl
noncomputable def w90 : Env := { te := te, spec := [(39, y3c)], body := [] }
def w7j : z1u := []
def z6k (k : Nat) (a0 : Int) : Option (Bool × ((List Int) × (List Int))) :=
 if decide (a0 < 0) = true then
 (z6d fuel (IntKind.i64.wrap (0 - a0))).bind fun r1 =>
 (z6d fuel 1).bind fun r2 =>
 some (true, (r1, r2))
 else
 (z6d fuel a0).bind fun r3 =>
 (z6d fuel 1).bind fun r4 =>
 some (false, (r3, r4))
def yp8 (k : Nat) : Vm.Spec := { ps := [.int .i64], rs := [.imm qT], f := fun x => z6k k x }
noncomputable def ye7 : Vm.Spec := yp8 fuel
theorem y2d : Vm.Spec.holds Tryz.prog 43 ye7 := z0u (E := w90) (L := w7j) (fn := Tryz.f43) (Z := yp8) (z1g ok) (z0o (by exact ⟨⟨by kernel_rfl, z9i⟩, trivial⟩)) z0v (z07 rfl) (z01 rfl) (by kernel_rfl) (by kernel_rfl) (z0n rfl) fun k x => by kernel_rfl
noncomputable def yt5 : Env := { te := te, spec := [(39, y3c)], body := [] }
def ym8 : z1u := []
def z36 (k : Nat) (a0 : Bool × ((List Int) × (List Int))) : Option (List Int) :=
 if ((a0.2.2.length : Int) == 0) = true then
 (z6d fuel 1).bind fun r1 =>
 some r1
 else
 some a0.2.2
def y49 (k : Nat) : Vm.Spec := { ps := [qT], rs := [.imm (.slice (.int .u32))], f := fun x => z36 k x }
noncomputable def zc9 : Vm.Spec := y49 fuel
theorem z6s : Vm.Spec.holds Tryz.prog 73 zc9 := z0u (E := yt5) (L := ym8) (fn := Tryz.f73) (Z := y49) (z1g ok) (z0o (by exact ⟨⟨by kernel_rfl, z9i⟩, trivial⟩)) z0v (z07 rfl) (z01 rfl) (by kernel_rfl) (by kernel_rfl) (z0n rfl) fun k x => by kernel_rfl
noncomputable def w93 : Env := { te := te, spec := [(37, y5a), (38, zo7), (39, y3c), (70, y59)], body := [] }
def w7m : z1u := []
def zj0 (k : Nat) (a0 : Bool) (a1 : List Int) (a2 : List Int) : Option (Bool × ((List Int) × (List Int))) :=
 if ((a1.length : Int) == 0) = true then
 some (false, ([], []))
 else
 (z6q fuel a1 a2).bind fun r1 =>
 (z6d fuel 1).bind fun r2 =>
 (z4s fuel r1 r2).bind fun r3 =>
 if decide (r3 > 0) = true then
 (zg4 fuel a1 r1).bind fun r4 =>
 (zg4 fuel a2 r1).bind fun r5 =>
 some (a0, (r4.1, r5.1))
 else
 some (a0, (a1, a2))
def yq1 (k : Nat) : Vm.Spec := { ps := [.bool, .slice (.int .u32), .slice (.int .u32)], rs := [.imm qT], f := fun x => zj0 k x.1 x.2.1 x.2.2 }
noncomputable def y6b : Vm.Spec := yq1 fuel
theorem zq0 : Vm.Spec.holds Tryz.prog 74 y6b := z0u (E := w93) (L := w7m) (fn := Tryz.f74) (Z := yq1) (z1g ok) (z0o (by exact ⟨⟨by kernel_rfl, zz1⟩, ⟨by kernel_rfl, z85⟩, ⟨by kernel_rfl, z9i⟩, ⟨by kernel_rfl, zz0⟩, trivial⟩)) z0v (z07 rfl) (z01 rfl) (by kernel_rfl) (by kernel_rfl) (z0n rfl) fun k x => by kernel_rfl
noncomputable def w30 : Env := { te := te, spec := [], body := [] }
def yn8 : Ann := { slots := [(1, .one (.val (.slice (.int .u32)))), (5, .one (.own 76 (.int .u32))), (6, .one (.val (.int .u32))), (20, .one (.val (.slice (.int .u32)))), (21, .one (.val (.int .i64))), (22, .one (.val (.int .i64)))], objs := [(76, .buf (.int .u32))] }
def y4m : Ann := { slots := [(5, .one (.own 76 (.int .u32))), (6, .one (.val (.int .u32)))], objs := [(76, .buf (.int .u32))] }
def z61 : Nat -> List Int -> Int -> List Int -> Int -> Int -> List Int -> Option (LR y4m a0)
 | 0, _, _, _, _, _, _ => none
 | m + 1, s1, s6, s20, s21, s22, b76 =>
  if decide (s22 < s21) = true then if (0 : Int) <= s22 then if s22 < s20.length then if decide (s22 < (s1.length : Int)) = true then if (0 : Int) <= s22 then if s22 < s1.length then if (b76.length + 1) * 4 <= 140737488355328 then
  z61 m s1 (IntKind.u32.wrap ((IntKind.u32.wrap ((IntKind.u32.wrap ((s20.getD s22.toNat 0) + s6)) + (s1.getD s22.toNat 0))).tdiv 1000000000)) s20 s21 (IntKind.i64.wrap (s22 + 1)) (b76 ++ [(IntKind.u32.wrap ((IntKind.u32.wrap ((s20.getD s22.toNat 0) + s6)) + (s1.getD s22.toNat 0))).tmod 1000000000])
  else none else none else none
  else
  if (b76.length + 1) * 4 <= 140737488355328 then
  z61 m s1 (IntKind.u32.wrap ((IntKind.u32.wrap ((s20.getD s22.toNat 0) + s6)).tdiv 1000000000)) s20 s21 (IntKind.i64.wrap (s22 + 1)) (b76 ++ [(IntKind.u32.wrap ((s20.getD s22.toNat 0) + s6)).tmod 1000000000])
  else none else none else none
  else
  some (.exit (s6, b76, ()))
def y4l : LSpec := { h := yn8, x := y4m, r := a0, xid := 0, rt := false, pins := [], f := fun k d => z61 k d.1 d.2.1 d.2.2.1 d.2.2.2.1 d.2.2.2.2.1 d.2.2.2.2.2.1 }
def w02 : z1u := [([75], [(6, y4l)])]
def y0t (k : Nat) (a0 : List Int) (a1 : List Int) : Option (List Int) :=
 if decide ((a0.length : Int) < (a1.length : Int)) = true then if (0 : Int) <= IntKind.i64.wrap ((a1.length : Int) + 1) then if (IntKind.i64.wrap ((a1.length : Int) + 1)) * 4 <= 281474976710656 then
 match z61 k a0 0 a1 (a1.length : Int) 0 (List.replicate 0 0) with
 | none => none
 | some (.exit d1) =>
  if decide (d1.1 > 0) = true then if (d1.2.1.length + 1) * 4 <= 140737488355328 then
  some (d1.2.1 ++ [d1.1])
  else none
  else
  some d1.2.1
 | some (.ret d1) =>
  none
 else none else none
 else
 if (0 : Int) <= IntKind.i64.wrap ((a0.length : Int) + 1) then if (IntKind.i64.wrap ((a0.length : Int) + 1)) * 4 <= 281474976710656 then
 match z61 k a1 0 a0 (a0.length : Int) 0 (List.replicate 0 0) with
 | none => none
 | some (.exit d2) =>
  if decide (d2.1 > 0) = true then if (d2.2.1.length + 1) * 4 <= 140737488355328 then
  some (d2.2.1 ++ [d2.1])
  else none
  else
  some d2.2.1
 | some (.ret d2) =>
  none
 else none else none
def y96 (k : Nat) : Vm.Spec := { ps := [.slice (.int .u32), .slice (.int .u32)], rs := [.fresh (.int .u32)], f := fun x => y0t k x.1 x.2 }
noncomputable def ye5 : Vm.Spec := y96 fuel
theorem y8d : Vm.Spec.holds Tryz.prog 75 ye5 := z0u (E := w30) (L := w02) (fn := Tryz.f75) (Z := y96) (z1g ok) (z0o (by exact trivial)) z0v (z07 rfl) (z01 rfl) (by kernel_rfl) (by kernel_rfl) (z0h (ls := [(6, y4l)]) rfl rfl ⟨by kernel_rfl, fun _ => rfl, fun _ _ => by kernel_rfl, z0i (by kernel_rfl)⟩) fun k x => by kernel_rfl
noncomputable def w37 : Env := { te := te, spec := [(38, zo7), (72, zo8), (73, zc9), (74, y6b), (75, ye5), (76, ye6)], body := [] }
def w09 : z1u := []
def z5j (k : Nat) (a0 : Bool × ((List Int) × (List Int))) (a1 : Bool × ((List Int) × (List Int))) : Option (Bool × ((List Int) × (List Int))) :=
 if ((a0.2.1.length : Int) == 0) = true then
 some a1
 else
 if ((a1.2.1.length : Int) == 0) = true then
 some a0
 else
 (z36 fuel a1).bind fun r1 =>
 (z4t fuel a0.2.1 r1).bind fun r2 =>
 (z36 fuel a0).bind fun r3 =>
 (z4t fuel a1.2.1 r3).bind fun r4 =>
 (z36 fuel a0).bind fun r5 =>
 (z36 fuel a1).bind fun r6 =>
 (z4t fuel r5 r6).bind fun r7 =>
 if (a0.1 == a1.1) = true then
 (y0t fuel r2 r4).bind fun r8 =>
 (zj0 fuel a0.1 r8 r7).bind fun r9 =>
 some r9
 else
 (z4s fuel r2 r4).bind fun r10 =>
 if decide (r10 >= 0) = true then
 (zp9 fuel r2 r4).bind fun r11 =>
 (zj0 fuel a0.1 r11 r7).bind fun r12 =>
 some r12
 else
 (zp9 fuel r4 r2).bind fun r13 =>
 (zj0 fuel a1.1 r13 r7).bind fun r14 =>
 some r14
def y9d (k : Nat) : Vm.Spec := { ps := [qT, qT], rs := [.imm qT], f := fun x => z5j k x.1 x.2 }
noncomputable def z9s : Vm.Spec := y9d fuel
theorem z5e : Vm.Spec.holds Tryz.prog 46 z9s := z0u (E := w37) (L := w09) (fn := Tryz.f46) (Z := y9d) (z1g ok) (z0o (by exact ⟨⟨by kernel_rfl, z85⟩, ⟨by kernel_rfl, z86⟩, ⟨by kernel_rfl, z6s⟩, ⟨by kernel_rfl, zq0⟩, ⟨by kernel_rfl, y8d⟩, ⟨by kernel_rfl, y8e⟩, trivial⟩)) z0v (z07 rfl) (z01 rfl) (by kernel_rfl) (by kernel_rfl) (z0n rfl) fun k x => by kernel_rfl
noncomputable def w3a : Env := { te := te, spec := [], body := [] }
def w0c : z1u := []
def z9x (k : Nat) (a0 : Bool × ((List Int) × (List Int))) : Option (Bool × ((List Int) × (List Int))) :=
 if ((a0.2.1.length : Int) == 0) = true then
 some a0
 else
 some (!a0.1, a0.2)
def y9g (k : Nat) : Vm.Spec := { ps := [qT], rs := [.imm qT], f := fun x => z9x k x }
noncomputable def y5b : Vm.Spec := y9g fuel
theorem zz2 : Vm.Spec.holds Tryz.prog 58 y5b := z0u (E := w3a) (L := w0c) (fn := Tryz.f58) (Z := y9g) (z1g ok) (z0o (by exact trivial)) z0v (z07 rfl) (z01 rfl) (by kernel_rfl) (by kernel_rfl) (z0n rfl) fun k x => by kernel_rfl
noncomputable def w3d : Env := { te := te, spec := [(46, z9s), (58, y5b)], body := [] }
def w0f : z1u := []
def z48 (k : Nat) (a0 : Bool × ((List Int) × (List Int))) (a1 : Bool × ((List Int) × (List Int))) : Option (Bool × ((List Int) × (List Int))) :=
 (z9x fuel a1).bind fun r1 =>
 (z5j fuel a0 r1).bind fun r2 =>
 some r2
def y9j (k : Nat) : Vm.Spec := { ps := [qT, qT], rs := [.imm qT], f := fun x => z48 k x.1 x.2 }
noncomputable def y0m : Vm.Spec := y9j fuel
theorem zg6 : Vm.Spec.holds Tryz.prog 44 y0m := z0u (E := w3d) (L := w0f) (fn := Tryz.f44) (Z := y9j) (z1g ok) (z0o (by exact ⟨⟨by kernel_rfl, z5e⟩, ⟨by kernel_rfl, zz2⟩, trivial⟩)) z0v (z07 rfl) (z01 rfl) (by kernel_rfl) (by kernel_rfl) (z0n rfl) fun k x => by kernel_rfl
noncomputable def yz8 : Env := { te := te, spec := [], body := [] }
def yu3 : z1u := []
def z2n (k : Nat) (a0 : Bool × ((List Int) × (List Int))) : Option (Int) :=
 if ((a0.2.1.length : Int) == 0) = true then
 some 0
 else
 if a0.1 = true then
 some (-1)
 else
 some 1
def y6i (k : Nat) : Vm.Spec := { ps := [qT], rs := [.imm (.int .i64)], f := fun x => z2n k x }
noncomputable def zb0 : Vm.Spec := y6i fuel
theorem z5v : Vm.Spec.holds Tryz.prog 26 zb0 := z0u (E := yz8) (L := yu3) (fn := Tryz.f26) (Z := y6i) (z1g ok) (z0o (by exact trivial)) z0v (z07 rfl) (z01 rfl) (by kernel_rfl) (by kernel_rfl) (z0n rfl) fun k x => by kernel_rfl
noncomputable def w38 : Env := { te := te, spec := [(26, zb0), (44, y0m)], body := [] }
def w0a : z1u := []
def z4u (k : Nat) (a0 : Bool × ((List Int) × (List Int))) (a1 : Bool × ((List Int) × (List Int))) : Option (Int) :=
 (z48 fuel a0 a1).bind fun r1 =>
 (z2n fuel r1).bind fun r2 =>
 some r2
def y9e (k : Nat) : Vm.Spec := { ps := [qT, qT], rs := [.imm (.int .i64)], f := fun x => z4u k x.1 x.2 }
noncomputable def z9t : Vm.Spec := y9e fuel
theorem z5f : Vm.Spec.holds Tryz.prog 57 z9t := z0u (E := w38) (L := w0a) (fn := Tryz.f57) (Z := y9e) (z1g ok) (z0o (by exact ⟨⟨by kernel_rfl, z5v⟩, ⟨by kernel_rfl, zg6⟩, trivial⟩)) z0v (z07 rfl) (z01 rfl) (by kernel_rfl) (by kernel_rfl) (z0n rfl) fun k x => by kernel_rfl
noncomputable def y1l : Env := { te := te, spec := [], body := [] }
def zx2 : Ann := { slots := [(0, .one (.val .str)), (1, .one (.val (.int .u8)))], objs := [] }
def z9n : Ann := { slots := [(0, .one (.val .str))], objs := [] }
def z33 : Nat -> ByteArray -> Int -> Option (LR z9n a0)
 | 0, _, _ => none
 | m + 1, s0, s1 =>
  if decide ((s0.size : Int) > 0) = true then if (0 : Int) < (s0.size : Int) then if (((s0.data.getD 0 0).toNat : Int) == s1) = true then if (1 : Int) <= s0.size then
  z33 m (s0.extract 1 s0.size) s1
  else none
  else
  some (.exit (s0, ()))
  else none
  else
  some (.exit (s0, ()))
def z9m : LSpec := { h := zx2, x := z9n, r := a0, xid := 0, rt := false, pins := [], f := fun k d => z33 k d.1 d.2.1 }
def y0j : z1u := [([108], [(1, z9m)])]
def z7f (k : Nat) (a0 : ByteArray) (a1 : Int) : Option (ByteArray) :=
 match z33 k a0 a1 with
 | none => none
 | some (.exit d1) =>
  some d1.1
 | some (.ret d1) =>
  none
def zd3 (k : Nat) : Vm.Spec := { ps := [.str, .int .u8], rs := [.imm .str], f := fun x => z7f k x.1 x.2 }
noncomputable def zf4 : Vm.Spec := zd3 fuel
theorem zn5 : Vm.Spec.holds Tryz.prog 108 zf4 := z0u (E := y1l) (L := y0j) (fn := Tryz.f108) (Z := zd3) (z1g ok) (z0o (by exact trivial)) z0v (z07 rfl) (z01 rfl) (by kernel_rfl) (by kernel_rfl) (z0h (ls := [(1, z9m)]) rfl rfl ⟨by kernel_rfl, fun _ => rfl, fun _ _ => by kernel_rfl, z0i (by kernel_rfl)⟩) fun k x => by kernel_rfl
noncomputable def y65 : Env := { te := te, spec := [(108, zf4)], body := [] }
def y58 : z1u := []
def z7k (k : Nat) (a0 : ByteArray) (a1 : ByteArray) : Option (ByteArray) :=
 if ((a0.toList == (⟨#[]⟩ : ByteArray).toList)) = false then if ((a1.toList == (⟨#[]⟩ : ByteArray).toList)) = true then
 some a0
 else
 if ((a1.size : Int) == 1) = true then if (0 : Int) < (a1.size : Int) then if decide (((a1.data.getD 0 0).toNat : Int) < 128) = true then if (0 : Int) < (a1.size : Int) then
 (z7f fuel a0 ((a1.data.getD 0 0).toNat : Int)).bind fun r1 =>
 some r1
 else none else none else none else none
 else
 some a0
def zp4 (k : Nat) : Vm.Spec := { ps := [.str, .str], rs := [.imm .str], f := fun x => z7k k x.1 x.2 }
noncomputable def zu2 : Vm.Spec := zp4 fuel
theorem zz5 : Vm.Spec.holds Tryz.prog 102 zu2 := z0u (E := y65) (L := y58) (fn := Tryz.f102) (Z := zp4) (z1g ok) (z0o (by exact ⟨⟨by kernel_rfl, zn5⟩, trivial⟩)) z0v (z07 rfl) (z01 rfl) (by kernel_rfl) (by kernel_rfl) (z0n rfl) fun k x => by kernel_rfl
noncomputable def yz6 : Env := { te := te, spec := [(102, zu2)], body := [] }
def yb8 : Ann := { slots := [(5, .one (.val (.int .u32))), (6, .one (.fix (.pbox 24 0))), (7, .one (.val (.int .i64)))], objs := [(24, .box [.val (.arr 9 (.int .u8))])] }
def y1g : Ann := { slots := [(6, .one (.fix (.pbox 24 0)))], objs := [(24, .box [.val (.arr 9 (.int .u8))])] }
def yi7 : Ann := { slots := [(0, .one (.val (.slice (.int .u32)))), (3, .one (.own 56 (.int .u8))), (4, .one (.val (.int .i64)))], objs := [(56, .buf (.int .u8))] }
def y2t : Ann := { slots := [(3, .one (.own 56 (.int .u8)))], objs := [(56, .buf (.int .u8))] }
def z5n : Nat -> Int -> Int -> List Int -> Option (LR y1g a0)
 | 0, _, _, _ => none
 | m + 1, s5, s7, b24_0 =>
  if decide (s7 >= 0) = true then if (0 : Int) <= s7 then if s7 < 9 then
  z5n m (IntKind.u32.wrap (s5.tdiv 10)) (IntKind.i64.wrap (s7 - 1)) (b24_0.set s7.toNat (IntKind.u8.wrap (IntKind.u32.wrap (48 + (s5.tmod 10)))))
  else none else none
  else
  some (.exit (b24_0, ()))
def y1f : LSpec := { h := yb8, x := y1g, r := a0, xid := 2, rt := false, pins := [24], f := fun k d => z5n k d.1 d.2.1 d.2.2.1 }
def z6b : Nat -> List Int -> Int -> List Int -> Option (LR y2t a0)
 | 0, _, _, _ => none
 | m + 1, s0, s4, b56 =>
  if decide (s4 >= 0) = true then if (0 : Int) <= s4 then if s4 < s0.length then
  match z5n m (s0.getD s4.toNat 0) 8 (List.replicate 9 0) with
  | none => none
  | some (.exit d1) =>
   if (b56.length + ((d1.1.take 9).drop 0).length) * 1 <= 140737488355328 then
   z6b m s0 (IntKind.i64.wrap (s4 - 1)) (b56 ++ ((d1.1.take 9).drop 0))
   else none
  | some (.ret d1) =>
   none
  else none else none
  else
  some (.exit (b56, ()))
def y2s : LSpec := { h := yi7, x := y2t, r := a0, xid := 0, rt := false, pins := [], f := fun k d => z6b k d.1 d.2.1 d.2.2.1 }
def yu1 : z1u := [([88], [(5, y2s), (10, y1f)])]
def z7r (k : Nat) (a0 : List Int) : Option (ByteArray) :=
 if ((a0.length : Int) == 0) = true then
 some (⟨#[48]⟩ : ByteArray)
 else
 if (0 : Int) <= IntKind.i64.wrap (9 * (a0.length : Int)) then if (IntKind.i64.wrap (9 * (a0.length : Int))) * 1 <= 281474976710656 then
 match z6b k a0 (IntKind.i64.wrap ((a0.length : Int) - 1)) (List.replicate 0 0) with
 | none => none
 | some (.exit d1) =>
  (z7k fuel (⟨(d1.1.map fun n => UInt8.ofNat n.toNat).toArray⟩ : ByteArray) (⟨#[48]⟩ : ByteArray)).bind fun r2 =>
  some r2
 | some (.ret d1) =>
  none
 else none else none
def y6g (k : Nat) : Vm.Spec := { ps := [.slice (.int .u32)], rs := [.imm .str], f := fun x => z7r k x }
noncomputable def y1y : Vm.Spec := y6g fuel
theorem zu6 : Vm.Spec.holds Tryz.prog 88 y1y := z0u (E := yz6) (L := yu1) (fn := Tryz.f88) (Z := y6g) (z1g ok) (z0o (by exact ⟨⟨by kernel_rfl, zz5⟩, trivial⟩)) z0v (z07 rfl) (z01 rfl) (by kernel_rfl) (by kernel_rfl) (z0h (ls := [(5, y2s), (10, y1f)]) rfl rfl ⟨by kernel_rfl, fun _ => rfl, fun _ _ => by kernel_rfl, by kernel_rfl, fun _ => rfl, fun _ _ => by kernel_rfl, z0i (by kernel_rfl)⟩) fun k x => by kernel_rfl
noncomputable def w3b : Env := { te := te, spec := [(73, zc9), (88, y1y)], body := [] }
def w0d : z1u := []
def z7t (k : Nat) (a0 : Bool × ((List Int) × (List Int))) : Option (ByteArray) :=
 if ((a0.2.1.length : Int) == 0) = true then
 some (⟨#[48]⟩ : ByteArray)
 else
 (z7r fuel a0.2.1).bind fun r1 =>
 if a0.1 = true then if (⟨#[45]⟩ : ByteArray).size + r1.size <= 4611686018427387904 then
 (z36 fuel a0).bind fun r2 =>
 (z7r fuel r2).bind fun r3 =>
 if (!(r3.toList == (⟨#[49]⟩ : ByteArray).toList)) = true then if (⟨#[47]⟩ : ByteArray).size + r3.size <= 4611686018427387904 then if ((⟨#[45]⟩ : ByteArray) ++ r1).size + ((⟨#[47]⟩ : ByteArray) ++ r3).size <= 4611686018427387904 then
 some (((⟨#[45]⟩ : ByteArray) ++ r1) ++ ((⟨#[47]⟩ : ByteArray) ++ r3))
 else none else none
 else
 some ((⟨#[45]⟩ : ByteArray) ++ r1)
 else none
 else
 (z36 fuel a0).bind fun r4 =>
 (z7r fuel r4).bind fun r5 =>
 if (!(r5.toList == (⟨#[49]⟩ : ByteArray).toList)) = true then if (⟨#[47]⟩ : ByteArray).size + r5.size <= 4611686018427387904 then if r1.size + ((⟨#[47]⟩ : ByteArray) ++ r5).size <= 4611686018427387904 then
 some (r1 ++ ((⟨#[47]⟩ : ByteArray) ++ r5))
 else none else none
 else
 some r1
def y9h (k : Nat) : Vm.Spec := { ps := [qT], rs := [.imm .str], f := fun x => z7t k x }
noncomputable def zp0 : Vm.Spec := y9h fuel
theorem z89 : Vm.Spec.holds Tryz.prog 59 zp0 := z0u (E := w3b) (L := w0d) (fn := Tryz.f59) (Z := y9h) (z1g ok) (z0o (by exact ⟨⟨by kernel_rfl, z6s⟩, ⟨by kernel_rfl, zu6⟩, trivial⟩)) z0v (z07 rfl) (z01 rfl) (by kernel_rfl) (by kernel_rfl) (z0n rfl) fun k x => by kernel_rfl
noncomputable def ym4 : Env := { te := te, spec := [(88, y1y)], body := [] }
def ye2 : z1u := []
def z79 (k : Nat) (a0 : List Int) : Option (Int) :=
 (z7r fuel a0).bind fun r1 =>
 some (r1.size : Int)
def y25 (k : Nat) : Vm.Spec := { ps := [.slice (.int .u32)], rs := [.imm (.int .i64)], f := fun x => z79 k x }
noncomputable def y46 : Vm.Spec := y25 fuel
theorem y3w : Vm.Spec.holds Tryz.prog 101 y46 := z0u (E := ym4) (L := ye2) (fn := Tryz.f101) (Z := y25) (z1g ok) (z0o (by exact ⟨⟨by kernel_rfl, zu6⟩, trivial⟩)) z0v (z07 rfl) (z01 rfl) (by kernel_rfl) (by kernel_rfl) (z0n rfl) fun k x => by kernel_rfl
noncomputable def w7e : Env := { te := te, spec := [(101, y46)], body := [] }
def w3g : z1u := []
def z88 (k : Nat) (a0 : Bool × ((List Int) × (List Int))) : Option (Int) :=
 (z79 fuel a0.2.1).bind fun r1 =>
 if decide (r1 > 2000) = false then
 (z79 fuel a0.2.2).bind fun r2 =>
 if decide (r2 > 2000) = true then
 some 2
 else
 some 0
 else
 some 2
def yf0 (k : Nat) : Vm.Spec := { ps := [qT], rs := [.imm (.int .i64)], f := fun x => z88 k x }
noncomputable def zn8 : Vm.Spec := yf0 fuel
theorem z73 : Vm.Spec.holds Tryz.prog 86 zn8 := z0u (E := w7e) (L := w3g) (fn := Tryz.f86) (Z := yf0) (z1g ok) (z0o (by exact ⟨⟨by kernel_rfl, y3w⟩, trivial⟩)) z0v (z07 rfl) (z01 rfl) (by kernel_rfl) (by kernel_rfl) (z0n rfl) fun k x => by kernel_rfl
noncomputable def yz4 : Env := { te := te, spec := [(59, zp0), (86, zn8)], body := [] }
def yi3 : Ann := { slots := [(4, .one (.own 92 .str)), (8, .one (.val (.slice qT))), (9, .one (.val (.int .i64))), (10, .one (.val (.int .i64)))], objs := [(92, .buf .str)] }
def y2m : Ann := { slots := [(4, .one (.own 92 .str))], objs := [(92, .buf .str)] }
def y2l : Ann := { slots := [(2, .one (.fix .nil)), (3, .one (.val (.int .i64)))], objs := [] }
def z5b : Nat -> List (Bool × ((List Int) × (List Int))) -> Int -> Int -> List ByteArray -> Option (LR y2m y2l)
 | 0, _, _, _, _ => none
 | m + 1, s8, s9, s10, b92 =>
  if decide (s10 < s9) = true then if (0 : Int) <= s10 then if s10 < s8.length then
  (z88 fuel ((s8.getD s10.toNat (false, ([], []))).1, ((s8.getD s10.toNat (false, ([], []))).2))).bind fun r1 =>
  if (r1 != 0) = true then
  some (.ret (r1, ()))
  else
  (z7t fuel ((s8.getD s10.toNat (false, ([], []))).1, ((s8.getD s10.toNat (false, ([], []))).2))).bind fun r2 =>
  if (b92.length + 1) * 16 <= 140737488355328 then
  z5b m s8 s9 (IntKind.i64.wrap (s10 + 1)) (b92 ++ [r2])
  else none else none else none
  else
  some (.exit (b92, ()))
def y2k : LSpec := { h := yi3, x := y2m, r := y2l, xid := 0, rt := true, pins := [], f := fun k d => z5b k d.1 d.2.1 d.2.2.1 d.2.2.2.1 }
def yt9 : z1u := [([53], [(3, y2k)])]
def z3h (k : Nat) (a0 : List (Bool × ((List Int) × (List Int)))) : Option (List ByteArray × Int) :=
 match z5b k a0 (a0.length : Int) 0 [] with
 | none => none
 | some (.exit d1) =>
  some (d1.1, 0)
 | some (.ret d1) =>
  some ([], d1.1)
def y6e (k : Nat) : Vm.Spec := { ps := [.slice qT], rs := [.fresh .str, .imm (.int .i64)], f := fun x => z3h k x }
noncomputable def zi3 : Vm.Spec := y6e fuel
theorem z7i : Vm.Spec.holds Tryz.prog 53 zi3 := z0u (E := yz4) (L := yt9) (fn := Tryz.f53) (Z := y6e) (z1g ok) (z0o (by exact ⟨⟨by kernel_rfl, z89⟩, ⟨by kernel_rfl, z73⟩, trivial⟩)) z0v (z07 rfl) (z01 rfl) (by kernel_rfl) (by kernel_rfl) (z0h (ls := [(3, y2k)]) rfl rfl ⟨by kernel_rfl, fun _ => rfl, fun _ _ => by kernel_rfl, z0i (by kernel_rfl)⟩) fun k x => by kernel_rfl
noncomputable def yd6 : Env := { te := te, spec := [(53, zi3)], body := [] }
def y72 : Ann := { slots := [(4, .one (.own 104 (.slice .str))), (9, .one (.val (.slice (.slice qT)))), (10, .one (.val (.int .i64))), (11, .one (.val (.int .i64)))], objs := [(104, .buf (.slice .str))] }
def zv6 : Ann := { slots := [(4, .one (.own 104 (.slice .str)))], objs := [(104, .buf (.slice .str))] }
def zv5 : Ann := { slots := [(2, .one (.fix .nil)), (3, .one (.val (.int .i64)))], objs := [] }
def z3i : Nat -> List (List (Bool × ((List Int) × (List Int)))) -> Int -> Int -> List (List ByteArray) -> Option (LR zv6 zv5)
 | 0, _, _, _, _ => none
 | m + 1, s9, s10, s11, b104 =>
  if decide (s11 < s10) = true then if (0 : Int) <= s11 then if s11 < s9.length then
  (z3h fuel (s9.getD s11.toNat [])).bind fun r1 =>
  if (r1.2 != 0) = true then
  some (.ret (r1.2, ()))
  else
  if (b104.length + 1) * 24 <= 140737488355328 then
  z3i m s9 s10 (IntKind.i64.wrap (s11 + 1)) (b104 ++ [r1.1])
  else none else none else none
  else
  some (.exit (b104, ()))
def zv4 : LSpec := { h := y72, x := zv6, r := zv5, xid := 0, rt := true, pins := [], f := fun k d => z3i k d.1 d.2.1 d.2.2.1 d.2.2.2.1 }
def ya7 : z1u := [([47], [(3, zv4)])]
def z6j (k : Nat) (a0 : List (List (Bool × ((List Int) × (List Int))))) : Option (List (List ByteArray) × Int) :=
 match z3i k a0 (a0.length : Int) 0 [] with
 | none => none
 | some (.exit d1) =>
  some (d1.1, 0)
 | some (.ret d1) =>
  some ([], d1.1)
def y18 (k : Nat) : Vm.Spec := { ps := [.slice (.slice qT)], rs := [.fresh (.slice .str), .imm (.int .i64)], f := fun x => z6j k x }
noncomputable def y1x : Vm.Spec := y18 fuel
theorem y2b : Vm.Spec.holds Tryz.prog 47 y1x := z0u (E := yd6) (L := ya7) (fn := Tryz.f47) (Z := y18) (z1g ok) (z0o (by exact ⟨⟨by kernel_rfl, z7i⟩, trivial⟩)) z0v (z07 rfl) (z01 rfl) (by kernel_rfl) (by kernel_rfl) (z0h (ls := [(3, zv4)]) rfl rfl ⟨by kernel_rfl, fun _ => rfl, fun _ _ => by kernel_rfl, z0i (by kernel_rfl)⟩) fun k x => by kernel_rfl
noncomputable def yz2 : Env := { te := te, spec := [], body := [] }
def yt7 : z1u := []
def y9p (k : Nat) (a0 : Int) (a1 : Int) : Option (Int × Int) :=
 some (IntKind.u64.wrap ((IntKind.u64.wrap ((IntKind.u64.wrap ((a0.fdiv (2 ^ 32)) * (a1.fdiv (2 ^ 32)))) + ((IntKind.u64.wrap ((IntKind.u64.wrap ((a0.fdiv (2 ^ 32)) * (yb0 .and .u64 a1 4294967295))) + ((IntKind.u64.wrap ((yb0 .and .u64 a0 4294967295) * (yb0 .and .u64 a1 4294967295))).fdiv (2 ^ 32)))).fdiv (2 ^ 32)))) + ((IntKind.u64.wrap ((yb0 .and .u64 (IntKind.u64.wrap ((IntKind.u64.wrap ((a0.fdiv (2 ^ 32)) * (yb0 .and .u64 a1 4294967295))) + ((IntKind.u64.wrap ((yb0 .and .u64 a0 4294967295) * (yb0 .and .u64 a1 4294967295))).fdiv (2 ^ 32)))) 4294967295) + (IntKind.u64.wrap ((yb0 .and .u64 a0 4294967295) * (a1.fdiv (2 ^ 32)))))).fdiv (2 ^ 32))), IntKind.u64.wrap (a0 * a1))
def y6c (k : Nat) : Vm.Spec := { ps := [.int .u64, .int .u64], rs := [.imm (.int .u64), .imm (.int .u64)], f := fun x => y9p k x.1 x.2 }
noncomputable def y92 : Vm.Spec := y6c fuel
theorem y6t : Vm.Spec.holds Tryz.prog 98 y92 := z0u (E := yz2) (L := yt7) (fn := Tryz.f98) (Z := y6c) (z1g ok) (z0o (by exact trivial)) z0v (z07 rfl) (z01 rfl) (by kernel_rfl) (by kernel_rfl) (z0n rfl) fun k x => by kernel_rfl
noncomputable def w7c : Env := { te := te, spec := [(98, y92)], body := [] }
def w3e : z1u := []
def yq8 (k : Nat) (a0 : Int) (a1 : Int) : Option (Int × Int) :=
 (y9p fuel a0 a1).bind fun r1 =>
 some (r1.1, r1.2)
def ye8 (k : Nat) : Vm.Spec := { ps := [.int .u64, .int .u64], rs := [.imm (.int .u64), .imm (.int .u64)], f := fun x => yq8 k x.1 x.2 }
noncomputable def yp4 : Vm.Spec := ye8 fuel
theorem yb4 : Vm.Spec.holds Tryz.prog 77 yp4 := z0u (E := w7c) (L := w3e) (fn := Tryz.f77) (Z := ye8) (z1g ok) (z0o (by exact ⟨⟨by kernel_rfl, y6t⟩, trivial⟩)) z0v (z07 rfl) (z01 rfl) (by kernel_rfl) (by kernel_rfl) (z0n rfl) fun k x => by kernel_rfl
noncomputable def y54 : Env := { te := te, spec := [(77, yp4)], body := [] }
def y1s : Ann := { slots := [(7, .one (.own 120 .str)), (8, .one (.val (.int .i64)))], objs := [(120, .buf .str)] }
def zg0 : Ann := { slots := [(7, .one (.own 120 .str))], objs := [(120, .buf .str)] }
def z7z : Nat -> Int -> List ByteArray -> Option (LR zg0 a0)
 | 0, _, _ => none
 | m + 1, s8, b120 =>
  if decide (s8 < (b120.length : Int)) = true then if (0 : Int) <= s8 then if s8 <= b120.length then if (0 : Int) <= s8 then if s8 <= b120.length then
  z7z m (IntKind.i64.wrap (s8 + ((min (b120.take s8.toNat).length (b120.length - s8.toNat) : Nat) : Int))) (b120.take s8.toNat ++ ((b120.take s8.toNat).take (b120.length - s8.toNat) ++ b120.drop (s8.toNat + min (b120.take s8.toNat).length (b120.length - s8.toNat))))
  else none else none else none else none
  else
  some (.exit (b120, ()))
def zf9 : LSpec := { h := y1s, x := zg0, r := a0, xid := 0, rt := false, pins := [120], f := fun k d => z7z k d.1 d.2.1 }
def y3t : z1u := [([48], [(8, zf9)])]
def z1w (k : Nat) (a0 : List ByteArray) (a1 : Int) : Option (List ByteArray) :=
 if decide (a1 < 0) = true then
 none
 else
 (yq8 fuel (IntKind.u64.wrap ((a0.length : Int))) (IntKind.u64.wrap (a1))).bind fun r1 =>
 if decide (r1.1 > 0) = false then if decide (r1.2 > 9223372036854775807) = true then
 none
 else
 if (0 : Int) <= IntKind.i64.wrap (r1.2) then if IntKind.i64.wrap (r1.2) <= IntKind.i64.wrap (r1.2) then if (IntKind.i64.wrap (r1.2)) * 16 <= 281474976710656 then
 match z7z k ((min a0.length (List.replicate ((IntKind.i64.wrap (r1.2)).toNat) ByteArray.empty).length : Nat) : Int) (a0.take (List.replicate ((IntKind.i64.wrap (r1.2)).toNat) ByteArray.empty).length ++ (List.replicate ((IntKind.i64.wrap (r1.2)).toNat) ByteArray.empty).drop a0.length) with
 | none => none
 | some (.exit d2) =>
  some d2.1
 | some (.ret d2) =>
  none
 else none else none else none else none
def zl4 (k : Nat) : Vm.Spec := { ps := [.slice .str, .int .i64], rs := [.fresh .str], f := fun x => z1w k x.1 x.2 }
noncomputable def zp1 : Vm.Spec := zl4 fuel
theorem zx0 : Vm.Spec.holds Tryz.prog 48 zp1 := z0u (E := y54) (L := y3t) (fn := Tryz.f48) (Z := zl4) (z1g ok) (z0o (by exact ⟨⟨by kernel_rfl, yb4⟩, trivial⟩)) z0v (z07 rfl) (z01 rfl) (by kernel_rfl) (by kernel_rfl) (z0h (ls := [(8, zf9)]) rfl rfl ⟨by kernel_rfl, fun _ => rfl, fun _ _ => by kernel_rfl, z0i (by kernel_rfl)⟩) fun k x => by kernel_rfl
noncomputable def yd7 : Env := { te := te, spec := [(31, zh6), (32, zh7), (66, z6f)], body := [] }
def ya8 : z1u := []
def z6m (k : Nat) (a0 : (List (List ByteArray)) × ((List ByteArray) × (List ByteArray))) : Option (Int) :=
 if decide ((a0.1.length : Int) > 40) = false then if decide ((a0.2.2.length : Int) > 40) = true then
 some 2
 else
 (z4b fuel a0.1).bind fun r1 =>
 if (r1 != 0) = true then
 some r1
 else
 (z1v fuel a0.2.1).bind fun r2 =>
 if (r2 != 0) = true then
 some r2
 else
 (z1v fuel a0.2.2).bind fun r3 =>
 if (r3 != 0) = true then
 some r3
 else
 if ((a0.1.length : Int) != (a0.2.1.length : Int)) = false then if decide ((a0.1.length : Int) > 0) = true then
 (z68 fuel a0.1).bind fun r4 =>
 if (r4 != (a0.2.2.length : Int)) = true then
 some 3
 else
 some 0
 else
 some 0
 else
 some 3
 else
 some 2
def y19 (k : Nat) : Vm.Spec := { ps := [.pair (.slice (.slice .str)) (.pair (.slice .str) (.slice .str))], rs := [.imm (.int .i64)], f := fun x => z6m k x }
noncomputable def y20 : Vm.Spec := y19 fuel
theorem y2f : Vm.Spec.holds Tryz.prog 78 y20 := z0u (E := yd7) (L := ya8) (fn := Tryz.f78) (Z := y19) (z1g ok) (z0o (by exact ⟨⟨by kernel_rfl, z98⟩, ⟨by kernel_rfl, z99⟩, ⟨by kernel_rfl, z54⟩, trivial⟩)) z0v (z07 rfl) (z01 rfl) (by kernel_rfl) (by kernel_rfl) (z0n rfl) fun k x => by kernel_rfl
noncomputable def w39 : Env := { te := te, spec := [(72, zo8), (73, zc9), (74, y6b)], body := [] }
def w0b : z1u := []
def z2o (k : Nat) (a0 : Bool × ((List Int) × (List Int))) (a1 : Bool × ((List Int) × (List Int))) : Option (Bool × ((List Int) × (List Int))) :=
 if ((a0.2.1.length : Int) == 0) = false then if ((a1.2.1.length : Int) == 0) = true then
 some (false, ([], []))
 else
 (z4t fuel a0.2.1 a1.2.1).bind fun r1 =>
 (z36 fuel a0).bind fun r2 =>
 (z36 fuel a1).bind fun r3 =>
 (z4t fuel r2 r3).bind fun r4 =>
 (zj0 fuel (!(a0.1 == a1.1)) r1 r4).bind fun r5 =>
 some r5
 else
 some (false, ([], []))
def y9f (k : Nat) : Vm.Spec := { ps := [qT, qT], rs := [.imm qT], f := fun x => z2o k x.1 x.2 }
noncomputable def zg3 : Vm.Spec := y9f fuel
theorem z6l : Vm.Spec.holds Tryz.prog 52 zg3 := z0u (E := w39) (L := w0b) (fn := Tryz.f52) (Z := y9f) (z1g ok) (z0o (by exact ⟨⟨by kernel_rfl, z86⟩, ⟨by kernel_rfl, z6s⟩, ⟨by kernel_rfl, zq0⟩, trivial⟩)) z0v (z07 rfl) (z01 rfl) (by kernel_rfl) (by kernel_rfl) (z0n rfl) fun k x => by kernel_rfl
noncomputable def w3c : Env := { te := te, spec := [(72, zo8), (73, zc9), (74, y6b)], body := [] }
def w0e : z1u := []
def z5k (k : Nat) (a0 : Bool × ((List Int) × (List Int))) (a1 : Bool × ((List Int) × (List Int))) : Option (Bool × ((List Int) × (List Int))) :=
 if ((a0.2.1.length : Int) == 0) = false then if ((a1.2.1.length : Int) == 0) = true then
 some (false, ([], []))
 else
 (z36 fuel a1).bind fun r1 =>
 (z4t fuel a0.2.1 r1).bind fun r2 =>
 (z36 fuel a0).bind fun r3 =>
 (z4t fuel r3 a1.2.1).bind fun r4 =>
 (zj0 fuel (!(a0.1 == a1.1)) r2 r4).bind fun r5 =>
 some r5
 else
 some (false, ([], []))
def y9i (k : Nat) : Vm.Spec := { ps := [qT, qT], rs := [.imm qT], f := fun x => z5k k x.1 x.2 }
noncomputable def y0l : Vm.Spec := y9i fuel
theorem zg5 : Vm.Spec.holds Tryz.prog 50 y0l := z0u (E := w3c) (L := w0e) (fn := Tryz.f50) (Z := y9i) (z1g ok) (z0o (by exact ⟨⟨by kernel_rfl, z86⟩, ⟨by kernel_rfl, z6s⟩, ⟨by kernel_rfl, zq0⟩, trivial⟩)) z0v (z07 rfl) (z01 rfl) (by kernel_rfl) (by kernel_rfl) (z0n rfl) fun k x => by kernel_rfl
noncomputable def ya4 : Env := { te := te, spec := [(53, zi3), (59, zp0), (86, zn8)], body := [] }
def y81 : z1u := []
def z14 (k : Nat) (a0 : Int) (a1 : List (Bool × ((List Int) × (List Int)))) (a2 : List (Bool × ((List Int) × (List Int)))) (a3 : List (Bool × ((List Int) × (List Int)))) (a4 : Bool × ((List Int) × (List Int))) : Option ((Int × ((List ByteArray) × ((List ByteArray) × ((List ByteArray) × ByteArray)))) × Int) :=
 (z3h fuel a1).bind fun r1 =>
 if (r1.2 != 0) = true then
 some ((0, ([], ([], ([], ByteArray.empty)))), r1.2)
 else
 (z3h fuel a2).bind fun r2 =>
 if (r2.2 != 0) = true then
 some ((0, ([], ([], ([], ByteArray.empty)))), r2.2)
 else
 (z3h fuel a3).bind fun r3 =>
 if (r3.2 != 0) = true then
 some ((0, ([], ([], ([], ByteArray.empty)))), r3.2)
 else
 (z88 fuel a4).bind fun r4 =>
 if (r4 != 0) = true then
 some ((0, ([], ([], ([], ByteArray.empty)))), r4)
 else
 if (a0 == 0) = true then
 (z7t fuel a4).bind fun r5 =>
 some ((a0, (r1.1, (r2.1, (r3.1, r5)))), 0)
 else
 some ((a0, (r1.1, (r2.1, (r3.1, ByteArray.empty)))), 0)
def zy6 (k : Nat) : Vm.Spec := { ps := [.int .i64, .slice qT, .slice qT, .slice qT, qT], rs := [.imm (.pair (.int .i64) (.pair (.slice .str) (.pair (.slice .str) (.pair (.slice .str) .str)))), .imm (.int .i64)], f := fun x => z14 k x.1 x.2.1 x.2.2.1 x.2.2.2.1 x.2.2.2.2 }
noncomputable def y15 : Vm.Spec := zy6 fuel
theorem y1q : Vm.Spec.holds Tryz.prog 81 y15 := z0u (E := ya4) (L := y81) (fn := Tryz.f81) (Z := zy6) (z1g ok) (z0o (by exact ⟨⟨by kernel_rfl, z7i⟩, ⟨by kernel_rfl, z89⟩, ⟨by kernel_rfl, z73⟩, trivial⟩)) z0v (z07 rfl) (z01 rfl) (by kernel_rfl) (by kernel_rfl) (z0n rfl) fun k x => by kernel_rfl
end Go.Proofs.YtcdcoeofhnfjdabGreatDoor
