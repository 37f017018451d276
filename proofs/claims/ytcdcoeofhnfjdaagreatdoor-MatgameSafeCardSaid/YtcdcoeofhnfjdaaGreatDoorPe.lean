/- Pure functions, printed by a program of this session out of the program. -/
import Derived.Test.YtcdcoeofhnfjdaaGreatDoorVmD
import Derived.Test.YtcdcoeofhnfjdaaGreatDoorSh
set_option linter.unusedVariables false
namespace Go.Proofs.YtcdcoeofhnfjdaaGreatDoor
open Go Vm Go.Proofs
abbrev qT : Ty := .pair .bool (.pair (.slice (.int .u32)) (.slice (.int .u32)))
def a0 : Ann := { slots := [], objs := [] }
def te : TE := [(2, ⟨.int .i64, .sc, 8⟩),
  (3, ⟨.int .i64, .sc, 8⟩),
  (4, ⟨.bool, .sc, 1⟩),
  (5, ⟨.int .u8, .sc, 1⟩),
  (9, ⟨.str, .sc, 16⟩),
  (23, ⟨.slice (.slice .str), .slice 28, 24⟩),
  (26, ⟨.str, .sc, 16⟩),
  (27, ⟨.slice .str, .slice 26, 24⟩),
  (28, ⟨.slice .str, .slice 26, 24⟩),
  (30, ⟨.pair .str (.pair (.slice .str) (.slice .str)), .st [26, 28, 28], 64⟩),
  (31, ⟨.int .i64, .sc, 8⟩),
  (45, ⟨.slice (.int .i64), .slice 3, 24⟩),
  (51, ⟨.slice (.slice (.slice .str)), .slice 23, 24⟩),
  (57, ⟨.slice (.slice qT), .slice 66, 24⟩),
  (60, ⟨.slice (.int .u32), .slice 124, 24⟩),
  (62, ⟨qT, .st [4, 60, 60], 56⟩),
  (66, ⟨.slice qT, .slice 62, 24⟩),
  (71, ⟨.pair (.slice (.slice .str)) (.pair (.slice .str) (.slice .str)), .st [23, 28, 28], 72⟩),
  (73, ⟨.pair (.int .i64) (.pair (.slice .str) (.pair (.slice .str) (.pair (.slice .str) .str))), .st [3, 28, 28, 28, 26], 96⟩),
  (89, ⟨.slice (.int .i64), .slice 31, 24⟩),
  (100, ⟨.int .u64, .sc, 8⟩),
  (104, ⟨.opq, .ptr 108, 8⟩),
  (108, ⟨.pair (.slice (.slice qT)) (.pair (.slice (.int .i64)) (.pair (.int .i64) (.int .i64))), .st [57, 45, 3, 3], 64⟩),
  (124, ⟨.int .u32, .sc, 4⟩),
  (125, ⟨.int .u64, .sc, 8⟩),
  (133, ⟨.slice (.int .u8), .slice 5, 24⟩),
  (141, ⟨.arr 9 (.int .u8), .ar 9 5, 9⟩)]
theorem ok : EOk Tryz.prog { te := te, spec := [], body := [] } := v0j (by kernel_rfl)
theorem z0w : Tryz.prog.follows .mixedOrders = true := by kernel_rfl
noncomputable def wi6 : Env := { te := te, spec := [], body := [] }
def w40 : Ann := { slots := [(0, .one (.val (.int .i64))), (3, .one (.own 44 (.int .u32)))], objs := [(44, .buf (.int .u32))] }
def yh3 : Ann := { slots := [(3, .one (.own 44 (.int .u32)))], objs := [(44, .buf (.int .u32))] }
def zn0 : Nat -> Int -> List Int -> Option (LR yh3 a0)
 | 0, _, _ => none
 | m + 1, s0, b44 =>
  if decide (s0 > 0) = true then if (b44.length + 1) * 4 <= 140737488355328 then
  zn0 m (IntKind.i64.wrap (s0.tdiv 1000000000)) (b44 ++ [IntKind.u32.wrap (s0.tmod 1000000000)])
  else none
  else
  some (.exit (b44, ()))
def yh2 : LSpec := { h := w40, x := yh3, r := a0, xid := 0, rt := false, pins := [], f := fun k d => zn0 k d.1 d.2.1 }
def w8p : z1w := [([49], [(2, yh2)])]
def z69 (k : Nat) (a0 : Int) : Option (List Int) :=
 match zn0 k a0 [] with
 | none => none
 | some (.exit d1) =>
  some d1.1
 | some (.ret d1) =>
  none
def w03 (k : Nat) : Vm.Spec := { ps := [.int .i64], rs := [.fresh (.int .u32)], f := fun x => z69 k x }
noncomputable def y34 : Vm.Spec := w03 fuel
theorem z99 : Vm.Spec.holds Tryz.prog 49 y34 := z0v (E := wi6) (L := w8p) (fn := Tryz.f49) (Z := w03) (z1h ok) (z0n (by exact trivial)) z0w (z07 rfl) (z01 rfl) (by kernel_rfl) (by kernel_rfl) (z0i (ls := [(2, yh2)]) rfl rfl ⟨by kernel_rfl, fun _ => rfl, fun _ _ => by kernel_rfl, z0j (by kernel_rfl)⟩) fun k x => by kernel_rfl
noncomputable def w2n : Env := { te := te, spec := [], body := [] }
def ym6 : Ann := { slots := [(0, .one (.val (.slice (.int .u32)))), (1, .one (.val (.slice (.int .u32)))), (5, .one (.val (.int .i64)))], objs := [] }
def y4g : Ann := { slots := [(4, .one (.val (.int .i64)))], objs := [] }
def z8e : Nat -> List Int -> List Int -> Int -> Option (LR a0 y4g)
 | 0, _, _, _ => none
 | m + 1, s0, s1, s5 =>
  if decide (s5 >= 0) = true then if (0 : Int) <= s5 then if s5 < s0.length then if (0 : Int) <= s5 then if s5 < s1.length then if decide (s0.getD s5.toNat 0 < s1.getD s5.toNat 0) = true then
  some (.ret ((-1), ()))
  else
  if (0 : Int) <= s5 then if s5 < s0.length then if (0 : Int) <= s5 then if s5 < s1.length then if decide (s0.getD s5.toNat 0 > s1.getD s5.toNat 0) = true then
  some (.ret (1, ()))
  else
  z8e m s0 s1 (IntKind.i64.wrap (s5 - 1))
  else none else none else none else none else none else none else none else none
  else
  some (.exit ())
def y4f : LSpec := { h := ym6, x := a0, r := y4g, xid := 0, rt := true, pins := [], f := fun k d => z8e k d.1 d.2.1 d.2.2.1 }
def yy8 : z1w := [([55], [(6, y4f)])]
def z4v (k : Nat) (a0 : List Int) (a1 : List Int) : Option (Int) :=
 if ((a0.length : Int) != (a1.length : Int)) = true then if decide ((a0.length : Int) < (a1.length : Int)) = true then
 some (-1)
 else
 some 1
 else
 match z8e k a0 a1 (IntKind.i64.wrap ((a0.length : Int) - 1)) with
 | none => none
 | some (.exit d1) =>
  some 0
 | some (.ret d1) =>
  some d1.1
def y8x (k : Nat) : Vm.Spec := { ps := [.slice (.int .u32), .slice (.int .u32)], rs := [.imm (.int .i64)], f := fun x => z4v k x.1 x.2 }
noncomputable def zn9 : Vm.Spec := y8x fuel
theorem z86 : Vm.Spec.holds Tryz.prog 55 zn9 := z0v (E := w2n) (L := yy8) (fn := Tryz.f55) (Z := y8x) (z1h ok) (z0n (by exact trivial)) z0w (z07 rfl) (z01 rfl) (by kernel_rfl) (by kernel_rfl) (z0i (ls := [(6, y4f)]) rfl rfl ⟨by kernel_rfl, fun _ => rfl, fun _ _ => by kernel_rfl, z0j (by kernel_rfl)⟩) fun k x => by kernel_rfl
noncomputable def y0a : Env := { te := te, spec := [], body := [] }
def zx4 : z1w := []
def z57 (k : Nat) (a0 : ByteArray) (a1 : ByteArray) : Option (Bool) :=
 if decide ((a0.size : Int) >= (a1.size : Int)) = true then if (0 : Int) <= (a1.size : Int) then if (a1.size : Int) <= a0.size then
 some (((a0.extract 0 (a1.size : Int).toNat).toList == a1.toList))
 else none else none
 else
 some false
def za0 (k : Nat) : Vm.Spec := { ps := [.str, .str], rs := [.imm .bool], f := fun x => z57 k x.1 x.2 }
noncomputable def zb6 : Vm.Spec := za0 fuel
theorem zj4 : Vm.Spec.holds Tryz.prog 92 zb6 := z0v (E := y0a) (L := zx4) (fn := Tryz.f92) (Z := za0) (z1h ok) (z0n (by exact trivial)) z0w (z07 rfl) (z01 rfl) (by kernel_rfl) (by kernel_rfl) (z0o rfl) fun k x => by kernel_rfl
noncomputable def y09 : Env := { te := te, spec := [(92, zb6)], body := [] }
def zx3 : z1w := []
def z56 (k : Nat) (a0 : ByteArray) (a1 : ByteArray) : Option (ByteArray × Bool) :=
 (z57 fuel a0 a1).bind fun r1 =>
 if (!r1) = true then
 some (a0, false)
 else
 if (0 : Int) <= (a1.size : Int) then if (a1.size : Int) <= a0.size then
 some (a0.extract (a1.size : Int).toNat a0.size, true)
 else none else none
def z9z (k : Nat) : Vm.Spec := { ps := [.str, .str], rs := [.imm .str, .imm .bool], f := fun x => z56 k x.1 x.2 }
noncomputable def zb5 : Vm.Spec := z9z fuel
theorem zj3 : Vm.Spec.holds Tryz.prog 84 zb5 := z0v (E := y09) (L := zx3) (fn := Tryz.f84) (Z := z9z) (z1h ok) (z0n (by exact ⟨⟨by kernel_rfl, zj4⟩, trivial⟩)) z0w (z07 rfl) (z01 rfl) (by kernel_rfl) (by kernel_rfl) (z0o rfl) fun k x => by kernel_rfl
noncomputable def y4x : Env := { te := te, spec := [(84, zb5)], body := [] }
def y3m : z1w := []
def z2o (k : Nat) (a0 : ByteArray) (a1 : ByteArray) : Option (ByteArray × Bool) :=
 (z56 fuel a0 a1).bind fun r1 =>
 some (r1.1, r1.2)
def zk2 (k : Nat) : Vm.Spec := { ps := [.str, .str], rs := [.imm .str, .imm .bool], f := fun x => z2o k x.1 x.2 }
noncomputable def z9i : Vm.Spec := zk2 fuel
theorem z9a : Vm.Spec.holds Tryz.prog 66 z9i := z0v (E := y4x) (L := y3m) (fn := Tryz.f66) (Z := zk2) (z1h ok) (z0n (by exact ⟨⟨by kernel_rfl, zj3⟩, trivial⟩)) z0w (z07 rfl) (z01 rfl) (by kernel_rfl) (by kernel_rfl) (z0o rfl) fun k x => by kernel_rfl
noncomputable def y7p : Env := { te := te, spec := [(93, Vm.sIndex)], body := [] }
def y5y : z1w := []
def z8c (k : Nat) (a0 : ByteArray) (a1 : ByteArray) : Option (ByteArray × ByteArray × Bool) :=
 (Vm.stdIndex a0 a1).bind fun r1 =>
 if decide (r1 >= 0) = true then if (0 : Int) <= r1 then if r1 <= a0.size then if (0 : Int) <= IntKind.i64.wrap (r1 + (a1.size : Int)) then if IntKind.i64.wrap (r1 + (a1.size : Int)) <= a0.size then
 some (a0.extract 0 r1.toNat, a0.extract (IntKind.i64.wrap (r1 + (a1.size : Int))).toNat a0.size, true)
 else none else none else none else none
 else
 some (a0, (⟨#[]⟩ : ByteArray), false)
def zt9 (k : Nat) : Vm.Spec := { ps := [.str, .str], rs := [.imm .str, .imm .str, .imm .bool], f := fun x => z8c k x.1 x.2 }
noncomputable def zx5 : Vm.Spec := zt9 fuel
theorem y0p : Vm.Spec.holds Tryz.prog 85 zx5 := z0v (E := y7p) (L := y5y) (fn := Tryz.f85) (Z := zt9) (z1h ok) (z0n (by exact ⟨⟨by kernel_rfl, wb1⟩, trivial⟩)) z0w (z07 rfl) (z01 rfl) (by kernel_rfl) (by kernel_rfl) (z0o rfl) fun k x => by kernel_rfl
noncomputable def ys1 : Env := { te := te, spec := [(85, zx5)], body := [] }
def yl6 : z1w := []
def z5t (k : Nat) (a0 : ByteArray) (a1 : ByteArray) : Option (ByteArray × ByteArray × Bool) :=
 (z8c fuel a0 a1).bind fun r1 =>
 some (r1.1, r1.2.1, r1.2.2)
def y43 (k : Nat) : Vm.Spec := { ps := [.str, .str], rs := [.imm .str, .imm .str, .imm .bool], f := fun x => z5t k x.1 x.2 }
noncomputable def y0i : Vm.Spec := y43 fuel
theorem zp6 : Vm.Spec.holds Tryz.prog 67 y0i := z0v (E := ys1) (L := yl6) (fn := Tryz.f67) (Z := y43) (z1h ok) (z0n (by exact ⟨⟨by kernel_rfl, y0p⟩, trivial⟩)) z0w (z07 rfl) (z01 rfl) (by kernel_rfl) (by kernel_rfl) (z0o rfl) fun k x => by kernel_rfl
noncomputable def w72 : Env := { te := te, spec := [], body := [(78, Tryz.f78)] }
def yv0 : Ann := { slots := [(5, .one (.val (.int .u32))), (20, .one (.val (.slice (.int .u8)))), (21, .one (.val (.int .i64))), (22, .one (.val (.int .i64)))], objs := [] }
def y6y : Ann := { slots := [(5, .one (.val (.int .u32)))], objs := [] }
def yu9 : Ann := { slots := [(0, .one (.val .str)), (3, .one (.own 144 (.int .u32))), (4, .one (.val (.int .i64)))], objs := [(144, .buf (.int .u32))] }
def y6w : Ann := { slots := [(3, .one (.own 144 (.int .u32)))], objs := [(144, .buf (.int .u32))] }
def zw5 : Ann := { slots := [(0, .one (.pre 148 (.int .u32)))], objs := [(148, .buf (.int .u32))] }
def z9c : Ann := { slots := [(0, .one (.pre 148 (.int .u32)))], objs := [(148, .buf (.int .u32))] }
def za8 : Nat -> Int -> List Int -> Int -> Int -> Option (LR y6y a0)
 | 0, _, _, _, _ => none
 | m + 1, s5, s20, s21, s22 =>
  if decide (s22 < s21) = true then if (0 : Int) <= s22 then if s22 < s20.length then
  za8 m (IntKind.u32.wrap ((IntKind.u32.wrap (s5 * 10)) + (IntKind.u32.wrap (IntKind.u8.wrap ((s20.getD s22.toNat 0) - 48))))) s20 s21 (IntKind.i64.wrap (s22 + 1))
  else none else none
  else
  some (.exit (s5, ()))
def y6x : LSpec := { h := yv0, x := y6y, r := a0, xid := 2, rt := false, pins := [], f := fun k d => za8 k d.1 d.2.1 d.2.2.1 d.2.2.2.1 }
def za7 : Nat -> ByteArray -> Int -> List Int -> Option (LR y6w a0)
 | 0, _, _, _ => none
 | m + 1, s0, s4, b144 =>
  if decide (s4 > 0) = true then if (0 : Int) <= s4 then if s4 <= s0.size then if (0 : Int) <= (if IntKind.i64.wrap (s4 - 9) > 0 then IntKind.i64.wrap (s4 - 9) else 0) then if (if IntKind.i64.wrap (s4 - 9) > 0 then IntKind.i64.wrap (s4 - 9) else 0) <= s4 then
  match za8 m 0 ((s0.extract (if IntKind.i64.wrap (s4 - 9) > 0 then IntKind.i64.wrap (s4 - 9) else 0).toNat s4.toNat).data.toList.map fun c => (c.toNat : Int)) (((s0.extract (if IntKind.i64.wrap (s4 - 9) > 0 then IntKind.i64.wrap (s4 - 9) else 0).toNat s4.toNat).data.toList.map fun c => (c.toNat : Int)).length : Int) 0 with
  | none => none
  | some (.exit d1) =>
   if (b144.length + 1) * 4 <= 140737488355328 then
   za7 m s0 (IntKind.i64.wrap (s4 - 9)) (b144 ++ [d1.1])
   else none
  | some (.ret d1) =>
   none
  else none else none else none else none
  else
  some (.exit (b144, ()))
def y6v : LSpec := { h := yu9, x := y6w, r := a0, xid := 0, rt := false, pins := [], f := fun k d => za7 k d.1 d.2.1 d.2.2.1 }
def z32 : Nat -> Nat -> List Int -> Option (LR z9c a0)
 | 0, _, _ => none
 | m + 1, s0, b148 =>
  if decide ((s0 : Int) > 0) = true then if (0 : Int) <= IntKind.i64.wrap ((s0 : Int) - 1) then if IntKind.i64.wrap ((s0 : Int) - 1) < s0 then if (b148.getD ((IntKind.i64.wrap ((s0 : Int) - 1)).toNat) 0 == 0) = true then if (0 : Int) <= IntKind.i64.wrap ((s0 : Int) - 1) then if IntKind.i64.wrap ((s0 : Int) - 1) <= s0 then
  z32 m ((IntKind.i64.wrap ((s0 : Int) - 1)).toNat) b148
  else none else none
  else
  some (.exit (s0, b148, ()))
  else none else none
  else
  some (.exit (s0, b148, ()))
def z9b : LSpec := { h := zw5, x := z9c, r := a0, xid := 0, rt := false, pins := [148], f := fun k d => z32 k d.1 d.2.1 }
def w31 : z1w := [([68], [(3, y6v), (7, y6x)]), ([78, 68], [(1, z9b)])]
def z3r (k : Nat) (a0 : ByteArray) : Option (List Int) :=
 match za7 k a0 (a0.size : Int) [] with
 | none => none
 | some (.exit d1) =>
  match z32 k d1.1.length d1.1 with
  | none => none
  | some (.exit d2) =>
   some (d2.2.1.take d2.1)
  | some (.ret d2) =>
   none
 | some (.ret d1) =>
  none
def yd7 (k : Nat) : Vm.Spec := { ps := [.str], rs := [.fresh (.int .u32)], f := fun x => z3r k x }
noncomputable def y7u : Vm.Spec := yd7 fuel
theorem y18 : Vm.Spec.holds Tryz.prog 68 y7u := z0v (E := w72) (L := w31) (fn := Tryz.f68) (Z := yd7) (z1h ok) (z0n (by exact trivial)) z0w (zb8 (by exact ⟨by kernel_rfl, by kernel_rfl, trivial⟩)) (z4b (by exact ⟨(z26 [[68]] (by exact ⟨z0i (ls := [(1, z9b)]) rfl rfl ⟨by kernel_rfl, fun _ => rfl, fun _ _ => by kernel_rfl, z0j (by kernel_rfl)⟩,  trivial⟩) rfl),  trivial⟩)) (by kernel_rfl) (by kernel_rfl) (z0i (ls := [(3, y6v), (7, y6x)]) rfl rfl ⟨by kernel_rfl, fun _ => rfl, fun _ _ => by kernel_rfl, by kernel_rfl, fun _ => rfl, fun _ _ => by kernel_rfl, z0j (by kernel_rfl)⟩) fun k x => by kernel_rfl
noncomputable def w2l : Env := { te := te, spec := [], body := [] }
def ym4 : Ann := { slots := [(18, .one (.val (.slice (.int .u8)))), (19, .one (.val (.int .i64))), (20, .one (.val (.int .i64)))], objs := [] }
def y4c : Ann := { slots := [(2, .one (.val (.int .i64)))], objs := [] }
def z6s : Nat -> List Int -> Int -> Int -> Option (LR a0 y4c)
 | 0, _, _, _ => none
 | m + 1, s18, s19, s20 =>
  if decide (s20 < s19) = true then if (0 : Int) <= s20 then if s20 < s18.length then if decide (s18.getD s20.toNat 0 < 48) = false then if decide (s18.getD s20.toNat 0 > 57) = true then
  some (.ret (5, ()))
  else
  z6s m s18 s19 (IntKind.i64.wrap (s20 + 1))
  else
  some (.ret (5, ()))
  else none else none
  else
  some (.exit ())
def y4b : LSpec := { h := ym4, x := a0, r := y4c, xid := 0, rt := true, pins := [], f := fun k d => z6s k d.1 d.2.1 d.2.2.1 }
def yy6 : z1w := [([74], [(4, y4b)])]
def z6k (k : Nat) (a0 : ByteArray) : Option (Int) :=
 if ((a0.toList == (⟨#[]⟩ : ByteArray).toList)) = false then if (0 : Int) < (a0.size : Int) then if (((a0.data.getD 0 0).toNat : Int) == 48) = true then if decide ((a0.size : Int) > 1) = true then
 some 5
 else
 match z6s k (a0.data.toList.map fun c => (c.toNat : Int)) ((a0.data.toList.map fun c => (c.toNat : Int)).length : Int) 0 with
 | none => none
 | some (.exit d1) =>
  if decide ((a0.size : Int) > 2000) = true then
  some 2
  else
  some 0
 | some (.ret d1) =>
  some d1.1
 else
 match z6s k (a0.data.toList.map fun c => (c.toNat : Int)) ((a0.data.toList.map fun c => (c.toNat : Int)).length : Int) 0 with
 | none => none
 | some (.exit d2) =>
  if decide ((a0.size : Int) > 2000) = true then
  some 2
  else
  some 0
 | some (.ret d2) =>
  some d2.1
 else none
 else
 some 5
def y8v (k : Nat) : Vm.Spec := { ps := [.str], rs := [.imm (.int .i64)], f := fun x => z6k k x }
noncomputable def yd2 : Vm.Spec := y8v fuel
theorem y84 : Vm.Spec.holds Tryz.prog 74 yd2 := z0v (E := w2l) (L := yy6) (fn := Tryz.f74) (Z := y8v) (z1h ok) (z0n (by exact trivial)) z0w (z07 rfl) (z01 rfl) (by kernel_rfl) (by kernel_rfl) (z0i (ls := [(4, y4b)]) rfl rfl ⟨by kernel_rfl, fun _ => rfl, fun _ _ => by kernel_rfl, z0j (by kernel_rfl)⟩) fun k x => by kernel_rfl
noncomputable def w2q : Env := { te := te, spec := [], body := [(78, Tryz.f78)] }
def yn0 : Ann := { slots := [(5, .one (.own 68 (.int .u32))), (6, .one (.val (.int .i64))), (7, .one (.val (.int .u32))), (8, .one (.val (.int .u64))), (25, .one (.val (.slice (.int .u32)))), (26, .one (.val (.int .i64))), (27, .one (.val (.int .i64)))], objs := [(68, .buf (.int .u32))] }
def y4o : Ann := { slots := [(5, .one (.own 68 (.int .u32))), (8, .one (.val (.int .u64)))], objs := [(68, .buf (.int .u32))] }
def ym9 : Ann := { slots := [(1, .one (.val (.slice (.int .u32)))), (5, .one (.own 68 (.int .u32))), (18, .one (.val (.slice (.int .u32)))), (19, .one (.val (.int .i64))), (20, .one (.val (.int .i64)))], objs := [(68, .buf (.int .u32))] }
def y4m : Ann := { slots := [(5, .one (.own 68 (.int .u32)))], objs := [(68, .buf (.int .u32))] }
def zt2 : Ann := { slots := [(0, .one (.pre 68 (.int .u32)))], objs := [(68, .buf (.int .u32))] }
def z8s : Ann := { slots := [(0, .one (.pre 68 (.int .u32)))], objs := [(68, .buf (.int .u32))] }
def z8h : Nat -> Int -> Int -> Int -> List Int -> Int -> Int -> List Int -> Option (LR y4o a0)
 | 0, _, _, _, _, _, _, _ => none
 | m + 1, s6, s7, s8, s25, s26, s27, b68 =>
  if decide (s27 < s26) = true then if (0 : Int) <= s27 then if s27 < s25.length then if (0 : Int) <= IntKind.i64.wrap (s6 + s27) then if IntKind.i64.wrap (s6 + s27) < b68.length then if (0 : Int) <= IntKind.i64.wrap (s6 + s27) then if IntKind.i64.wrap (s6 + s27) < b68.length then
  z8h m s6 s7 (IntKind.u64.wrap ((IntKind.u64.wrap ((IntKind.u64.wrap ((IntKind.u64.wrap ((IntKind.u64.wrap (s7)) * (IntKind.u64.wrap (s25.getD s27.toNat 0)))) + (IntKind.u64.wrap (b68.getD ((IntKind.i64.wrap (s6 + s27)).toNat) 0)))) + s8)).tdiv 1000000000)) s25 s26 (IntKind.i64.wrap (s27 + 1)) (b68.set ((IntKind.i64.wrap (s6 + s27)).toNat) (IntKind.u32.wrap ((IntKind.u64.wrap ((IntKind.u64.wrap ((IntKind.u64.wrap ((IntKind.u64.wrap (s7)) * (IntKind.u64.wrap (s25.getD s27.toNat 0)))) + (IntKind.u64.wrap (b68.getD ((IntKind.i64.wrap (s6 + s27)).toNat) 0)))) + s8)).tmod 1000000000)))
  else none else none else none else none else none else none
  else
  some (.exit (s8, b68, ()))
def y4n : LSpec := { h := yn0, x := y4o, r := a0, xid := 2, rt := false, pins := [68], f := fun k d => z8h k d.1 d.2.1 d.2.2.1 d.2.2.2.1 d.2.2.2.2.1 d.2.2.2.2.2.1 d.2.2.2.2.2.2.1 }
def z8g : Nat -> List Int -> List Int -> Int -> Int -> List Int -> Option (LR y4m a0)
 | 0, _, _, _, _, _ => none
 | m + 1, s1, s18, s19, s20, b68 =>
  if decide (s20 < s19) = true then if (0 : Int) <= s20 then if s20 < s18.length then
  match z8h m s20 (s18.getD s20.toNat 0) 0 s1 (s1.length : Int) 0 b68 with
  | none => none
  | some (.exit d1) =>
   if (0 : Int) <= IntKind.i64.wrap (s20 + (s1.length : Int)) then if IntKind.i64.wrap (s20 + (s1.length : Int)) < d1.2.1.length then
   z8g m s1 s18 s19 (IntKind.i64.wrap (s20 + 1)) (d1.2.1.set ((IntKind.i64.wrap (s20 + (s1.length : Int))).toNat) (IntKind.u32.wrap (d1.1)))
   else none else none
  | some (.ret d1) =>
   none
  else none else none
  else
  some (.exit (b68, ()))
def y4l : LSpec := { h := ym9, x := y4m, r := a0, xid := 0, rt := false, pins := [68], f := fun k d => z8g k d.1 d.2.1 d.2.2.1 d.2.2.2.1 d.2.2.2.2.1 }
def z2y : Nat -> Nat -> List Int -> Option (LR z8s a0)
 | 0, _, _ => none
 | m + 1, s0, b68 =>
  if decide ((s0 : Int) > 0) = true then if (0 : Int) <= IntKind.i64.wrap ((s0 : Int) - 1) then if IntKind.i64.wrap ((s0 : Int) - 1) < s0 then if (b68.getD ((IntKind.i64.wrap ((s0 : Int) - 1)).toNat) 0 == 0) = true then if (0 : Int) <= IntKind.i64.wrap ((s0 : Int) - 1) then if IntKind.i64.wrap ((s0 : Int) - 1) <= s0 then
  z2y m ((IntKind.i64.wrap ((s0 : Int) - 1)).toNat) b68
  else none else none
  else
  some (.exit (s0, b68, ()))
  else none else none
  else
  some (.exit (s0, b68, ()))
def z8r : LSpec := { h := zt2, x := z8s, r := a0, xid := 0, rt := false, pins := [68], f := fun k d => z2y k d.1 d.2.1 }
def yz1 : z1w := [([51], [(3, y4l), (7, y4n)]), ([78, 51], [(1, z8r)])]
def z4w (k : Nat) (a0 : List Int) (a1 : List Int) : Option (List Int) :=
 if (0 : Int) <= IntKind.i64.wrap ((a0.length : Int) + (a1.length : Int)) then if IntKind.i64.wrap ((a0.length : Int) + (a1.length : Int)) <= IntKind.i64.wrap ((a0.length : Int) + (a1.length : Int)) then if (IntKind.i64.wrap ((a0.length : Int) + (a1.length : Int))) * 4 <= 281474976710656 then
 match z8g k a1 a0 (a0.length : Int) 0 (List.replicate ((IntKind.i64.wrap ((a0.length : Int) + (a1.length : Int))).toNat) 0) with
 | none => none
 | some (.exit d1) =>
  match z2y k d1.1.length d1.1 with
  | none => none
  | some (.exit d2) =>
   some (d2.2.1.take d2.1)
  | some (.ret d2) =>
   none
 | some (.ret d1) =>
  none
 else none else none else none
def y90 (k : Nat) : Vm.Spec := { ps := [.slice (.int .u32), .slice (.int .u32)], rs := [.fresh (.int .u32)], f := fun x => z4w k x.1 x.2 }
noncomputable def zo0 : Vm.Spec := y90 fuel
theorem z87 : Vm.Spec.holds Tryz.prog 51 zo0 := z0v (E := w2q) (L := yz1) (fn := Tryz.f51) (Z := y90) (z1h ok) (z0n (by exact trivial)) z0w (zb8 (by exact ⟨by kernel_rfl, by kernel_rfl, trivial⟩)) (z4b (by exact ⟨(z26 [[51]] (by exact ⟨z0i (ls := [(1, z8r)]) rfl rfl ⟨by kernel_rfl, fun _ => rfl, fun _ _ => by kernel_rfl, z0j (by kernel_rfl)⟩,  trivial⟩) rfl),  trivial⟩)) (by kernel_rfl) (by kernel_rfl) (z0i (ls := [(3, y4l), (7, y4n)]) rfl rfl ⟨by kernel_rfl, fun _ => rfl, fun _ _ => by kernel_rfl, by kernel_rfl, fun _ => rfl, fun _ _ => by kernel_rfl, z0j (by kernel_rfl)⟩) fun k x => by kernel_rfl
noncomputable def w2r : Env := { te := te, spec := [], body := [(78, Tryz.f78)] }
def yn1 : Ann := { slots := [(0, .one (.val (.slice (.int .u32)))), (1, .one (.val (.slice (.int .u32)))), (5, .one (.own 44 (.int .u32))), (6, .one (.val (.int .i64))), (13, .one (.val (.int .i64))), (14, .one (.val (.int .i64)))], objs := [(44, .buf (.int .u32))] }
def y4q : Ann := { slots := [(5, .one (.own 44 (.int .u32)))], objs := [(44, .buf (.int .u32))] }
def zt3 : Ann := { slots := [(0, .one (.pre 44 (.int .u32)))], objs := [(44, .buf (.int .u32))] }
def z8u : Ann := { slots := [(0, .one (.pre 44 (.int .u32)))], objs := [(44, .buf (.int .u32))] }
def z4e : Nat -> List Int -> List Int -> Int -> Int -> Int -> List Int -> Option (LR y4q a0)
 | 0, _, _, _, _, _, _ => none
 | m + 1, s0, s1, s6, s13, s14, b44 =>
  if decide (s14 < s13) = true then if (0 : Int) <= s14 then if s14 < s0.length then if decide (s14 < (s1.length : Int)) = true then if (0 : Int) <= s14 then if s14 < s1.length then if decide (IntKind.i64.wrap ((IntKind.i64.wrap ((IntKind.i64.wrap (s0.getD s14.toNat 0)) - s6)) - (IntKind.i64.wrap (s1.getD s14.toNat 0))) < 0) = true then if (0 : Int) <= s14 then if s14 < b44.length then
  z4e m s0 s1 1 s13 (IntKind.i64.wrap (s14 + 1)) (b44.set s14.toNat (IntKind.u32.wrap (IntKind.i64.wrap ((IntKind.i64.wrap ((IntKind.i64.wrap ((IntKind.i64.wrap (s0.getD s14.toNat 0)) - s6)) - (IntKind.i64.wrap (s1.getD s14.toNat 0)))) + 1000000000))))
  else none else none
  else
  if (0 : Int) <= s14 then if s14 < b44.length then
  z4e m s0 s1 0 s13 (IntKind.i64.wrap (s14 + 1)) (b44.set s14.toNat (IntKind.u32.wrap (IntKind.i64.wrap ((IntKind.i64.wrap ((IntKind.i64.wrap (s0.getD s14.toNat 0)) - s6)) - (IntKind.i64.wrap (s1.getD s14.toNat 0))))))
  else none else none else none else none
  else
  if decide (IntKind.i64.wrap ((IntKind.i64.wrap (s0.getD s14.toNat 0)) - s6) < 0) = true then if (0 : Int) <= s14 then if s14 < b44.length then
  z4e m s0 s1 1 s13 (IntKind.i64.wrap (s14 + 1)) (b44.set s14.toNat (IntKind.u32.wrap (IntKind.i64.wrap ((IntKind.i64.wrap ((IntKind.i64.wrap (s0.getD s14.toNat 0)) - s6)) + 1000000000))))
  else none else none
  else
  if (0 : Int) <= s14 then if s14 < b44.length then
  z4e m s0 s1 0 s13 (IntKind.i64.wrap (s14 + 1)) (b44.set s14.toNat (IntKind.u32.wrap (IntKind.i64.wrap ((IntKind.i64.wrap (s0.getD s14.toNat 0)) - s6))))
  else none else none else none else none
  else
  some (.exit (b44, ()))
def y4p : LSpec := { h := yn1, x := y4q, r := a0, xid := 0, rt := false, pins := [44], f := fun k d => z4e k d.1 d.2.1 d.2.2.1 d.2.2.2.1 d.2.2.2.2.1 d.2.2.2.2.2.1 }
def z2z : Nat -> Nat -> List Int -> Option (LR z8u a0)
 | 0, _, _ => none
 | m + 1, s0, b44 =>
  if decide ((s0 : Int) > 0) = true then if (0 : Int) <= IntKind.i64.wrap ((s0 : Int) - 1) then if IntKind.i64.wrap ((s0 : Int) - 1) < s0 then if (b44.getD ((IntKind.i64.wrap ((s0 : Int) - 1)).toNat) 0 == 0) = true then if (0 : Int) <= IntKind.i64.wrap ((s0 : Int) - 1) then if IntKind.i64.wrap ((s0 : Int) - 1) <= s0 then
  z2z m ((IntKind.i64.wrap ((s0 : Int) - 1)).toNat) b44
  else none else none
  else
  some (.exit (s0, b44, ()))
  else none else none
  else
  some (.exit (s0, b44, ()))
def z8t : LSpec := { h := zt3, x := z8u, r := a0, xid := 0, rt := false, pins := [44], f := fun k d => z2z k d.1 d.2.1 }
def yz2 : z1w := [([56], [(4, y4p)]), ([78, 56], [(1, z8t)])]
def zp3 (k : Nat) (a0 : List Int) (a1 : List Int) : Option (List Int) :=
 if (0 : Int) <= (a0.length : Int) then if (a0.length : Int) <= (a0.length : Int) then if (a0.length : Int) * 4 <= 281474976710656 then
 match z4e k a0 a1 0 (a0.length : Int) 0 (List.replicate ((a0.length : Int).toNat) 0) with
 | none => none
 | some (.exit d1) =>
  match z2z k d1.1.length d1.1 with
  | none => none
  | some (.exit d2) =>
   some (d2.2.1.take d2.1)
  | some (.ret d2) =>
   none
 | some (.ret d1) =>
  none
 else none else none else none
def y91 (k : Nat) : Vm.Spec := { ps := [.slice (.int .u32), .slice (.int .u32)], rs := [.fresh (.int .u32)], f := fun x => zp3 k x.1 x.2 }
noncomputable def yd4 : Vm.Spec := y91 fuel
theorem y86 : Vm.Spec.holds Tryz.prog 56 yd4 := z0v (E := w2r) (L := yz2) (fn := Tryz.f56) (Z := y91) (z1h ok) (z0n (by exact trivial)) z0w (zb8 (by exact ⟨by kernel_rfl, by kernel_rfl, trivial⟩)) (z4b (by exact ⟨(z26 [[56]] (by exact ⟨z0i (ls := [(1, z8t)]) rfl rfl ⟨by kernel_rfl, fun _ => rfl, fun _ _ => by kernel_rfl, z0j (by kernel_rfl)⟩,  trivial⟩) rfl),  trivial⟩)) (by kernel_rfl) (by kernel_rfl) (z0i (ls := [(4, y4p)]) rfl rfl ⟨by kernel_rfl, fun _ => rfl, fun _ _ => by kernel_rfl, z0j (by kernel_rfl)⟩) fun k x => by kernel_rfl
noncomputable def yy3 : Env := { te := te, spec := [], body := [] }
def yh1 : Ann := { slots := [(0, .one (.val (.slice (.int .u32))))], objs := [] }
def y2q : Ann := { slots := [(0, .one (.val (.slice (.int .u32))))], objs := [] }
def z78 : Nat -> List Int -> Option (LR y2q a0)
 | 0, _ => none
 | m + 1, s0 =>
  if decide ((s0.length : Int) > 0) = true then if (0 : Int) <= IntKind.i64.wrap ((s0.length : Int) - 1) then if IntKind.i64.wrap ((s0.length : Int) - 1) < s0.length then if (s0.getD ((IntKind.i64.wrap ((s0.length : Int) - 1)).toNat) 0 == 0) = true then if (0 : Int) <= IntKind.i64.wrap ((s0.length : Int) - 1) then if IntKind.i64.wrap ((s0.length : Int) - 1) <= s0.length then
  z78 m ((s0.take (IntKind.i64.wrap ((s0.length : Int) - 1)).toNat).drop 0)
  else none else none
  else
  some (.exit (s0, ()))
  else none else none
  else
  some (.exit (s0, ()))
def y2p : LSpec := { h := yh1, x := y2q, r := a0, xid := 0, rt := false, pins := [], f := fun k d => z78 k d.1 }
def ys7 : z1w := [([78], [(1, y2p)])]
def z7r (k : Nat) (a0 : List Int) : Option (List Int) :=
 match z78 k a0 with
 | none => none
 | some (.exit d1) =>
  some d1.1
 | some (.ret d1) =>
  none
def y68 (k : Nat) : Vm.Spec := { ps := [.slice (.int .u32)], rs := [.imm (.slice (.int .u32))], f := fun x => z7r k x }
noncomputable def y1v : Vm.Spec := y68 fuel
theorem zu1 : Vm.Spec.holds Tryz.prog 78 y1v := z0v (E := yy3) (L := ys7) (fn := Tryz.f78) (Z := y68) (z1h ok) (z0n (by exact trivial)) z0w (z07 rfl) (z01 rfl) (by kernel_rfl) (by kernel_rfl) (z0i (ls := [(1, y2p)]) rfl rfl ⟨by kernel_rfl, fun _ => rfl, fun _ _ => by kernel_rfl, z0j (by kernel_rfl)⟩) fun k x => by kernel_rfl
noncomputable def yr8 : Env := { te := te, spec := [(78, y1v)], body := [] }
def ya7 : Ann := { slots := [(0, .one (.val (.slice (.int .u32)))), (1, .one (.val (.int .u32))), (6, .one (.own 44 (.int .u32))), (7, .one (.val (.int .u64))), (8, .one (.val (.int .i64)))], objs := [(44, .buf (.int .u32))] }
def y1e : Ann := { slots := [(6, .one (.own 44 (.int .u32))), (7, .one (.val (.int .u64)))], objs := [(44, .buf (.int .u32))] }
def z5l : Nat -> List Int -> Int -> Int -> Int -> List Int -> Option (LR y1e a0)
 | 0, _, _, _, _, _ => none
 | m + 1, s0, s1, s7, s8, b44 =>
  if decide (s8 >= 0) = true then if (0 : Int) <= s8 then if s8 < s0.length then if IntKind.u64.wrap (s1) = 0 then
  none
  else
  if (0 : Int) <= s8 then if s8 < b44.length then if IntKind.u64.wrap (s1) = 0 then
  none
  else
  z5l m s0 s1 ((IntKind.u64.wrap ((IntKind.u64.wrap (s7 * 1000000000)) + (IntKind.u64.wrap (s0.getD s8.toNat 0)))).tmod (IntKind.u64.wrap (s1))) (IntKind.i64.wrap (s8 - 1)) (b44.set s8.toNat (IntKind.u32.wrap (IntKind.u64.wrap ((IntKind.u64.wrap ((IntKind.u64.wrap (s7 * 1000000000)) + (IntKind.u64.wrap (s0.getD s8.toNat 0)))).tdiv (IntKind.u64.wrap (s1))))))
  else none else none else none else none
  else
  some (.exit (s7, b44, ()))
def y1d : LSpec := { h := ya7, x := y1e, r := a0, xid := 0, rt := false, pins := [44], f := fun k d => z5l k d.1 d.2.1 d.2.2.1 d.2.2.2.1 d.2.2.2.2.1 }
def yl3 : z1w := [([89], [(4, y1d)])]
def zc3 (k : Nat) (a0 : List Int) (a1 : Int) : Option ((List Int) × (List Int)) :=
 if (0 : Int) <= (a0.length : Int) then if (a0.length : Int) <= (a0.length : Int) then if (a0.length : Int) * 4 <= 281474976710656 then
 match z5l k a0 a1 0 (IntKind.i64.wrap ((a0.length : Int) - 1)) (List.replicate ((a0.length : Int).toNat) 0) with
 | none => none
 | some (.exit d1) =>
  (z7r fuel d1.2.1).bind fun r2 =>
  (z7r fuel [IntKind.u32.wrap (d1.1)]).bind fun r3 =>
  some (r2, r3)
 | some (.ret d1) =>
  none
 else none else none else none
def y40 (k : Nat) : Vm.Spec := { ps := [.slice (.int .u32), .int .u32], rs := [.imm (.slice (.int .u32)), .imm (.slice (.int .u32))], f := fun x => zc3 k x.1 x.2 }
noncomputable def y60 : Vm.Spec := y40 fuel
theorem y5a : Vm.Spec.holds Tryz.prog 89 y60 := z0v (E := yr8) (L := yl3) (fn := Tryz.f89) (Z := y40) (z1h ok) (z0n (by exact ⟨⟨by kernel_rfl, zu1⟩, trivial⟩)) z0w (z07 rfl) (z01 rfl) (by kernel_rfl) (by kernel_rfl) (z0i (ls := [(4, y1d)]) rfl rfl ⟨by kernel_rfl, fun _ => rfl, fun _ _ => by kernel_rfl, z0j (by kernel_rfl)⟩) fun k x => by kernel_rfl
noncomputable def w2o : Env := { te := te, spec := [(51, zo0), (55, zn9), (78, y1v), (89, y60)], body := [(90, Tryz.f90), (91, Tryz.f91)] }
def ym7 : Ann := { slots := [(0, .one (.val (.slice (.int .u32)))), (7, .one (.own 188 (.int .u32)))], objs := [(188, .buf (.int .u32))] }
def y4i : Ann := { slots := [(7, .one (.own 188 (.int .u32)))], objs := [(188, .buf (.int .u32))] }
def yg9 : Ann := { slots := [(7, .one (.own 188 (.int .u32))), (8, .one (.own 204 (.int .u32))), (9, .one (.val (.int .i64))), (11, .one (.val (.int .i64))), (13, .one (.val (.int .u64))), (14, .one (.val (.int .u64)))], objs := [(188, .buf (.int .u32)), (204, .buf (.int .u32))] }
def zr0 : Ann := { slots := [(7, .one (.own 188 (.int .u32))), (8, .one (.own 204 (.int .u32))), (13, .one (.val (.int .u64)))], objs := [(188, .buf (.int .u32)), (204, .buf (.int .u32))] }
def zq9 : Ann := { slots := [], objs := [] }
def zr1 : Ann := { slots := [(0, .one (.own 188 (.int .u32))), (1, .one (.own 204 (.int .u32))), (2, .one (.val (.int .i64))), (3, .one (.val (.int .u64))), (9, .one (.val (.int .i64))), (10, .one (.val (.int .u64))), (11, .one (.val (.int .i64)))], objs := [(188, .buf (.int .u32)), (204, .buf (.int .u32))] }
def z7x : Ann := { slots := [(9, .one (.val (.int .i64)))], objs := [(188, .buf (.int .u32)), (204, .buf (.int .u32))] }
def zt1 : Ann := { slots := [(0, .one (.own 188 (.int .u32))), (1, .one (.own 204 (.int .u32))), (2, .one (.val (.int .i64))), (6, .one (.val (.int .u32))), (7, .one (.val (.int .i64)))], objs := [(188, .buf (.int .u32)), (204, .buf (.int .u32))] }
def z8q : Ann := { slots := [], objs := [(188, .buf (.int .u32)), (204, .buf (.int .u32))] }
def yn5 : List (Nat × OSh) := [(188, .buf (.int .u32)), (204, .buf (.int .u32)), (264, .buf (.int .u32))]
def yg8 : Ann := { slots := [(7, .one (.own 188 (.int .u32))), (8, .one (.own 204 (.int .u32))), (9, .one (.val (.int .i64))), (10, .one (.own 264 (.int .u32))), (11, .one (.val (.int .i64)))], objs := yn5 }
def yn6 : List (Nat × OSh) := [(188, .buf (.int .u32)), (264, .buf (.int .u32)), (204, .buf (.int .u32))]
def y2l : Ann := { slots := [(7, .one (.own 188 (.int .u32))), (10, .one (.own 264 (.int .u32)))], objs := yn6 }
def zd7 : Nat -> List Int -> List Int -> Option (LR y4i a0)
 | 0, _, _ => none
 | m + 1, s0, b188 =>
  if decide ((b188.length : Int) <= (s0.length : Int)) = true then if (b188.length + 1) * 4 <= 140737488355328 then
  zd7 m s0 (b188 ++ [0])
  else none
  else
  some (.exit (b188, ()))
def y4h : LSpec := { h := ym7, x := y4i, r := a0, xid := 0, rt := false, pins := [], f := fun k d => zd7 k d.1 d.2.1 }
def z67 : Nat -> Int -> Int -> Int -> Int -> List Int -> List Int -> Option (LR zr0 zq9)
 | 0, _, _, _, _, _, _ => none
 | m + 1, s9, s11, s13, s14, b188, b204 =>
  if decide (s13 >= 1000000000) = false then if (0 : Int) <= IntKind.i64.wrap (s9 - 2) then if IntKind.i64.wrap (s9 - 2) < b204.length then if (0 : Int) <= IntKind.i64.wrap ((IntKind.i64.wrap (s11 + s9)) - 2) then if IntKind.i64.wrap ((IntKind.i64.wrap (s11 + s9)) - 2) < b188.length then if decide (IntKind.u64.wrap (s13 * (IntKind.u64.wrap (b204.getD ((IntKind.i64.wrap (s9 - 2)).toNat) 0))) > IntKind.u64.wrap ((IntKind.u64.wrap (s14 * 1000000000)) + (IntKind.u64.wrap (b188.getD ((IntKind.i64.wrap ((IntKind.i64.wrap (s11 + s9)) - 2)).toNat) 0)))) = true then if (0 : Int) <= IntKind.i64.wrap (s9 - 1) then if IntKind.i64.wrap (s9 - 1) < b204.length then if decide (IntKind.u64.wrap (s14 + (IntKind.u64.wrap (b204.getD ((IntKind.i64.wrap (s9 - 1)).toNat) 0))) >= 1000000000) = true then
  some (.exit (IntKind.u64.wrap (s13 - 1), b188, b204, ()))
  else
  z67 m s9 s11 (IntKind.u64.wrap (s13 - 1)) (IntKind.u64.wrap (s14 + (IntKind.u64.wrap (b204.getD ((IntKind.i64.wrap (s9 - 1)).toNat) 0)))) b188 b204
  else none else none
  else
  some (.exit (s13, b188, b204, ()))
  else none else none else none else none
  else
  if (0 : Int) <= IntKind.i64.wrap (s9 - 1) then if IntKind.i64.wrap (s9 - 1) < b204.length then if decide (IntKind.u64.wrap (s14 + (IntKind.u64.wrap (b204.getD ((IntKind.i64.wrap (s9 - 1)).toNat) 0))) >= 1000000000) = true then
  some (.exit (IntKind.u64.wrap (s13 - 1), b188, b204, ()))
  else
  z67 m s9 s11 (IntKind.u64.wrap (s13 - 1)) (IntKind.u64.wrap (s14 + (IntKind.u64.wrap (b204.getD ((IntKind.i64.wrap (s9 - 1)).toNat) 0)))) b188 b204
  else none else none
def y2m : LSpec := { h := yg9, x := zr0, r := zq9, xid := 4, rt := false, pins := [188, 204], f := fun k d => z67 k d.1 d.2.1 d.2.2.1 d.2.2.2.1 d.2.2.2.2.1 d.2.2.2.2.2.1 }
def z13 : Nat -> Int -> Int -> Int -> Int -> Int -> List Int -> List Int -> Option (LR z7x a0)
 | 0, _, _, _, _, _, _, _ => none
 | m + 1, s2, s3, s9, s10, s11, b188, b204 =>
  if decide (s11 <= (b204.length : Int)) = true then if decide (s11 < (b204.length : Int)) = true then if (0 : Int) <= s11 then if s11 < b204.length then if (0 : Int) <= IntKind.i64.wrap (s2 + s11) then if IntKind.i64.wrap (s2 + s11) < b188.length then if decide (IntKind.i64.wrap ((IntKind.i64.wrap ((IntKind.i64.wrap (b188.getD ((IntKind.i64.wrap (s2 + s11)).toNat) 0)) - (IntKind.i64.wrap ((IntKind.u64.wrap (s10 + (IntKind.u64.wrap (s3 * (IntKind.u64.wrap (b204.getD s11.toNat 0)))))).tmod 1000000000)))) - s9) < 0) = true then if (0 : Int) <= IntKind.i64.wrap (s2 + s11) then if IntKind.i64.wrap (s2 + s11) < b188.length then
  z13 m s2 s3 1 (IntKind.u64.wrap ((IntKind.u64.wrap (s10 + (IntKind.u64.wrap (s3 * (IntKind.u64.wrap (b204.getD s11.toNat 0)))))).tdiv 1000000000)) (IntKind.i64.wrap (s11 + 1)) (b188.set ((IntKind.i64.wrap (s2 + s11)).toNat) (IntKind.u32.wrap (IntKind.i64.wrap ((IntKind.i64.wrap ((IntKind.i64.wrap ((IntKind.i64.wrap (b188.getD ((IntKind.i64.wrap (s2 + s11)).toNat) 0)) - (IntKind.i64.wrap ((IntKind.u64.wrap (s10 + (IntKind.u64.wrap (s3 * (IntKind.u64.wrap (b204.getD s11.toNat 0)))))).tmod 1000000000)))) - s9)) + 1000000000)))) b204
  else none else none
  else
  if (0 : Int) <= IntKind.i64.wrap (s2 + s11) then if IntKind.i64.wrap (s2 + s11) < b188.length then
  z13 m s2 s3 0 (IntKind.u64.wrap ((IntKind.u64.wrap (s10 + (IntKind.u64.wrap (s3 * (IntKind.u64.wrap (b204.getD s11.toNat 0)))))).tdiv 1000000000)) (IntKind.i64.wrap (s11 + 1)) (b188.set ((IntKind.i64.wrap (s2 + s11)).toNat) (IntKind.u32.wrap (IntKind.i64.wrap ((IntKind.i64.wrap ((IntKind.i64.wrap (b188.getD ((IntKind.i64.wrap (s2 + s11)).toNat) 0)) - (IntKind.i64.wrap ((IntKind.u64.wrap (s10 + (IntKind.u64.wrap (s3 * (IntKind.u64.wrap (b204.getD s11.toNat 0)))))).tmod 1000000000)))) - s9)))) b204
  else none else none else none else none else none else none
  else
  if (0 : Int) <= IntKind.i64.wrap (s2 + s11) then if IntKind.i64.wrap (s2 + s11) < b188.length then if decide (IntKind.i64.wrap ((IntKind.i64.wrap ((IntKind.i64.wrap (b188.getD ((IntKind.i64.wrap (s2 + s11)).toNat) 0)) - (IntKind.i64.wrap (s10.tmod 1000000000)))) - s9) < 0) = true then if (0 : Int) <= IntKind.i64.wrap (s2 + s11) then if IntKind.i64.wrap (s2 + s11) < b188.length then
  z13 m s2 s3 1 (IntKind.u64.wrap (s10.tdiv 1000000000)) (IntKind.i64.wrap (s11 + 1)) (b188.set ((IntKind.i64.wrap (s2 + s11)).toNat) (IntKind.u32.wrap (IntKind.i64.wrap ((IntKind.i64.wrap ((IntKind.i64.wrap ((IntKind.i64.wrap (b188.getD ((IntKind.i64.wrap (s2 + s11)).toNat) 0)) - (IntKind.i64.wrap (s10.tmod 1000000000)))) - s9)) + 1000000000)))) b204
  else none else none
  else
  if (0 : Int) <= IntKind.i64.wrap (s2 + s11) then if IntKind.i64.wrap (s2 + s11) < b188.length then
  z13 m s2 s3 0 (IntKind.u64.wrap (s10.tdiv 1000000000)) (IntKind.i64.wrap (s11 + 1)) (b188.set ((IntKind.i64.wrap (s2 + s11)).toNat) (IntKind.u32.wrap (IntKind.i64.wrap ((IntKind.i64.wrap ((IntKind.i64.wrap (b188.getD ((IntKind.i64.wrap (s2 + s11)).toNat) 0)) - (IntKind.i64.wrap (s10.tmod 1000000000)))) - s9)))) b204
  else none else none else none else none
  else
  some (.exit (s9, b188, b204, ()))
def z7w : LSpec := { h := zr1, x := z7x, r := a0, xid := 0, rt := false, pins := [188, 204], f := fun k d => z13 k d.1 d.2.1 d.2.2.1 d.2.2.2.1 d.2.2.2.2.1 d.2.2.2.2.2.1 d.2.2.2.2.2.2.1 }
def z1u : Nat -> Int -> Int -> Int -> List Int -> List Int -> Option (LR z8q a0)
 | 0, _, _, _, _, _ => none
 | m + 1, s2, s6, s7, b188, b204 =>
  if decide (s7 <= (b204.length : Int)) = true then if (0 : Int) <= IntKind.i64.wrap (s2 + s7) then if IntKind.i64.wrap (s2 + s7) < b188.length then if decide (s7 < (b204.length : Int)) = true then if (0 : Int) <= s7 then if s7 < b204.length then if (0 : Int) <= IntKind.i64.wrap (s2 + s7) then if IntKind.i64.wrap (s2 + s7) < b188.length then
  z1u m s2 (IntKind.u32.wrap ((IntKind.u32.wrap ((IntKind.u32.wrap ((b188.getD ((IntKind.i64.wrap (s2 + s7)).toNat) 0) + s6)) + (b204.getD s7.toNat 0))).tdiv 1000000000)) (IntKind.i64.wrap (s7 + 1)) (b188.set ((IntKind.i64.wrap (s2 + s7)).toNat) ((IntKind.u32.wrap ((IntKind.u32.wrap ((b188.getD ((IntKind.i64.wrap (s2 + s7)).toNat) 0) + s6)) + (b204.getD s7.toNat 0))).tmod 1000000000)) b204
  else none else none else none else none
  else
  if (0 : Int) <= IntKind.i64.wrap (s2 + s7) then if IntKind.i64.wrap (s2 + s7) < b188.length then
  z1u m s2 (IntKind.u32.wrap ((IntKind.u32.wrap ((b188.getD ((IntKind.i64.wrap (s2 + s7)).toNat) 0) + s6)).tdiv 1000000000)) (IntKind.i64.wrap (s7 + 1)) (b188.set ((IntKind.i64.wrap (s2 + s7)).toNat) ((IntKind.u32.wrap ((b188.getD ((IntKind.i64.wrap (s2 + s7)).toNat) 0) + s6)).tmod 1000000000)) b204
  else none else none else none else none
  else
  some (.exit (b188, b204, ()))
def z8p : LSpec := { h := zt1, x := z8q, r := a0, xid := 0, rt := false, pins := [188, 204], f := fun k d => z1u k d.1 d.2.1 d.2.2.1 d.2.2.2.1 d.2.2.2.2.1 }
def z5c : Nat -> Int -> Int -> List Int -> List Int -> List Int -> Option (LR y2l a0)
 | 0, _, _, _, _, _ => none
 | m + 1, s9, s11, b188, b204, b264 =>
  if decide (s11 >= 0) = true then if (0 : Int) <= IntKind.i64.wrap (s11 + s9) then if IntKind.i64.wrap (s11 + s9) < b188.length then if (0 : Int) <= IntKind.i64.wrap ((IntKind.i64.wrap (s11 + s9)) - 1) then if IntKind.i64.wrap ((IntKind.i64.wrap (s11 + s9)) - 1) < b188.length then if (0 : Int) <= IntKind.i64.wrap (s9 - 1) then if IntKind.i64.wrap (s9 - 1) < b204.length then if IntKind.u64.wrap (b204.getD ((IntKind.i64.wrap (s9 - 1)).toNat) 0) = 0 then
  none
  else
  if (0 : Int) <= IntKind.i64.wrap (s9 - 1) then if IntKind.i64.wrap (s9 - 1) < b204.length then if IntKind.u64.wrap (b204.getD ((IntKind.i64.wrap (s9 - 1)).toNat) 0) = 0 then
  none
  else
  match z67 m s9 s11 (IntKind.u64.wrap ((IntKind.u64.wrap ((IntKind.u64.wrap ((IntKind.u64.wrap (b188.getD ((IntKind.i64.wrap (s11 + s9)).toNat) 0)) * 1000000000)) + (IntKind.u64.wrap (b188.getD ((IntKind.i64.wrap ((IntKind.i64.wrap (s11 + s9)) - 1)).toNat) 0)))).tdiv (IntKind.u64.wrap (b204.getD ((IntKind.i64.wrap (s9 - 1)).toNat) 0)))) ((IntKind.u64.wrap ((IntKind.u64.wrap ((IntKind.u64.wrap (b188.getD ((IntKind.i64.wrap (s11 + s9)).toNat) 0)) * 1000000000)) + (IntKind.u64.wrap (b188.getD ((IntKind.i64.wrap ((IntKind.i64.wrap (s11 + s9)) - 1)).toNat) 0)))).tmod (IntKind.u64.wrap (b204.getD ((IntKind.i64.wrap (s9 - 1)).toNat) 0))) b188 b204 with
  | none => none
  | some (.exit d1) =>
   match z13 m s11 d1.1 0 0 0 d1.2.1 d1.2.2.1 with
   | none => none
   | some (.exit d2) =>
    if decide (d2.1 > 0) = true then
    match z1u m s11 0 0 d2.2.1 d2.2.2.1 with
    | none => none
    | some (.exit d3) =>
     if (0 : Int) <= s11 then if s11 < b264.length then
     z5c m s9 (IntKind.i64.wrap (s11 - 1)) d3.1 d3.2.1 (b264.set s11.toNat (IntKind.u32.wrap (IntKind.u64.wrap (d1.1 - 1))))
     else none else none
    | some (.ret d3) =>
     none
    else
    if (0 : Int) <= s11 then if s11 < b264.length then
    z5c m s9 (IntKind.i64.wrap (s11 - 1)) d2.2.1 d2.2.2.1 (b264.set s11.toNat (IntKind.u32.wrap (d1.1)))
    else none else none
   | some (.ret d2) =>
    none
  | some (.ret d1) =>
   none
  else none else none else none else none else none else none else none else none
  else
  some (.exit (b188, b264, b204, ()))
def y2k : LSpec := { h := yg8, x := y2l, r := a0, xid := 2, rt := false, pins := [188, 204, 264], f := fun k d => z5c k d.1 d.2.1 d.2.2.1 d.2.2.2.1 d.2.2.2.2.1 }
def yy9 : z1w := [([79], [(7, y4h), (12, y2k), (16, y2m)]), ([90, 79], [(4, z7w)]), ([91, 79], [(2, z8p)])]
def zf2 (k : Nat) (a0 : List Int) (a1 : List Int) : Option ((List Int) × (List Int)) :=
 (z4v fuel a0 a1).bind fun r1 =>
 if decide (r1 < 0) = true then
 some ([], a0)
 else
 if ((a1.length : Int) == 1) = true then if (0 : Int) < a1.length then
 (zc3 fuel a0 (a1.getD 0 0)).bind fun r2 =>
 some (r2.1, r2.2)
 else none
 else
 if (0 : Int) <= IntKind.i64.wrap ((a1.length : Int) - 1) then if IntKind.i64.wrap ((a1.length : Int) - 1) < a1.length then if IntKind.u64.wrap ((IntKind.u64.wrap (a1.getD ((IntKind.i64.wrap ((a1.length : Int) - 1)).toNat) 0)) + 1) = 0 then
 none
 else
 (z4w fuel a0 [IntKind.u32.wrap (IntKind.u64.wrap ((1000000000 : Int).tdiv (IntKind.u64.wrap ((IntKind.u64.wrap (a1.getD ((IntKind.i64.wrap ((a1.length : Int) - 1)).toNat) 0)) + 1))))]).bind fun r3 =>
 if (r3.length + 1) * 4 <= 140737488355328 then
 (z4w fuel a1 [IntKind.u32.wrap (IntKind.u64.wrap ((1000000000 : Int).tdiv (IntKind.u64.wrap ((IntKind.u64.wrap (a1.getD ((IntKind.i64.wrap ((a1.length : Int) - 1)).toNat) 0)) + 1))))]).bind fun r4 =>
 match zd7 k a0 (r3 ++ [0]) with
 | none => none
 | some (.exit d5) =>
  if (0 : Int) <= IntKind.i64.wrap ((d5.1.length : Int) - (r4.length : Int)) then if IntKind.i64.wrap ((d5.1.length : Int) - (r4.length : Int)) <= IntKind.i64.wrap ((d5.1.length : Int) - (r4.length : Int)) then if (IntKind.i64.wrap ((d5.1.length : Int) - (r4.length : Int))) * 4 <= 281474976710656 then
  match z5c k (r4.length : Int) (IntKind.i64.wrap ((IntKind.i64.wrap ((d5.1.length : Int) - (r4.length : Int))) - 1)) d5.1 r4 (List.replicate ((IntKind.i64.wrap ((d5.1.length : Int) - (r4.length : Int))).toNat) 0) with
  | none => none
  | some (.exit d6) =>
   (z7r fuel d6.1).bind fun r7 =>
   (zc3 fuel r7 (IntKind.u32.wrap (IntKind.u64.wrap ((1000000000 : Int).tdiv (IntKind.u64.wrap ((IntKind.u64.wrap (a1.getD ((IntKind.i64.wrap ((a1.length : Int) - 1)).toNat) 0)) + 1)))))).bind fun r8 =>
   (z7r fuel d6.2.1).bind fun r9 =>
   some (r9, r8.1)
  | some (.ret d6) =>
   none
  else none else none else none
 | some (.ret d5) =>
  none
 else none else none else none
def y8y (k : Nat) : Vm.Spec := { ps := [.slice (.int .u32), .slice (.int .u32)], rs := [.imm (.slice (.int .u32)), .imm (.slice (.int .u32))], f := fun x => zf2 k x.1 x.2 }
noncomputable def y51 : Vm.Spec := y8y fuel
theorem zy4 : Vm.Spec.holds Tryz.prog 79 y51 := z0v (E := w2o) (L := yy9) (fn := Tryz.f79) (Z := y8y) (z1h ok) (z0n (by exact ⟨⟨by kernel_rfl, z87⟩, ⟨by kernel_rfl, z86⟩, ⟨by kernel_rfl, zu1⟩, ⟨by kernel_rfl, y5a⟩, trivial⟩)) z0w (zb8 (by exact ⟨by kernel_rfl, by kernel_rfl, by kernel_rfl, by kernel_rfl, trivial⟩)) (z4b (by exact ⟨(z26 [[79]] (by exact ⟨z0i (ls := [(4, z7w)]) rfl rfl ⟨by kernel_rfl, fun _ => rfl, fun _ _ => by kernel_rfl, z0j (by kernel_rfl)⟩,  trivial⟩) rfl), (z26 [[79]] (by exact ⟨z0i (ls := [(2, z8p)]) rfl rfl ⟨by kernel_rfl, fun _ => rfl, fun _ _ => by kernel_rfl, z0j (by kernel_rfl)⟩,  trivial⟩) rfl),  trivial⟩)) (by kernel_rfl) (by kernel_rfl) (z0i (ls := [(7, y4h), (12, y2k), (16, y2m)]) rfl rfl ⟨by kernel_rfl, fun _ => rfl, fun _ _ => by kernel_rfl, by kernel_rfl, fun _ => rfl, fun _ _ => by kernel_rfl, by kernel_rfl, fun _ => rfl, fun _ _ => by kernel_rfl, z0j (by kernel_rfl)⟩) fun k x => by kernel_rfl
noncomputable def w2p : Env := { te := te, spec := [(79, y51)], body := [] }
def ym8 : Ann := { slots := [(0, .one (.val (.slice (.int .u32)))), (1, .one (.val (.slice (.int .u32))))], objs := [] }
def y4k : Ann := { slots := [(0, .one (.val (.slice (.int .u32))))], objs := [] }
def z8f : Nat -> List Int -> List Int -> Option (LR y4k a0)
 | 0, _, _ => none
 | m + 1, s0, s1 =>
  if decide ((s1.length : Int) > 0) = true then
  (zf2 fuel s0 s1).bind fun r1 =>
  z8f m s1 r1.2
  else
  some (.exit (s0, ()))
def y4j : LSpec := { h := ym8, x := y4k, r := a0, xid := 0, rt := false, pins := [], f := fun k d => z8f k d.1 d.2.1 }
def yz0 : z1w := [([75], [(1, y4j)])]
def z6l (k : Nat) (a0 : List Int) (a1 : List Int) : Option (List Int) :=
 match z8f k a0 a1 with
 | none => none
 | some (.exit d1) =>
  some d1.1
 | some (.ret d1) =>
  none
def y8z (k : Nat) : Vm.Spec := { ps := [.slice (.int .u32), .slice (.int .u32)], rs := [.imm (.slice (.int .u32))], f := fun x => z6l k x.1 x.2 }
noncomputable def y52 : Vm.Spec := y8z fuel
theorem zy5 : Vm.Spec.holds Tryz.prog 75 y52 := z0v (E := w2p) (L := yz0) (fn := Tryz.f75) (Z := y8z) (z1h ok) (z0n (by exact ⟨⟨by kernel_rfl, zy4⟩, trivial⟩)) z0w (z07 rfl) (z01 rfl) (by kernel_rfl) (by kernel_rfl) (z0i (ls := [(1, y4j)]) rfl rfl ⟨by kernel_rfl, fun _ => rfl, fun _ _ => by kernel_rfl, z0j (by kernel_rfl)⟩) fun k x => by kernel_rfl
noncomputable def w2s : Env := { te := te, spec := [(49, y34), (55, zn9), (66, z9i), (67, y0i), (68, y7u), (74, yd2), (75, y52)], body := [] }
def yz3 : z1w := []
def z9k (k : Nat) (a0 : ByteArray) : Option (Int) :=
 (z2o fuel a0 (⟨#[45]⟩ : ByteArray)).bind fun r1 =>
 (z5t fuel r1.1 (⟨#[47]⟩ : ByteArray)).bind fun r2 =>
 (z6k fuel r2.1).bind fun r3 =>
 if r2.2.2 = true then
 (z6k fuel r2.2.1).bind fun r4 =>
 if (r3 == 5) = false then if (r4 == 5) = false then if r1.2 = true then if ((r2.1.toList == (⟨#[48]⟩ : ByteArray).toList)) = true then
 some 5
 else
 if (r3 != 0) = false then if (r4 != 0) = true then
 some 2
 else
 if r2.2.2 = true then if ((r2.2.1.toList == (⟨#[48]⟩ : ByteArray).toList)) = false then if ((r2.2.1.toList == (⟨#[49]⟩ : ByteArray).toList)) = false then
 (z3r fuel r2.1).bind fun r5 =>
 (z3r fuel r2.2.1).bind fun r6 =>
 (z6l fuel r5 r6).bind fun r7 =>
 (z69 fuel 1).bind fun r8 =>
 (z4v fuel r7 r8).bind fun r9 =>
 if (r9 != 0) = true then
 some 3
 else
 some 0
 else
 some 3
 else
 some 3
 else
 some 0
 else
 some 2
 else
 if (r3 != 0) = false then if (r4 != 0) = true then
 some 2
 else
 if r2.2.2 = true then if ((r2.2.1.toList == (⟨#[48]⟩ : ByteArray).toList)) = false then if ((r2.2.1.toList == (⟨#[49]⟩ : ByteArray).toList)) = false then
 (z3r fuel r2.1).bind fun r10 =>
 (z3r fuel r2.2.1).bind fun r11 =>
 (z6l fuel r10 r11).bind fun r12 =>
 (z69 fuel 1).bind fun r13 =>
 (z4v fuel r12 r13).bind fun r14 =>
 if (r14 != 0) = true then
 some 3
 else
 some 0
 else
 some 3
 else
 some 3
 else
 some 0
 else
 some 2
 else
 some 5
 else
 some 5
 else
 if (r3 == 5) = false then if r1.2 = true then if ((r2.1.toList == (⟨#[48]⟩ : ByteArray).toList)) = true then
 some 5
 else
 if (r3 != 0) = false then if r2.2.2 = true then if ((r2.2.1.toList == (⟨#[48]⟩ : ByteArray).toList)) = false then if ((r2.2.1.toList == (⟨#[49]⟩ : ByteArray).toList)) = false then
 (z3r fuel r2.1).bind fun r15 =>
 (z3r fuel r2.2.1).bind fun r16 =>
 (z6l fuel r15 r16).bind fun r17 =>
 (z69 fuel 1).bind fun r18 =>
 (z4v fuel r17 r18).bind fun r19 =>
 if (r19 != 0) = true then
 some 3
 else
 some 0
 else
 some 3
 else
 some 3
 else
 some 0
 else
 some 2
 else
 if (r3 != 0) = false then if r2.2.2 = true then if ((r2.2.1.toList == (⟨#[48]⟩ : ByteArray).toList)) = false then if ((r2.2.1.toList == (⟨#[49]⟩ : ByteArray).toList)) = false then
 (z3r fuel r2.1).bind fun r20 =>
 (z3r fuel r2.2.1).bind fun r21 =>
 (z6l fuel r20 r21).bind fun r22 =>
 (z69 fuel 1).bind fun r23 =>
 (z4v fuel r22 r23).bind fun r24 =>
 if (r24 != 0) = true then
 some 3
 else
 some 0
 else
 some 3
 else
 some 3
 else
 some 0
 else
 some 2
 else
 some 5
def y92 (k : Nat) : Vm.Spec := { ps := [.str], rs := [.imm (.int .i64)], f := fun x => z9k k x }
noncomputable def y53 : Vm.Spec := y92 fuel
theorem zy6 : Vm.Spec.holds Tryz.prog 41 y53 := z0v (E := w2s) (L := yz3) (fn := Tryz.f41) (Z := y92) (z1h ok) (z0n (by exact ⟨⟨by kernel_rfl, z99⟩, ⟨by kernel_rfl, z86⟩, ⟨by kernel_rfl, z9a⟩, ⟨by kernel_rfl, zp6⟩, ⟨by kernel_rfl, y18⟩, ⟨by kernel_rfl, y84⟩, ⟨by kernel_rfl, zy5⟩, trivial⟩)) z0w (z07 rfl) (z01 rfl) (by kernel_rfl) (by kernel_rfl) (z0o rfl) fun k x => by kernel_rfl
noncomputable def yl1 : Env := { te := te, spec := [(41, y53)], body := [] }
def y8c : Ann := { slots := [(6, .one (.val (.slice .str))), (7, .one (.val (.int .i64))), (8, .one (.val (.int .i64)))], objs := [] }
def zz6 : Ann := { slots := [(2, .one (.val (.int .i64)))], objs := [] }
def z2w : Nat -> List ByteArray -> Int -> Int -> Option (LR a0 zz6)
 | 0, _, _, _ => none
 | m + 1, s6, s7, s8 =>
  if decide (s8 < s7) = true then if (0 : Int) <= s8 then if s8 < s6.length then
  (z9k fuel (s6.getD s8.toNat ByteArray.empty)).bind fun r1 =>
  if (r1 != 0) = true then
  some (.ret (r1, ()))
  else
  z2w m s6 s7 (IntKind.i64.wrap (s8 + 1))
  else none else none
  else
  some (.exit ())
def zz5 : LSpec := { h := y8c, x := a0, r := zz6, xid := 0, rt := true, pins := [], f := fun k d => z2w k d.1 d.2.1 d.2.2.1 }
def yd1 : z1w := [([44], [(2, zz5)])]
def z3g (k : Nat) (a0 : List ByteArray) : Option (Int) :=
 match z2w k a0 (a0.length : Int) 0 with
 | none => none
 | some (.exit d1) =>
  some 0
 | some (.ret d1) =>
  some d1.1
def y22 (k : Nat) : Vm.Spec := { ps := [.slice .str], rs := [.imm (.int .i64)], f := fun x => z3g k x }
noncomputable def zg7 : Vm.Spec := y22 fuel
theorem z92 : Vm.Spec.holds Tryz.prog 44 zg7 := z0v (E := yl1) (L := yd1) (fn := Tryz.f44) (Z := y22) (z1h ok) (z0n (by exact ⟨⟨by kernel_rfl, zy6⟩, trivial⟩)) z0w (z07 rfl) (z01 rfl) (by kernel_rfl) (by kernel_rfl) (z0i (ls := [(2, zz5)]) rfl rfl ⟨by kernel_rfl, fun _ => rfl, fun _ _ => by kernel_rfl, z0j (by kernel_rfl)⟩) fun k x => by kernel_rfl
noncomputable def y7o : Env := { te := te, spec := [(44, zg7)], body := [] }
def y5x : z1w := []
def z1g (k : Nat) (a0 : List ByteArray) : Option (Int) :=
 if decide ((a0.length : Int) > 40) = true then
 some 2
 else
 (z3g fuel a0).bind fun r1 =>
 some r1
def zt8 (k : Nat) : Vm.Spec := { ps := [.slice .str], rs := [.imm (.int .i64)], f := fun x => z1g k x }
noncomputable def z6b : Vm.Spec := zt8 fuel
theorem z55 : Vm.Spec.holds Tryz.prog 71 z6b := z0v (E := y7o) (L := y5x) (fn := Tryz.f71) (Z := zt8) (z1h ok) (z0n (by exact ⟨⟨by kernel_rfl, z92⟩, trivial⟩)) z0w (z07 rfl) (z01 rfl) (by kernel_rfl) (by kernel_rfl) (z0o rfl) fun k x => by kernel_rfl
noncomputable def yk8 : Env := { te := te, spec := [(71, z6b)], body := [] }
def y8b : Ann := { slots := [(0, .one (.val (.slice (.slice .str)))), (9, .one (.val (.slice (.slice .str)))), (10, .one (.val (.int .i64))), (11, .one (.val (.int .i64)))], objs := [] }
def zz4 : Ann := { slots := [(2, .one (.val (.int .i64)))], objs := [] }
def z2v : Nat -> List (List ByteArray) -> List (List ByteArray) -> Int -> Int -> Option (LR a0 zz4)
 | 0, _, _, _, _ => none
 | m + 1, s0, s9, s10, s11 =>
  if decide (s11 < s10) = true then if (0 : Int) <= s11 then if s11 < s9.length then if (0 : Int) < s0.length then if (((s9.getD s11.toNat []).length : Int) != ((s0.getD 0 []).length : Int)) = true then
  some (.ret (3, ()))
  else
  (z1g fuel (s9.getD s11.toNat [])).bind fun r1 =>
  if (r1 != 0) = true then
  some (.ret (r1, ()))
  else
  z2v m s0 s9 s10 (IntKind.i64.wrap (s11 + 1))
  else none else none else none
  else
  some (.exit ())
def zz3 : LSpec := { h := y8b, x := a0, r := zz4, xid := 0, rt := true, pins := [], f := fun k d => z2v k d.1 d.2.1 d.2.2.1 d.2.2.2.1 }
def yc8 : z1w := [([36], [(4, zz3)])]
def z4c (k : Nat) (a0 : List (List ByteArray)) : Option (Int) :=
 if decide ((a0.length : Int) > 40) = true then
 some 2
 else
 match z2v k a0 a0 (a0.length : Int) 0 with
 | none => none
 | some (.exit d1) =>
  some 0
 | some (.ret d1) =>
  some d1.1
def y1z (k : Nat) : Vm.Spec := { ps := [.slice (.slice .str)], rs := [.imm (.int .i64)], f := fun x => z4c k x }
noncomputable def zg5 : Vm.Spec := y1z fuel
theorem z90 : Vm.Spec.holds Tryz.prog 36 zg5 := z0v (E := yk8) (L := yc8) (fn := Tryz.f36) (Z := y1z) (z1h ok) (z0n (by exact ⟨⟨by kernel_rfl, z55⟩, trivial⟩)) z0w (z07 rfl) (z01 rfl) (by kernel_rfl) (by kernel_rfl) (z0i (ls := [(4, zz3)]) rfl rfl ⟨by kernel_rfl, fun _ => rfl, fun _ _ => by kernel_rfl, z0j (by kernel_rfl)⟩) fun k x => by kernel_rfl
noncomputable def yk9 : Env := { te := te, spec := [], body := [] }
def yc9 : z1w := []
def z65 (k : Nat) (a0 : List (List ByteArray)) : Option (Int) :=
 if ((a0.length : Int) == 0) = true then
 some 0
 else
 if (0 : Int) < a0.length then
 some ((a0.getD 0 []).length : Int)
 else none
def y20 (k : Nat) : Vm.Spec := { ps := [.slice (.slice .str)], rs := [.imm (.int .i64)], f := fun x => z65 k x }
noncomputable def zg6 : Vm.Spec := y20 fuel
theorem z91 : Vm.Spec.holds Tryz.prog 37 zg6 := z0v (E := yk9) (L := yc9) (fn := Tryz.f37) (Z := y20) (z1h ok) (z0n (by exact trivial)) z0w (z07 rfl) (z01 rfl) (by kernel_rfl) (by kernel_rfl) (z0o rfl) fun k x => by kernel_rfl
noncomputable def yc2 : Env := { te := te, spec := [(36, zg5), (37, zg6)], body := [] }
def y9u : z1w := []
def z2g (k : Nat) (a0 : List (List ByteArray)) : Option (Int) :=
 if decide ((a0.length : Int) > 12) = true then
 some 2
 else
 (z4c fuel a0).bind fun r1 =>
 if (r1 != 0) = true then
 some r1
 else
 (z65 fuel a0).bind fun r2 =>
 if (r2 == 0) = true then
 some 8
 else
 if (0 : Int) < a0.length then if decide (((a0.getD 0 []).length : Int) > 12) = true then
 some 2
 else
 some 0
 else none
def y12 (k : Nat) : Vm.Spec := { ps := [.slice (.slice .str)], rs := [.imm (.int .i64)], f := fun x => z2g k x }
noncomputable def z6a : Vm.Spec := y12 fuel
theorem z4j : Vm.Spec.holds Tryz.prog 8 z6a := z0v (E := yc2) (L := y9u) (fn := Tryz.f8) (Z := y12) (z1h ok) (z0n (by exact ⟨⟨by kernel_rfl, z90⟩, ⟨by kernel_rfl, z91⟩, trivial⟩)) z0w (z07 rfl) (z01 rfl) (by kernel_rfl) (by kernel_rfl) (z0o rfl) fun k x => by kernel_rfl
noncomputable def wi7 : Env := { te := te, spec := [(49, y34), (66, z9i), (67, y0i), (68, y7u)], body := [] }
def w8q : z1w := []
def zc4 (k : Nat) (a0 : ByteArray) : Option (Bool × ((List Int) × (List Int))) :=
 (z2o fuel a0 (⟨#[45]⟩ : ByteArray)).bind fun r1 =>
 (z5t fuel r1.1 (⟨#[47]⟩ : ByteArray)).bind fun r2 =>
 (z3r fuel r2.1).bind fun r3 =>
 (z69 fuel 1).bind fun r4 =>
 if r2.2.2 = true then
 (z3r fuel r2.2.1).bind fun r5 =>
 some (r1.2, (r3, r5))
 else
 some (r1.2, (r3, r4))
def w04 (k : Nat) : Vm.Spec := { ps := [.str], rs := [.imm qT], f := fun x => zc4 k x }
noncomputable def y0f : Vm.Spec := w04 fuel
theorem z76 : Vm.Spec.holds Tryz.prog 31 y0f := z0v (E := wi7) (L := w8q) (fn := Tryz.f31) (Z := w04) (z1h ok) (z0n (by exact ⟨⟨by kernel_rfl, z99⟩, ⟨by kernel_rfl, z9a⟩, ⟨by kernel_rfl, zp6⟩, ⟨by kernel_rfl, y18⟩, trivial⟩)) z0w (z07 rfl) (z01 rfl) (by kernel_rfl) (by kernel_rfl) (z0o rfl) fun k x => by kernel_rfl
noncomputable def yy1 : Env := { te := te, spec := [(31, y0f)], body := [] }
def yg7 : Ann := { slots := [(3, .one (.own 64 qT)), (6, .one (.val (.slice .str))), (7, .one (.val (.int .i64))), (8, .one (.val (.int .i64)))], objs := [(64, .buf qT)] }
def y2j : Ann := { slots := [(3, .one (.own 64 qT))], objs := [(64, .buf qT)] }
def z77 : Nat -> List ByteArray -> Int -> Int -> List (Bool × ((List Int) × (List Int))) -> Option (LR y2j a0)
 | 0, _, _, _, _ => none
 | m + 1, s6, s7, s8, b64 =>
  if decide (s8 < s7) = true then if (0 : Int) <= s8 then if s8 < s6.length then
  (zc4 fuel (s6.getD s8.toNat ByteArray.empty)).bind fun r1 =>
  if (b64.length + 1) * 56 <= 140737488355328 then
  z77 m s6 s7 (IntKind.i64.wrap (s8 + 1)) (b64 ++ [r1])
  else none else none else none
  else
  some (.exit (b64, ()))
def y2i : LSpec := { h := yg7, x := y2j, r := a0, xid := 0, rt := false, pins := [], f := fun k d => z77 k d.1 d.2.1 d.2.2.1 d.2.2.2.1 }
def ys5 : z1w := [([42], [(3, y2i)])]
def z2n (k : Nat) (a0 : List ByteArray) : Option (List (Bool × ((List Int) × (List Int)))) :=
 match z77 k a0 (a0.length : Int) 0 [] with
 | none => none
 | some (.exit d1) =>
  some d1.1
 | some (.ret d1) =>
  none
def y66 (k : Nat) : Vm.Spec := { ps := [.slice .str], rs := [.fresh qT], f := fun x => z2n k x }
noncomputable def z7m : Vm.Spec := y66 fuel
theorem z4n : Vm.Spec.holds Tryz.prog 42 z7m := z0v (E := yy1) (L := ys5) (fn := Tryz.f42) (Z := y66) (z1h ok) (z0n (by exact ⟨⟨by kernel_rfl, z76⟩, trivial⟩)) z0w (z07 rfl) (z01 rfl) (by kernel_rfl) (by kernel_rfl) (z0i (ls := [(3, y2i)]) rfl rfl ⟨by kernel_rfl, fun _ => rfl, fun _ _ => by kernel_rfl, z0j (by kernel_rfl)⟩) fun k x => by kernel_rfl
noncomputable def w2k : Env := { te := te, spec := [(42, z7m)], body := [] }
def ym3 : Ann := { slots := [(3, .one (.own 64 (.slice qT))), (6, .one (.val (.slice (.slice .str)))), (7, .one (.val (.int .i64))), (8, .one (.val (.int .i64)))], objs := [(64, .buf (.slice qT))] }
def y4a : Ann := { slots := [(3, .one (.own 64 (.slice qT)))], objs := [(64, .buf (.slice qT))] }
def z8d : Nat -> List (List ByteArray) -> Int -> Int -> List (List (Bool × ((List Int) × (List Int)))) -> Option (LR y4a a0)
 | 0, _, _, _, _ => none
 | m + 1, s6, s7, s8, b64 =>
  if decide (s8 < s7) = true then if (0 : Int) <= s8 then if s8 < s6.length then
  (z2n fuel (s6.getD s8.toNat [])).bind fun r1 =>
  if (b64.length + 1) * 24 <= 140737488355328 then
  z8d m s6 s7 (IntKind.i64.wrap (s8 + 1)) (b64 ++ [r1])
  else none else none else none
  else
  some (.exit (b64, ()))
def y49 : LSpec := { h := ym3, x := y4a, r := a0, xid := 0, rt := false, pins := [], f := fun k d => z8d k d.1 d.2.1 d.2.2.1 d.2.2.2.1 }
def yy5 : z1w := [([22], [(3, y49)])]
def z64 (k : Nat) (a0 : List (List ByteArray)) : Option (List (List (Bool × ((List Int) × (List Int))))) :=
 match z8d k a0 (a0.length : Int) 0 [] with
 | none => none
 | some (.exit d1) =>
  some d1.1
 | some (.ret d1) =>
  none
def y8u (k : Nat) : Vm.Spec := { ps := [.slice (.slice .str)], rs := [.fresh (.slice qT)], f := fun x => z64 k x }
noncomputable def ze9 : Vm.Spec := y8u fuel
theorem z6d : Vm.Spec.holds Tryz.prog 22 ze9 := z0v (E := w2k) (L := yy5) (fn := Tryz.f22) (Z := y8u) (z1h ok) (z0n (by exact ⟨⟨by kernel_rfl, z4n⟩, trivial⟩)) z0w (z07 rfl) (z01 rfl) (by kernel_rfl) (by kernel_rfl) (z0i (ls := [(3, y49)]) rfl rfl ⟨by kernel_rfl, fun _ => rfl, fun _ _ => by kernel_rfl, z0j (by kernel_rfl)⟩) fun k x => by kernel_rfl
noncomputable def w8m : Env := { te := te, spec := [(49, y34)], body := [] }
def w76 : z1w := []
def z6f (k : Nat) (a0 : Int) : Option (Bool × ((List Int) × (List Int))) :=
 if decide (a0 < 0) = true then
 (z69 fuel (IntKind.i64.wrap (0 - a0))).bind fun r1 =>
 (z69 fuel 1).bind fun r2 =>
 some (true, (r1, r2))
 else
 (z69 fuel a0).bind fun r3 =>
 (z69 fuel 1).bind fun r4 =>
 some (false, (r3, r4))
def yo3 (k : Nat) : Vm.Spec := { ps := [.int .i64], rs := [.imm qT], f := fun x => z6f k x }
noncomputable def yd5 : Vm.Spec := yo3 fuel
theorem y29 : Vm.Spec.holds Tryz.prog 23 yd5 := z0v (E := w8m) (L := w76) (fn := Tryz.f23) (Z := yo3) (z1h ok) (z0n (by exact ⟨⟨by kernel_rfl, z99⟩, trivial⟩)) z0w (z07 rfl) (z01 rfl) (by kernel_rfl) (by kernel_rfl) (z0o rfl) fun k x => by kernel_rfl
noncomputable def ys0 : Env := { te := te, spec := [(49, y34)], body := [] }
def yl5 : z1w := []
def z37 (k : Nat) (a0 : Bool × ((List Int) × (List Int))) : Option (List Int) :=
 if ((a0.2.2.length : Int) == 0) = true then
 (z69 fuel 1).bind fun r1 =>
 some r1
 else
 some a0.2.2
def y42 (k : Nat) : Vm.Spec := { ps := [qT], rs := [.imm (.slice (.int .u32))], f := fun x => z37 k x }
noncomputable def zb3 : Vm.Spec := y42 fuel
theorem z6n : Vm.Spec.holds Tryz.prog 52 zb3 := z0v (E := ys0) (L := yl5) (fn := Tryz.f52) (Z := y42) (z1h ok) (z0n (by exact ⟨⟨by kernel_rfl, z99⟩, trivial⟩)) z0w (z07 rfl) (z01 rfl) (by kernel_rfl) (by kernel_rfl) (z0o rfl) fun k x => by kernel_rfl
noncomputable def w8o : Env := { te := te, spec := [(49, y34), (55, zn9), (75, y52), (79, y51)], body := [] }
def w78 : z1w := []
def zi0 (k : Nat) (a0 : Bool) (a1 : List Int) (a2 : List Int) : Option (Bool × ((List Int) × (List Int))) :=
 if ((a1.length : Int) == 0) = true then
 some (false, ([], []))
 else
 (z6l fuel a1 a2).bind fun r1 =>
 (z69 fuel 1).bind fun r2 =>
 (z4v fuel r1 r2).bind fun r3 =>
 if decide (r3 > 0) = true then
 (zf2 fuel a1 r1).bind fun r4 =>
 (zf2 fuel a2 r1).bind fun r5 =>
 some (a0, (r4.1, r5.1))
 else
 some (a0, (a1, a2))
def yo5 (k : Nat) : Vm.Spec := { ps := [.bool, .slice (.int .u32), .slice (.int .u32)], rs := [.imm qT], f := fun x => zi0 k x.1 x.2.1 x.2.2 }
noncomputable def y62 : Vm.Spec := yo5 fuel
theorem zp5 : Vm.Spec.holds Tryz.prog 53 y62 := z0v (E := w8o) (L := w78) (fn := Tryz.f53) (Z := yo5) (z1h ok) (z0n (by exact ⟨⟨by kernel_rfl, z99⟩, ⟨by kernel_rfl, z86⟩, ⟨by kernel_rfl, zy5⟩, ⟨by kernel_rfl, zy4⟩, trivial⟩)) z0w (z07 rfl) (z01 rfl) (by kernel_rfl) (by kernel_rfl) (z0o rfl) fun k x => by kernel_rfl
noncomputable def w2m : Env := { te := te, spec := [], body := [] }
def ym5 : Ann := { slots := [(1, .one (.val (.slice (.int .u32)))), (5, .one (.own 76 (.int .u32))), (6, .one (.val (.int .u32))), (20, .one (.val (.slice (.int .u32)))), (21, .one (.val (.int .i64))), (22, .one (.val (.int .i64)))], objs := [(76, .buf (.int .u32))] }
def y4e : Ann := { slots := [(5, .one (.own 76 (.int .u32))), (6, .one (.val (.int .u32)))], objs := [(76, .buf (.int .u32))] }
def z5y : Nat -> List Int -> Int -> List Int -> Int -> Int -> List Int -> Option (LR y4e a0)
 | 0, _, _, _, _, _, _ => none
 | m + 1, s1, s6, s20, s21, s22, b76 =>
  if decide (s22 < s21) = true then if (0 : Int) <= s22 then if s22 < s20.length then if decide (s22 < (s1.length : Int)) = true then if (0 : Int) <= s22 then if s22 < s1.length then if (b76.length + 1) * 4 <= 140737488355328 then
  z5y m s1 (IntKind.u32.wrap ((IntKind.u32.wrap ((IntKind.u32.wrap ((s20.getD s22.toNat 0) + s6)) + (s1.getD s22.toNat 0))).tdiv 1000000000)) s20 s21 (IntKind.i64.wrap (s22 + 1)) (b76 ++ [(IntKind.u32.wrap ((IntKind.u32.wrap ((s20.getD s22.toNat 0) + s6)) + (s1.getD s22.toNat 0))).tmod 1000000000])
  else none else none else none
  else
  if (b76.length + 1) * 4 <= 140737488355328 then
  z5y m s1 (IntKind.u32.wrap ((IntKind.u32.wrap ((s20.getD s22.toNat 0) + s6)).tdiv 1000000000)) s20 s21 (IntKind.i64.wrap (s22 + 1)) (b76 ++ [(IntKind.u32.wrap ((s20.getD s22.toNat 0) + s6)).tmod 1000000000])
  else none else none else none
  else
  some (.exit (s6, b76, ()))
def y4d : LSpec := { h := ym5, x := y4e, r := a0, xid := 0, rt := false, pins := [], f := fun k d => z5y k d.1 d.2.1 d.2.2.1 d.2.2.2.1 d.2.2.2.2.1 d.2.2.2.2.2.1 }
def yy7 : z1w := [([54], [(6, y4d)])]
def y0o (k : Nat) (a0 : List Int) (a1 : List Int) : Option (List Int) :=
 if decide ((a0.length : Int) < (a1.length : Int)) = true then if (0 : Int) <= IntKind.i64.wrap ((a1.length : Int) + 1) then if (IntKind.i64.wrap ((a1.length : Int) + 1)) * 4 <= 281474976710656 then
 match z5y k a0 0 a1 (a1.length : Int) 0 (List.replicate 0 0) with
 | none => none
 | some (.exit d1) =>
  if decide (d1.1 > 0) = true then if (d1.2.1.length + 1) * 4 <= 140737488355328 then
  some (d1.2.1 ++ [d1.1])
  else none
  else
  some d1.2.1
 | some (.ret d1) =>
  none
 else none else none
 else
 if (0 : Int) <= IntKind.i64.wrap ((a0.length : Int) + 1) then if (IntKind.i64.wrap ((a0.length : Int) + 1)) * 4 <= 281474976710656 then
 match z5y k a1 0 a0 (a0.length : Int) 0 (List.replicate 0 0) with
 | none => none
 | some (.exit d2) =>
  if decide (d2.1 > 0) = true then if (d2.2.1.length + 1) * 4 <= 140737488355328 then
  some (d2.2.1 ++ [d2.1])
  else none
  else
  some d2.2.1
 | some (.ret d2) =>
  none
 else none else none
def y8w (k : Nat) : Vm.Spec := { ps := [.slice (.int .u32), .slice (.int .u32)], rs := [.fresh (.int .u32)], f := fun x => y0o k x.1 x.2 }
noncomputable def yd3 : Vm.Spec := y8w fuel
theorem y85 : Vm.Spec.holds Tryz.prog 54 yd3 := z0v (E := w2m) (L := yy7) (fn := Tryz.f54) (Z := y8w) (z1h ok) (z0n (by exact trivial)) z0w (z07 rfl) (z01 rfl) (by kernel_rfl) (by kernel_rfl) (z0i (ls := [(6, y4d)]) rfl rfl ⟨by kernel_rfl, fun _ => rfl, fun _ _ => by kernel_rfl, z0j (by kernel_rfl)⟩) fun k x => by kernel_rfl
noncomputable def w2t : Env := { te := te, spec := [(51, zo0), (52, zb3), (53, y62), (54, yd3), (55, zn9), (56, yd4)], body := [] }
def yz4 : z1w := []
def z5g (k : Nat) (a0 : Bool × ((List Int) × (List Int))) (a1 : Bool × ((List Int) × (List Int))) : Option (Bool × ((List Int) × (List Int))) :=
 if ((a0.2.1.length : Int) == 0) = true then
 some a1
 else
 if ((a1.2.1.length : Int) == 0) = true then
 some a0
 else
 (z37 fuel a1).bind fun r1 =>
 (z4w fuel a0.2.1 r1).bind fun r2 =>
 (z37 fuel a0).bind fun r3 =>
 (z4w fuel a1.2.1 r3).bind fun r4 =>
 (z37 fuel a0).bind fun r5 =>
 (z37 fuel a1).bind fun r6 =>
 (z4w fuel r5 r6).bind fun r7 =>
 if (a0.1 == a1.1) = true then
 (y0o fuel r2 r4).bind fun r8 =>
 (zi0 fuel a0.1 r8 r7).bind fun r9 =>
 some r9
 else
 (z4v fuel r2 r4).bind fun r10 =>
 if decide (r10 >= 0) = true then
 (zp3 fuel r2 r4).bind fun r11 =>
 (zi0 fuel a0.1 r11 r7).bind fun r12 =>
 some r12
 else
 (zp3 fuel r4 r2).bind fun r13 =>
 (zi0 fuel a1.1 r13 r7).bind fun r14 =>
 some r14
def y93 (k : Nat) : Vm.Spec := { ps := [qT, qT], rs := [.imm qT], f := fun x => z5g k x.1 x.2 }
noncomputable def zf0 : Vm.Spec := y93 fuel
theorem z6g : Vm.Spec.holds Tryz.prog 26 zf0 := z0v (E := w2t) (L := yz4) (fn := Tryz.f26) (Z := y93) (z1h ok) (z0n (by exact ⟨⟨by kernel_rfl, z87⟩, ⟨by kernel_rfl, z6n⟩, ⟨by kernel_rfl, zp5⟩, ⟨by kernel_rfl, y85⟩, ⟨by kernel_rfl, z86⟩, ⟨by kernel_rfl, y86⟩, trivial⟩)) z0w (z07 rfl) (z01 rfl) (by kernel_rfl) (by kernel_rfl) (z0o rfl) fun k x => by kernel_rfl
noncomputable def w2w : Env := { te := te, spec := [], body := [] }
def yz7 : z1w := []
def z9l (k : Nat) (a0 : Bool × ((List Int) × (List Int))) : Option (Bool × ((List Int) × (List Int))) :=
 if ((a0.2.1.length : Int) == 0) = true then
 some a0
 else
 some (!a0.1, a0.2)
def y96 (k : Nat) : Vm.Spec := { ps := [qT], rs := [.imm qT], f := fun x => z9l k x }
noncomputable def y54 : Vm.Spec := y96 fuel
theorem zy7 : Vm.Spec.holds Tryz.prog 50 y54 := z0v (E := w2w) (L := yz7) (fn := Tryz.f50) (Z := y96) (z1h ok) (z0n (by exact trivial)) z0w (z07 rfl) (z01 rfl) (by kernel_rfl) (by kernel_rfl) (z0o rfl) fun k x => by kernel_rfl
noncomputable def w2z : Env := { te := te, spec := [(26, zf0), (50, y54)], body := [] }
def w01 : z1w := []
def z47 (k : Nat) (a0 : Bool × ((List Int) × (List Int))) (a1 : Bool × ((List Int) × (List Int))) : Option (Bool × ((List Int) × (List Int))) :=
 (z9l fuel a1).bind fun r1 =>
 (z5g fuel a0 r1).bind fun r2 =>
 some r2
def y99 (k : Nat) : Vm.Spec := { ps := [qT, qT], rs := [.imm qT], f := fun x => z47 k x.1 x.2 }
noncomputable def y0h : Vm.Spec := y99 fuel
theorem zf4 : Vm.Spec.holds Tryz.prog 24 y0h := z0v (E := w2z) (L := w01) (fn := Tryz.f24) (Z := y99) (z1h ok) (z0n (by exact ⟨⟨by kernel_rfl, z6g⟩, ⟨by kernel_rfl, zy7⟩, trivial⟩)) z0w (z07 rfl) (z01 rfl) (by kernel_rfl) (by kernel_rfl) (z0o rfl) fun k x => by kernel_rfl
noncomputable def yy4 : Env := { te := te, spec := [], body := [] }
def ys8 : z1w := []
def z30 (k : Nat) (a0 : Bool × ((List Int) × (List Int))) : Option (Int) :=
 if ((a0.2.1.length : Int) == 0) = true then
 some 0
 else
 if a0.1 = true then
 some (-1)
 else
 some 1
def y69 (k : Nat) : Vm.Spec := { ps := [qT], rs := [.imm (.int .i64)], f := fun x => z30 k x }
noncomputable def zh3 : Vm.Spec := y69 fuel
theorem z7h : Vm.Spec.holds Tryz.prog 76 zh3 := z0v (E := yy4) (L := ys8) (fn := Tryz.f76) (Z := y69) (z1h ok) (z0n (by exact trivial)) z0w (z07 rfl) (z01 rfl) (by kernel_rfl) (by kernel_rfl) (z0o rfl) fun k x => by kernel_rfl
noncomputable def w2u : Env := { te := te, spec := [(24, y0h), (76, zh3)], body := [] }
def yz5 : z1w := []
def z44 (k : Nat) (a0 : Bool × ((List Int) × (List Int))) (a1 : Bool × ((List Int) × (List Int))) : Option (Int) :=
 (z47 fuel a0 a1).bind fun r1 =>
 (z30 fuel r1).bind fun r2 =>
 some r2
def y94 (k : Nat) : Vm.Spec := { ps := [qT, qT], rs := [.imm (.int .i64)], f := fun x => z44 k x.1 x.2 }
noncomputable def z7n : Vm.Spec := y94 fuel
theorem z45 : Vm.Spec.holds Tryz.prog 43 z7n := z0v (E := w2u) (L := yz5) (fn := Tryz.f43) (Z := y94) (z1h ok) (z0n (by exact ⟨⟨by kernel_rfl, zf4⟩, ⟨by kernel_rfl, z7h⟩, trivial⟩)) z0w (z07 rfl) (z01 rfl) (by kernel_rfl) (by kernel_rfl) (z0o rfl) fun k x => by kernel_rfl
noncomputable def y1h : Env := { te := te, spec := [], body := [] }
def zw6 : Ann := { slots := [(0, .one (.val .str)), (1, .one (.val (.int .u8)))], objs := [] }
def z9e : Ann := { slots := [(0, .one (.val .str))], objs := [] }
def z33 : Nat -> ByteArray -> Int -> Option (LR z9e a0)
 | 0, _, _ => none
 | m + 1, s0, s1 =>
  if decide ((s0.size : Int) > 0) = true then if (0 : Int) < (s0.size : Int) then if (((s0.data.getD 0 0).toNat : Int) == s1) = true then if (1 : Int) <= s0.size then
  z33 m (s0.extract 1 s0.size) s1
  else none
  else
  some (.exit (s0, ()))
  else none
  else
  some (.exit (s0, ()))
def z9d : LSpec := { h := zw6, x := z9e, r := a0, xid := 0, rt := false, pins := [], f := fun k d => z33 k d.1 d.2.1 }
def y0c : z1w := [([99], [(1, z9d)])]
def z7c (k : Nat) (a0 : ByteArray) (a1 : Int) : Option (ByteArray) :=
 match z33 k a0 a1 with
 | none => none
 | some (.exit d1) =>
  some d1.1
 | some (.ret d1) =>
  none
def zb7 (k : Nat) : Vm.Spec := { ps := [.str, .int .u8], rs := [.imm .str], f := fun x => z7c k x.1 x.2 }
noncomputable def ze1 : Vm.Spec := zb7 fuel
theorem zm4 : Vm.Spec.holds Tryz.prog 99 ze1 := z0v (E := y1h) (L := y0c) (fn := Tryz.f99) (Z := zb7) (z1h ok) (z0n (by exact trivial)) z0w (z07 rfl) (z01 rfl) (by kernel_rfl) (by kernel_rfl) (z0i (ls := [(1, z9d)]) rfl rfl ⟨by kernel_rfl, fun _ => rfl, fun _ _ => by kernel_rfl, z0j (by kernel_rfl)⟩) fun k x => by kernel_rfl
noncomputable def y5w : Env := { te := te, spec := [(99, ze1)], body := [] }
def y50 : z1w := []
def z7i (k : Nat) (a0 : ByteArray) (a1 : ByteArray) : Option (ByteArray) :=
 if ((a0.toList == (⟨#[]⟩ : ByteArray).toList)) = false then if ((a1.toList == (⟨#[]⟩ : ByteArray).toList)) = true then
 some a0
 else
 if ((a1.size : Int) == 1) = true then if (0 : Int) < (a1.size : Int) then if decide (((a1.data.getD 0 0).toNat : Int) < 128) = true then if (0 : Int) < (a1.size : Int) then
 (z7c fuel a0 ((a1.data.getD 0 0).toNat : Int)).bind fun r1 =>
 some r1
 else none else none else none else none
 else
 some a0
def zo6 (k : Nat) : Vm.Spec := { ps := [.str, .str], rs := [.imm .str], f := fun x => z7i k x.1 x.2 }
noncomputable def zt7 : Vm.Spec := zo6 fuel
theorem zz0 : Vm.Spec.holds Tryz.prog 94 zt7 := z0v (E := y5w) (L := y50) (fn := Tryz.f94) (Z := zo6) (z1h ok) (z0n (by exact ⟨⟨by kernel_rfl, zm4⟩, trivial⟩)) z0w (z07 rfl) (z01 rfl) (by kernel_rfl) (by kernel_rfl) (z0o rfl) fun k x => by kernel_rfl
noncomputable def yy2 : Env := { te := te, spec := [(94, zt7)], body := [] }
def ya6 : Ann := { slots := [(5, .one (.val (.int .u32))), (6, .one (.fix (.pbox 24 0))), (7, .one (.val (.int .i64)))], objs := [(24, .box [.val (.arr 9 (.int .u8))])] }
def y1c : Ann := { slots := [(6, .one (.fix (.pbox 24 0)))], objs := [(24, .box [.val (.arr 9 (.int .u8))])] }
def yh0 : Ann := { slots := [(0, .one (.val (.slice (.int .u32)))), (3, .one (.own 56 (.int .u8))), (4, .one (.val (.int .i64)))], objs := [(56, .buf (.int .u8))] }
def y2o : Ann := { slots := [(3, .one (.own 56 (.int .u8)))], objs := [(56, .buf (.int .u8))] }
def z5k : Nat -> Int -> Int -> List Int -> Option (LR y1c a0)
 | 0, _, _, _ => none
 | m + 1, s5, s7, b24_0 =>
  if decide (s7 >= 0) = true then if (0 : Int) <= s7 then if s7 < 9 then
  z5k m (IntKind.u32.wrap (s5.tdiv 10)) (IntKind.i64.wrap (s7 - 1)) (b24_0.set s7.toNat (IntKind.u8.wrap (IntKind.u32.wrap (48 + (s5.tmod 10)))))
  else none else none
  else
  some (.exit (b24_0, ()))
def y1b : LSpec := { h := ya6, x := y1c, r := a0, xid := 2, rt := false, pins := [24], f := fun k d => z5k k d.1 d.2.1 d.2.2.1 }
def z68 : Nat -> List Int -> Int -> List Int -> Option (LR y2o a0)
 | 0, _, _, _ => none
 | m + 1, s0, s4, b56 =>
  if decide (s4 >= 0) = true then if (0 : Int) <= s4 then if s4 < s0.length then
  match z5k m (s0.getD s4.toNat 0) 8 (List.replicate 9 0) with
  | none => none
  | some (.exit d1) =>
   if (b56.length + ((d1.1.take 9).drop 0).length) * 1 <= 140737488355328 then
   z68 m s0 (IntKind.i64.wrap (s4 - 1)) (b56 ++ ((d1.1.take 9).drop 0))
   else none
  | some (.ret d1) =>
   none
  else none else none
  else
  some (.exit (b56, ()))
def y2n : LSpec := { h := yh0, x := y2o, r := a0, xid := 0, rt := false, pins := [], f := fun k d => z68 k d.1 d.2.1 d.2.2.1 }
def ys6 : z1w := [([87], [(5, y2n), (10, y1b)])]
def z7q (k : Nat) (a0 : List Int) : Option (ByteArray) :=
 if ((a0.length : Int) == 0) = true then
 some (⟨#[48]⟩ : ByteArray)
 else
 if (0 : Int) <= IntKind.i64.wrap (9 * (a0.length : Int)) then if (IntKind.i64.wrap (9 * (a0.length : Int))) * 1 <= 281474976710656 then
 match z68 k a0 (IntKind.i64.wrap ((a0.length : Int) - 1)) (List.replicate 0 0) with
 | none => none
 | some (.exit d1) =>
  (z7i fuel (⟨(d1.1.map fun n => UInt8.ofNat n.toNat).toArray⟩ : ByteArray) (⟨#[48]⟩ : ByteArray)).bind fun r2 =>
  some r2
 | some (.ret d1) =>
  none
 else none else none
def y67 (k : Nat) : Vm.Spec := { ps := [.slice (.int .u32)], rs := [.imm .str], f := fun x => z7q k x }
noncomputable def y1u : Vm.Spec := y67 fuel
theorem zu0 : Vm.Spec.holds Tryz.prog 87 y1u := z0v (E := yy2) (L := ys6) (fn := Tryz.f87) (Z := y67) (z1h ok) (z0n (by exact ⟨⟨by kernel_rfl, zz0⟩, trivial⟩)) z0w (z07 rfl) (z01 rfl) (by kernel_rfl) (by kernel_rfl) (z0i (ls := [(5, y2n), (10, y1b)]) rfl rfl ⟨by kernel_rfl, fun _ => rfl, fun _ _ => by kernel_rfl, by kernel_rfl, fun _ => rfl, fun _ _ => by kernel_rfl, z0j (by kernel_rfl)⟩) fun k x => by kernel_rfl
noncomputable def yl0 : Env := { te := te, spec := [(87, y1u)], body := [] }
def yd0 : z1w := []
def z75 (k : Nat) (a0 : List Int) : Option (Int) :=
 (z7q fuel a0).bind fun r1 =>
 some (r1.size : Int)
def y21 (k : Nat) : Vm.Spec := { ps := [.slice (.int .u32)], rs := [.imm (.int .i64)], f := fun x => z75 k x }
noncomputable def y3y : Vm.Spec := y21 fuel
theorem y3o : Vm.Spec.holds Tryz.prog 86 y3y := z0v (E := yl0) (L := yd0) (fn := Tryz.f86) (Z := y21) (z1h ok) (z0n (by exact ⟨⟨by kernel_rfl, zu0⟩, trivial⟩)) z0w (z07 rfl) (z01 rfl) (by kernel_rfl) (by kernel_rfl) (z0o rfl) fun k x => by kernel_rfl
noncomputable def w73 : Env := { te := te, spec := [(86, y3y)], body := [] }
def w32 : z1w := []
def z88 (k : Nat) (a0 : Bool × ((List Int) × (List Int))) : Option (Int) :=
 (z75 fuel a0.2.1).bind fun r1 =>
 if decide (r1 > 2000) = false then
 (z75 fuel a0.2.2).bind fun r2 =>
 if decide (r2 > 2000) = true then
 some 2
 else
 some 0
 else
 some 2
def yd8 (k : Nat) : Vm.Spec := { ps := [qT], rs := [.imm (.int .i64)], f := fun x => z88 k x }
noncomputable def zm7 : Vm.Spec := yd8 fuel
theorem z6z : Vm.Spec.holds Tryz.prog 69 zm7 := z0v (E := w73) (L := w32) (fn := Tryz.f69) (Z := yd8) (z1h ok) (z0n (by exact ⟨⟨by kernel_rfl, y3o⟩, trivial⟩)) z0w (z07 rfl) (z01 rfl) (by kernel_rfl) (by kernel_rfl) (z0o rfl) fun k x => by kernel_rfl
noncomputable def w2x : Env := { te := te, spec := [(52, zb3), (87, y1u)], body := [] }
def yz8 : z1w := []
def z7s (k : Nat) (a0 : Bool × ((List Int) × (List Int))) : Option (ByteArray) :=
 if ((a0.2.1.length : Int) == 0) = true then
 some (⟨#[48]⟩ : ByteArray)
 else
 (z7q fuel a0.2.1).bind fun r1 =>
 if a0.1 = true then if (⟨#[45]⟩ : ByteArray).size + r1.size <= 4611686018427387904 then
 (z37 fuel a0).bind fun r2 =>
 (z7q fuel r2).bind fun r3 =>
 if (!(r3.toList == (⟨#[49]⟩ : ByteArray).toList)) = true then if (⟨#[47]⟩ : ByteArray).size + r3.size <= 4611686018427387904 then if ((⟨#[45]⟩ : ByteArray) ++ r1).size + ((⟨#[47]⟩ : ByteArray) ++ r3).size <= 4611686018427387904 then
 some (((⟨#[45]⟩ : ByteArray) ++ r1) ++ ((⟨#[47]⟩ : ByteArray) ++ r3))
 else none else none
 else
 some ((⟨#[45]⟩ : ByteArray) ++ r1)
 else none
 else
 (z37 fuel a0).bind fun r4 =>
 (z7q fuel r4).bind fun r5 =>
 if (!(r5.toList == (⟨#[49]⟩ : ByteArray).toList)) = true then if (⟨#[47]⟩ : ByteArray).size + r5.size <= 4611686018427387904 then if r1.size + ((⟨#[47]⟩ : ByteArray) ++ r5).size <= 4611686018427387904 then
 some (r1 ++ ((⟨#[47]⟩ : ByteArray) ++ r5))
 else none else none
 else
 some r1
def y97 (k : Nat) : Vm.Spec := { ps := [qT], rs := [.imm .str], f := fun x => z7s k x }
noncomputable def zo2 : Vm.Spec := y97 fuel
theorem z8b : Vm.Spec.holds Tryz.prog 70 zo2 := z0v (E := w2x) (L := yz8) (fn := Tryz.f70) (Z := y97) (z1h ok) (z0n (by exact ⟨⟨by kernel_rfl, z6n⟩, ⟨by kernel_rfl, zu0⟩, trivial⟩)) z0w (z07 rfl) (z01 rfl) (by kernel_rfl) (by kernel_rfl) (z0o rfl) fun k x => by kernel_rfl
noncomputable def yy0 : Env := { te := te, spec := [(69, zm7), (70, zo2)], body := [] }
def yg6 : Ann := { slots := [(4, .one (.own 92 .str)), (8, .one (.val (.slice qT))), (9, .one (.val (.int .i64))), (10, .one (.val (.int .i64)))], objs := [(92, .buf .str)] }
def y2h : Ann := { slots := [(4, .one (.own 92 .str))], objs := [(92, .buf .str)] }
def y2g : Ann := { slots := [(2, .one (.fix .nil)), (3, .one (.val (.int .i64)))], objs := [] }
def z5b : Nat -> List (Bool × ((List Int) × (List Int))) -> Int -> Int -> List ByteArray -> Option (LR y2h y2g)
 | 0, _, _, _, _ => none
 | m + 1, s8, s9, s10, b92 =>
  if decide (s10 < s9) = true then if (0 : Int) <= s10 then if s10 < s8.length then
  (z88 fuel ((s8.getD s10.toNat (false, ([], []))).1, ((s8.getD s10.toNat (false, ([], []))).2))).bind fun r1 =>
  if (r1 != 0) = true then
  some (.ret (r1, ()))
  else
  (z7s fuel ((s8.getD s10.toNat (false, ([], []))).1, ((s8.getD s10.toNat (false, ([], []))).2))).bind fun r2 =>
  if (b92.length + 1) * 16 <= 140737488355328 then
  z5b m s8 s9 (IntKind.i64.wrap (s10 + 1)) (b92 ++ [r2])
  else none else none else none
  else
  some (.exit (b92, ()))
def y2f : LSpec := { h := yg6, x := y2h, r := y2g, xid := 0, rt := true, pins := [], f := fun k d => z5b k d.1 d.2.1 d.2.2.1 d.2.2.2.1 }
def ys4 : z1w := [([34], [(3, y2f)])]
def z3d (k : Nat) (a0 : List (Bool × ((List Int) × (List Int)))) : Option (List ByteArray × Int) :=
 match z5b k a0 (a0.length : Int) 0 [] with
 | none => none
 | some (.exit d1) =>
  some (d1.1, 0)
 | some (.ret d1) =>
  some ([], d1.1)
def y65 (k : Nat) : Vm.Spec := { ps := [.slice qT], rs := [.fresh .str, .imm (.int .i64)], f := fun x => z3d k x }
noncomputable def zh2 : Vm.Spec := y65 fuel
theorem z7g : Vm.Spec.holds Tryz.prog 34 zh2 := z0v (E := yy0) (L := ys4) (fn := Tryz.f34) (Z := y65) (z1h ok) (z0n (by exact ⟨⟨by kernel_rfl, z6z⟩, ⟨by kernel_rfl, z8b⟩, trivial⟩)) z0w (z07 rfl) (z01 rfl) (by kernel_rfl) (by kernel_rfl) (z0i (ls := [(3, y2f)]) rfl rfl ⟨by kernel_rfl, fun _ => rfl, fun _ _ => by kernel_rfl, z0j (by kernel_rfl)⟩) fun k x => by kernel_rfl
noncomputable def yc4 : Env := { te := te, spec := [(34, zh2)], body := [] }
def y6u : Ann := { slots := [(4, .one (.own 104 (.slice .str))), (9, .one (.val (.slice (.slice qT)))), (10, .one (.val (.int .i64))), (11, .one (.val (.int .i64)))], objs := [(104, .buf (.slice .str))] }
def zv0 : Ann := { slots := [(4, .one (.own 104 (.slice .str)))], objs := [(104, .buf (.slice .str))] }
def zu9 : Ann := { slots := [(2, .one (.fix .nil)), (3, .one (.val (.int .i64)))], objs := [] }
def z3e : Nat -> List (List (Bool × ((List Int) × (List Int)))) -> Int -> Int -> List (List ByteArray) -> Option (LR zv0 zu9)
 | 0, _, _, _, _ => none
 | m + 1, s9, s10, s11, b104 =>
  if decide (s11 < s10) = true then if (0 : Int) <= s11 then if s11 < s9.length then
  (z3d fuel (s9.getD s11.toNat [])).bind fun r1 =>
  if (r1.2 != 0) = true then
  some (.ret (r1.2, ()))
  else
  if (b104.length + 1) * 24 <= 140737488355328 then
  z3e m s9 s10 (IntKind.i64.wrap (s11 + 1)) (b104 ++ [r1.1])
  else none else none else none
  else
  some (.exit (b104, ()))
def zu8 : LSpec := { h := y6u, x := zv0, r := zu9, xid := 0, rt := true, pins := [], f := fun k d => z3e k d.1 d.2.1 d.2.2.1 d.2.2.2.1 }
def y9w : z1w := [([27], [(3, zu8)])]
def z6e (k : Nat) (a0 : List (List (Bool × ((List Int) × (List Int))))) : Option (List (List ByteArray) × Int) :=
 match z3e k a0 (a0.length : Int) 0 [] with
 | none => none
 | some (.exit d1) =>
  some (d1.1, 0)
 | some (.ret d1) =>
  some ([], d1.1)
def y14 (k : Nat) : Vm.Spec := { ps := [.slice (.slice qT)], rs := [.fresh (.slice .str), .imm (.int .i64)], f := fun x => z6e k x }
noncomputable def y1t : Vm.Spec := y14 fuel
theorem y28 : Vm.Spec.holds Tryz.prog 27 y1t := z0v (E := yc4) (L := y9w) (fn := Tryz.f27) (Z := y14) (z1h ok) (z0n (by exact ⟨⟨by kernel_rfl, z7g⟩, trivial⟩)) z0w (z07 rfl) (z01 rfl) (by kernel_rfl) (by kernel_rfl) (z0i (ls := [(3, zu8)]) rfl rfl ⟨by kernel_rfl, fun _ => rfl, fun _ _ => by kernel_rfl, z0j (by kernel_rfl)⟩) fun k x => by kernel_rfl
noncomputable def yx8 : Env := { te := te, spec := [], body := [] }
def ys2 : z1w := []
def y9f (k : Nat) (a0 : Int) (a1 : Int) : Option (Int × Int) :=
 some (IntKind.u64.wrap ((IntKind.u64.wrap ((IntKind.u64.wrap ((a0.fdiv (2 ^ 32)) * (a1.fdiv (2 ^ 32)))) + ((IntKind.u64.wrap ((IntKind.u64.wrap ((a0.fdiv (2 ^ 32)) * (y9z .and .u64 a1 4294967295))) + ((IntKind.u64.wrap ((y9z .and .u64 a0 4294967295) * (y9z .and .u64 a1 4294967295))).fdiv (2 ^ 32)))).fdiv (2 ^ 32)))) + ((IntKind.u64.wrap ((y9z .and .u64 (IntKind.u64.wrap ((IntKind.u64.wrap ((a0.fdiv (2 ^ 32)) * (y9z .and .u64 a1 4294967295))) + ((IntKind.u64.wrap ((y9z .and .u64 a0 4294967295) * (y9z .and .u64 a1 4294967295))).fdiv (2 ^ 32)))) 4294967295) + (IntKind.u64.wrap ((y9z .and .u64 a0 4294967295) * (a1.fdiv (2 ^ 32)))))).fdiv (2 ^ 32))), IntKind.u64.wrap (a0 * a1))
def y63 (k : Nat) : Vm.Spec := { ps := [.int .u64, .int .u64], rs := [.imm (.int .u64), .imm (.int .u64)], f := fun x => y9f k x.1 x.2 }
noncomputable def y8s : Vm.Spec := y63 fuel
theorem y6l : Vm.Spec.holds Tryz.prog 81 y8s := z0v (E := yx8) (L := ys2) (fn := Tryz.f81) (Z := y63) (z1h ok) (z0n (by exact trivial)) z0w (z07 rfl) (z01 rfl) (by kernel_rfl) (by kernel_rfl) (z0o rfl) fun k x => by kernel_rfl
noncomputable def w71 : Env := { te := te, spec := [(81, y8s)], body := [] }
def w30 : z1w := []
def yp3 (k : Nat) (a0 : Int) (a1 : Int) : Option (Int × Int) :=
 (y9f fuel a0 a1).bind fun r1 =>
 some (r1.1, r1.2)
def yd6 (k : Nat) : Vm.Spec := { ps := [.int .u64, .int .u64], rs := [.imm (.int .u64), .imm (.int .u64)], f := fun x => yp3 k x.1 x.2 }
noncomputable def yo1 : Vm.Spec := yd6 fuel
theorem ya3 : Vm.Spec.holds Tryz.prog 57 yo1 := z0v (E := w71) (L := w30) (fn := Tryz.f57) (Z := yd6) (z1h ok) (z0n (by exact ⟨⟨by kernel_rfl, y6l⟩, trivial⟩)) z0w (z07 rfl) (z01 rfl) (by kernel_rfl) (by kernel_rfl) (z0o rfl) fun k x => by kernel_rfl
noncomputable def y4w : Env := { te := te, spec := [(57, yo1)], body := [] }
def y1o : Ann := { slots := [(7, .one (.own 120 .str)), (8, .one (.val (.int .i64)))], objs := [(120, .buf .str)] }
def ze7 : Ann := { slots := [(7, .one (.own 120 .str))], objs := [(120, .buf .str)] }
def z80 : Nat -> Int -> List ByteArray -> Option (LR ze7 a0)
 | 0, _, _ => none
 | m + 1, s8, b120 =>
  if decide (s8 < (b120.length : Int)) = true then if (0 : Int) <= s8 then if s8 <= b120.length then if (0 : Int) <= s8 then if s8 <= b120.length then
  z80 m (IntKind.i64.wrap (s8 + ((min (b120.take s8.toNat).length (b120.length - s8.toNat) : Nat) : Int))) (b120.take s8.toNat ++ ((b120.take s8.toNat).take (b120.length - s8.toNat) ++ b120.drop (s8.toNat + min (b120.take s8.toNat).length (b120.length - s8.toNat))))
  else none else none else none else none
  else
  some (.exit (b120, ()))
def ze6 : LSpec := { h := y1o, x := ze7, r := a0, xid := 0, rt := false, pins := [120], f := fun k d => z80 k d.1 d.2.1 }
def y3l : z1w := [([28], [(8, ze6)])]
def z1v (k : Nat) (a0 : List ByteArray) (a1 : Int) : Option (List ByteArray) :=
 if decide (a1 < 0) = true then
 none
 else
 (yp3 fuel (IntKind.u64.wrap ((a0.length : Int))) (IntKind.u64.wrap (a1))).bind fun r1 =>
 if decide (r1.1 > 0) = false then if decide (r1.2 > 9223372036854775807) = true then
 none
 else
 if (0 : Int) <= IntKind.i64.wrap (r1.2) then if IntKind.i64.wrap (r1.2) <= IntKind.i64.wrap (r1.2) then if (IntKind.i64.wrap (r1.2)) * 16 <= 281474976710656 then
 match z80 k ((min a0.length (List.replicate ((IntKind.i64.wrap (r1.2)).toNat) ByteArray.empty).length : Nat) : Int) (a0.take (List.replicate ((IntKind.i64.wrap (r1.2)).toNat) ByteArray.empty).length ++ (List.replicate ((IntKind.i64.wrap (r1.2)).toNat) ByteArray.empty).drop a0.length) with
 | none => none
 | some (.exit d2) =>
  some d2.1
 | some (.ret d2) =>
  none
 else none else none else none else none
def zk1 (k : Nat) : Vm.Spec := { ps := [.slice .str, .int .i64], rs := [.fresh .str], f := fun x => z1v k x.1 x.2 }
noncomputable def zo3 : Vm.Spec := zk1 fuel
theorem zw4 : Vm.Spec.holds Tryz.prog 28 zo3 := z0v (E := y4w) (L := y3l) (fn := Tryz.f28) (Z := zk1) (z1h ok) (z0n (by exact ⟨⟨by kernel_rfl, ya3⟩, trivial⟩)) z0w (z07 rfl) (z01 rfl) (by kernel_rfl) (by kernel_rfl) (z0i (ls := [(8, ze6)]) rfl rfl ⟨by kernel_rfl, fun _ => rfl, fun _ _ => by kernel_rfl, z0j (by kernel_rfl)⟩) fun k x => by kernel_rfl
noncomputable def yc5 : Env := { te := te, spec := [(36, zg5), (37, zg6), (71, z6b)], body := [] }
def y9x : z1w := []
def z6h (k : Nat) (a0 : (List (List ByteArray)) × ((List ByteArray) × (List ByteArray))) : Option (Int) :=
 if decide ((a0.1.length : Int) > 40) = false then if decide ((a0.2.2.length : Int) > 40) = true then
 some 2
 else
 (z4c fuel a0.1).bind fun r1 =>
 if (r1 != 0) = true then
 some r1
 else
 (z1g fuel a0.2.1).bind fun r2 =>
 if (r2 != 0) = true then
 some r2
 else
 (z1g fuel a0.2.2).bind fun r3 =>
 if (r3 != 0) = true then
 some r3
 else
 if ((a0.1.length : Int) != (a0.2.1.length : Int)) = false then if decide ((a0.1.length : Int) > 0) = true then
 (z65 fuel a0.1).bind fun r4 =>
 if (r4 != (a0.2.2.length : Int)) = true then
 some 3
 else
 some 0
 else
 some 0
 else
 some 3
 else
 some 2
def y15 (k : Nat) : Vm.Spec := { ps := [.pair (.slice (.slice .str)) (.pair (.slice .str) (.slice .str))], rs := [.imm (.int .i64)], f := fun x => z6h k x }
noncomputable def y1w : Vm.Spec := y15 fuel
theorem y2a : Vm.Spec.holds Tryz.prog 58 y1w := z0v (E := yc5) (L := y9x) (fn := Tryz.f58) (Z := y15) (z1h ok) (z0n (by exact ⟨⟨by kernel_rfl, z90⟩, ⟨by kernel_rfl, z91⟩, ⟨by kernel_rfl, z55⟩, trivial⟩)) z0w (z07 rfl) (z01 rfl) (by kernel_rfl) (by kernel_rfl) (z0o rfl) fun k x => by kernel_rfl
noncomputable def w2v : Env := { te := te, spec := [(51, zo0), (52, zb3), (53, y62)], body := [] }
def yz6 : z1w := []
def z31 (k : Nat) (a0 : Bool × ((List Int) × (List Int))) (a1 : Bool × ((List Int) × (List Int))) : Option (Bool × ((List Int) × (List Int))) :=
 if ((a0.2.1.length : Int) == 0) = false then if ((a1.2.1.length : Int) == 0) = true then
 some (false, ([], []))
 else
 (z4w fuel a0.2.1 a1.2.1).bind fun r1 =>
 (z37 fuel a0).bind fun r2 =>
 (z37 fuel a1).bind fun r3 =>
 (z4w fuel r2 r3).bind fun r4 =>
 (zi0 fuel (!(a0.1 == a1.1)) r1 r4).bind fun r5 =>
 some r5
 else
 some (false, ([], []))
def y95 (k : Nat) : Vm.Spec := { ps := [qT, qT], rs := [.imm qT], f := fun x => z31 k x.1 x.2 }
noncomputable def zo1 : Vm.Spec := y95 fuel
theorem z8a : Vm.Spec.holds Tryz.prog 33 zo1 := z0v (E := w2v) (L := yz6) (fn := Tryz.f33) (Z := y95) (z1h ok) (z0n (by exact ⟨⟨by kernel_rfl, z87⟩, ⟨by kernel_rfl, z6n⟩, ⟨by kernel_rfl, zp5⟩, trivial⟩)) z0w (z07 rfl) (z01 rfl) (by kernel_rfl) (by kernel_rfl) (z0o rfl) fun k x => by kernel_rfl
noncomputable def w2y : Env := { te := te, spec := [(51, zo0), (52, zb3), (53, y62)], body := [] }
def yz9 : z1w := []
def z5h (k : Nat) (a0 : Bool × ((List Int) × (List Int))) (a1 : Bool × ((List Int) × (List Int))) : Option (Bool × ((List Int) × (List Int))) :=
 if ((a0.2.1.length : Int) == 0) = false then if ((a1.2.1.length : Int) == 0) = true then
 some (false, ([], []))
 else
 (z37 fuel a1).bind fun r1 =>
 (z4w fuel a0.2.1 r1).bind fun r2 =>
 (z37 fuel a0).bind fun r3 =>
 (z4w fuel r3 a1.2.1).bind fun r4 =>
 (zi0 fuel (!(a0.1 == a1.1)) r2 r4).bind fun r5 =>
 some r5
 else
 some (false, ([], []))
def y98 (k : Nat) : Vm.Spec := { ps := [qT, qT], rs := [.imm qT], f := fun x => z5h k x.1 x.2 }
noncomputable def y0g : Vm.Spec := y98 fuel
theorem zf3 : Vm.Spec.holds Tryz.prog 30 y0g := z0v (E := w2y) (L := yz9) (fn := Tryz.f30) (Z := y98) (z1h ok) (z0n (by exact ⟨⟨by kernel_rfl, z87⟩, ⟨by kernel_rfl, z6n⟩, ⟨by kernel_rfl, zp5⟩, trivial⟩)) z0w (z07 rfl) (z01 rfl) (by kernel_rfl) (by kernel_rfl) (z0o rfl) fun k x => by kernel_rfl
noncomputable def y9t : Env := { te := te, spec := [(34, zh2), (69, zm7), (70, zo2)], body := [] }
def y7t : z1w := []
def z14 (k : Nat) (a0 : Int) (a1 : List (Bool × ((List Int) × (List Int)))) (a2 : List (Bool × ((List Int) × (List Int)))) (a3 : List (Bool × ((List Int) × (List Int)))) (a4 : Bool × ((List Int) × (List Int))) : Option ((Int × ((List ByteArray) × ((List ByteArray) × ((List ByteArray) × ByteArray)))) × Int) :=
 (z3d fuel a1).bind fun r1 =>
 if (r1.2 != 0) = true then
 some ((0, ([], ([], ([], ByteArray.empty)))), r1.2)
 else
 (z3d fuel a2).bind fun r2 =>
 if (r2.2 != 0) = true then
 some ((0, ([], ([], ([], ByteArray.empty)))), r2.2)
 else
 (z3d fuel a3).bind fun r3 =>
 if (r3.2 != 0) = true then
 some ((0, ([], ([], ([], ByteArray.empty)))), r3.2)
 else
 (z88 fuel a4).bind fun r4 =>
 if (r4 != 0) = true then
 some ((0, ([], ([], ([], ByteArray.empty)))), r4)
 else
 if (a0 == 0) = true then
 (z7s fuel a4).bind fun r5 =>
 some ((a0, (r1.1, (r2.1, (r3.1, r5)))), 0)
 else
 some ((a0, (r1.1, (r2.1, (r3.1, ByteArray.empty)))), 0)
def zx9 (k : Nat) : Vm.Spec := { ps := [.int .i64, .slice qT, .slice qT, .slice qT, qT], rs := [.imm (.pair (.int .i64) (.pair (.slice .str) (.pair (.slice .str) (.pair (.slice .str) .str)))), .imm (.int .i64)], f := fun x => z14 k x.1 x.2.1 x.2.2.1 x.2.2.2.1 x.2.2.2.2 }
noncomputable def y11 : Vm.Spec := zx9 fuel
theorem y1m : Vm.Spec.holds Tryz.prog 61 y11 := z0v (E := y9t) (L := y7t) (fn := Tryz.f61) (Z := zx9) (z1h ok) (z0n (by exact ⟨⟨by kernel_rfl, z7g⟩, ⟨by kernel_rfl, z6z⟩, ⟨by kernel_rfl, z8b⟩, trivial⟩)) z0w (z07 rfl) (z01 rfl) (by kernel_rfl) (by kernel_rfl) (z0o rfl) fun k x => by kernel_rfl
end Go.Proofs.YtcdcoeofhnfjdaaGreatDoor
