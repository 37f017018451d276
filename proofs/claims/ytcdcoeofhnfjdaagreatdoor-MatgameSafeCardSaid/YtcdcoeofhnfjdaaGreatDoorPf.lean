/- Pure functions, printed by a program of this session out of the program. -/
import Derived.Test.YtcdcoeofhnfjdaaGreatDoorPe
set_option linter.unusedVariables false
namespace Go.Proofs.YtcdcoeofhnfjdaaGreatDoor
open Go Vm Go.Proofs
noncomputable def y3j : Env := { te := te, spec := [], body := [] }
def y1s : z1w := []
def z1o (k : Nat) (a0 : (List (List (Bool × ((List Int) × (List Int))))) × ((List Int) × (Int × Int))) : Option (Int) :=
 some (IntKind.i64.wrap ((IntKind.i64.wrap (a0.2.2.1 + a0.2.2.2)) + 1))
def zh6 (k : Nat) : Vm.Spec := { ps := [.ptr (.pair (.slice (.slice qT)) (.pair (.slice (.int .i64)) (.pair (.int .i64) (.int .i64))))], rs := [.imm (.int .i64)], f := fun x => z1o k x }
noncomputable def z8z : Vm.Spec := zh6 fuel
theorem z8o : Vm.Spec.holds Tryz.prog 65 z8z := z0v (E := y3j) (L := y1s) (fn := Tryz.f65) (Z := zh6) (z1h ok) (z0n (by exact trivial)) z0w (z07 rfl) (z01 rfl) (by kernel_rfl) (by kernel_rfl) (z0o rfl) fun k x => by kernel_rfl
noncomputable def y08 : Env := { te := te, spec := [(30, y0g), (43, z7n), (65, z8z), (76, zh3)], body := [] }
def z8x : List (Nat × OSh) := [(24, .box [.val .bool, .val (.slice (.int .u32)), .val (.slice (.int .u32))])]
def zt4 : Ann := { slots := [(0, .one (.val (.ptr (.pair (.slice (.slice qT)) (.pair (.slice (.int .i64)) (.pair (.int .i64) (.int .i64))))))), (1, .one (.val (.int .i64))), (5, .one (.val (.int .i64))), (6, .one (.fix (.pbox 24 0))), (13, .one (.val (.int .i64))), (14, .one (.val (.int .i64)))], objs := z8x }
def z8w : Ann := { slots := [(5, .one (.val (.int .i64)))], objs := z8x }
def z11 : Nat -> (List (List (Bool × ((List Int) × (List Int))))) × ((List Int) × (Int × Int)) -> Int -> Int -> Int -> Int -> Bool -> List Int -> List Int -> Option (LR z8w a0)
 | 0, _, _, _, _, _, _, _, _ => none
 | m + 1, s0, s1, s5, s13, s14, b24_0, b24_1, b24_2 =>
  if decide (s14 < s13) = true then if (0 : Int) <= s14 then if s14 < s0.1.length then if (0 : Int) <= s1 then if s1 < (s0.1.getD s14.toNat []).length then
  (z30 fuel (((s0.1.getD s14.toNat []).getD s1.toNat (false, ([], []))).1, (((s0.1.getD s14.toNat []).getD s1.toNat (false, ([], []))).2))).bind fun r1 =>
  if decide (r1 <= 0) = true then
  z11 m s0 s1 s5 s13 (IntKind.i64.wrap (s14 + 1)) b24_0 b24_1 b24_2
  else
  if (0 : Int) <= s14 then if s14 < s0.1.length then if (0 : Int) <= s14 then if s14 < s0.1.length then if (0 : Int) <= s1 then if s1 < (s0.1.getD s14.toNat []).length then
  (z1o fuel s0).bind fun r2 =>
  if (0 : Int) <= r2 then if r2 < (s0.1.getD s14.toNat []).length then
  (z5h fuel (((s0.1.getD s14.toNat []).getD r2.toNat (false, ([], []))).1, (((s0.1.getD s14.toNat []).getD r2.toNat (false, ([], []))).2)) (((s0.1.getD s14.toNat []).getD s1.toNat (false, ([], []))).1, (((s0.1.getD s14.toNat []).getD s1.toNat (false, ([], []))).2))).bind fun r3 =>
  if decide (s5 >= 0) = true then
  (z44 fuel r3 (b24_0, (b24_1, b24_2))).bind fun r4 =>
  if decide (r4 < 0) = false then if (r4 == 0) = true then if (0 : Int) <= s14 then if s14 < s0.2.1.length then if (0 : Int) <= s5 then if s5 < s0.2.1.length then if decide (s0.2.1.getD s14.toNat 0 < s0.2.1.getD s5.toNat 0) = true then
  z11 m s0 s1 s14 s13 (IntKind.i64.wrap (s14 + 1)) r3.1 r3.2.1 r3.2.2
  else
  z11 m s0 s1 s5 s13 (IntKind.i64.wrap (s14 + 1)) b24_0 b24_1 b24_2
  else none else none else none else none
  else
  z11 m s0 s1 s5 s13 (IntKind.i64.wrap (s14 + 1)) b24_0 b24_1 b24_2
  else
  z11 m s0 s1 s14 s13 (IntKind.i64.wrap (s14 + 1)) r3.1 r3.2.1 r3.2.2
  else
  z11 m s0 s1 s14 s13 (IntKind.i64.wrap (s14 + 1)) r3.1 r3.2.1 r3.2.2
  else none else none else none else none else none else none else none else none else none else none else none else none
  else
  some (.exit (s5, b24_0, b24_1, b24_2, ()))
def z8v : LSpec := { h := zt4, x := z8w, r := a0, xid := 0, rt := false, pins := [24], f := fun k d => z11 k d.1 d.2.1 d.2.2.1 d.2.2.2.1 d.2.2.2.2.1 d.2.2.2.2.2.1 d.2.2.2.2.2.2.1 d.2.2.2.2.2.2.2.1 }
def zx2 : z1w := [([83], [(4, z8v)])]
def z38 (k : Nat) (a0 : (List (List (Bool × ((List Int) × (List Int))))) × ((List Int) × (Int × Int))) (a1 : Int) : Option (Int) :=
 match z11 k a0 a1 (-1) a0.2.2.2 0 false [] [] with
 | none => none
 | some (.exit d1) =>
  some d1.1
 | some (.ret d1) =>
  none
def z9y (k : Nat) : Vm.Spec := { ps := [.ptr (.pair (.slice (.slice qT)) (.pair (.slice (.int .i64)) (.pair (.int .i64) (.int .i64)))), .int .i64], rs := [.imm (.int .i64)], f := fun x => z38 k x.1 x.2 }
noncomputable def zb4 : Vm.Spec := z9y fuel
theorem zj2 : Vm.Spec.holds Tryz.prog 83 zb4 := z0v (E := y08) (L := zx2) (fn := Tryz.f83) (Z := z9y) (z1h ok) (z0n (by exact ⟨⟨by kernel_rfl, zf3⟩, ⟨by kernel_rfl, z45⟩, ⟨by kernel_rfl, z8o⟩, ⟨by kernel_rfl, z7h⟩, trivial⟩)) z0w (z07 rfl) (z01 rfl) (by kernel_rfl) (by kernel_rfl) (z0i (ls := [(4, z8v)]) rfl rfl ⟨by kernel_rfl, fun _ => rfl, fun _ _ => by kernel_rfl, z0j (by kernel_rfl)⟩) fun k x => by kernel_rfl
noncomputable def yc6 : Env := { te := te, spec := [(22, ze9), (23, yd5), (24, y0h), (30, y0g), (33, zo1), (42, z7m), (43, z7n), (50, y54), (58, y1w), (61, y11), (65, z8z), (76, zh3), (83, zb4)], body := [(59, Tryz.f59), (60, Tryz.f60), (62, Tryz.f62), (63, Tryz.f63), (64, Tryz.f64), (82, Tryz.f82)], rows := true }
def zv2 : List (Nat × OSh) := [(4060, .box [.grd 360 qT, .own 420 (.int .i64), .val (.int .i64), .val (.int .i64)]), (4072, .buf (.slice qT)), (4084, .buf qT), (360, .mat qT), (420, .buf (.int .i64))]
def zd8 : Ann := { slots := [(3, .one (.fix (.pbox 4060 0))), (4, .one (.own 4072 (.slice qT))), (5, .one (.own 4084 qT)), (25, .one (.val (.int .i64))), (26, .one (.val (.int .i64)))], objs := zv2 }
def z60 : Ann := { slots := [(3, .one (.fix (.pbox 4060 0)))], objs := zv2 }
def zv3 : List (Nat × OSh) := [(4060, .box [.grd 360 qT, .own 420 (.int .i64), .val (.int .i64), .val (.int .i64)]), (360, .mat qT), (420, .buf (.int .i64))]
def z73 : Ann := { slots := [(0, .one (.fix (.pbox 4060 0))), (3, .one (.val (.int .i64))), (23, .one (.val (.int .i64))), (24, .one (.val (.int .i64)))], objs := zv3 }
def z3x : Ann := { slots := [(0, .one (.fix (.pbox 4060 0))), (3, .one (.val (.int .i64)))], objs := zv3 }
def z8i : Ann := { slots := [(4, .one (.own 4084 qT)), (22, .one (.own 212 qT)), (23, .one (.val (.int .i64))), (24, .one (.val (.int .i64)))], objs := [(4084, .buf qT), (212, .buf qT)] }
def z4r : Ann := { slots := [(4, .one (.own 4084 qT))], objs := [(4084, .buf qT), (212, .buf qT)] }
def zv4 : List (Nat × OSh) := [(4060, .box [.grd 4188 qT, .own 420 (.int .i64), .val (.int .i64), .val (.int .i64)]), (4188, .mat qT), (36, .box [.val .bool, .val (.slice (.int .u32)), .val (.slice (.int .u32))]), (420, .buf (.int .i64))]
def z7z : Ann := { slots := [(0, .one (.fix (.pbox 4060 0))), (4, .one (.row 4188 qT)), (7, .one (.val (.int .i64))), (9, .one (.fix (.pbox 36 0))), (68, .one (.val (.int .i64))), (69, .one (.val (.int .i64)))], objs := zv4 }
def z4m : Ann := { slots := [(0, .one (.fix (.pbox 4060 0))), (4, .one (.row 4188 qT))], objs := zv4 }
def z3b : List (Nat × OSh) := [(4060, .box [.grd 4188 qT, .own 420 (.int .i64), .val (.int .i64), .val (.int .i64)]), (4188, .mat qT), (420, .buf (.int .i64))]
def z8j : Ann := { slots := [(0, .one (.fix (.pbox 4060 0))), (4, .one (.row 4188 qT)), (53, .one (.own 420 (.int .i64))), (54, .one (.val (.int .i64))), (55, .one (.val (.int .i64)))], objs := z3b }
def z4t : Ann := { slots := [], objs := z3b }
def z95 : Ann := { slots := [(0, .one (.fix (.pbox 4060 0))), (1, .one (.val (.int .i64))), (5, .one (.val (.int .i64)))], objs := z3b }
def z52 : Ann := { slots := [(0, .one (.fix (.pbox 4060 0))), (5, .one (.val (.int .i64)))], objs := z3b }
def zv5 : List (Nat × OSh) := [(4060, .box [.grd 4188 qT, .own 420 (.int .i64), .val (.int .i64), .val (.int .i64)]), (4024, .box [.val .bool, .val (.slice (.int .u32)), .val (.slice (.int .u32))]), (4188, .mat qT), (420, .buf (.int .i64))]
def z4f : Ann := { slots := [(0, .one (.fix (.pbox 4060 0))), (1, .one (.val (.int .i64))), (6, .one (.fix (.pbox 4024 0))), (28, .one (.val (.int .i64))), (29, .one (.val (.int .i64)))], objs := zv5 }
def z2k : Ann := { slots := [(0, .one (.fix (.pbox 4060 0)))], objs := zv5 }
def zv6 : List (Nat × OSh) := [(4060, .box [.grd 4188 qT, .own 420 (.int .i64), .val (.int .i64), .val (.int .i64)]), (36, .box [.val .bool, .val (.slice (.int .u32)), .val (.slice (.int .u32))]), (4188, .mat qT), (420, .buf (.int .i64))]
def z49 : Ann := { slots := [(0, .one (.fix (.pbox 4060 0))), (1, .one (.val (.int .i64))), (8, .one (.val (.int .i64))), (9, .one (.fix (.pbox 36 0))), (87, .one (.val (.int .i64))), (88, .one (.val (.int .i64)))], objs := zv6 }
def z2i : Ann := { slots := [(0, .one (.fix (.pbox 4060 0)))], objs := zv6 }
def z4g : Ann := { slots := [(0, .one (.fix (.pbox 4060 0))), (1, .one (.val (.int .i64))), (2, .one (.val (.int .i64))), (58, .one (.val (.int .i64))), (59, .one (.val (.int .i64)))], objs := z3b }
def z2m : Ann := { slots := [(0, .one (.fix (.pbox 4060 0)))], objs := z3b }
def z94 : Ann := { slots := [(0, .one (.fix (.pbox 4060 0))), (1, .one (.val (.int .i64)))], objs := z3b }
def z4z : Ann := { slots := [(4, .one (.val (.int .i64)))], objs := z3b }
def y76 : List (Nat × OSh) := [(4060, .box [.grd 4188 qT, .own 420 (.int .i64), .val (.int .i64), .val (.int .i64)]), (4040, .buf qT), (420, .buf (.int .i64)), (4188, .mat qT)]
def z74 : Ann := { slots := [(0, .one (.fix (.pbox 4060 0))), (3, .one (.own 4040 qT)), (14, .one (.own 420 (.int .i64))), (15, .one (.val (.int .i64))), (16, .one (.val (.int .i64)))], objs := y76 }
def y77 : List (Nat × OSh) := [(4040, .buf qT), (4060, .box [.grd 4188 qT, .own 420 (.int .i64), .val (.int .i64), .val (.int .i64)]), (420, .buf (.int .i64)), (4188, .mat qT)]
def z3z : Ann := { slots := [(3, .one (.own 4040 qT))], objs := y77 }
def y78 : List (Nat × OSh) := [(4060, .box [.grd 4188 qT, .own 420 (.int .i64), .val (.int .i64), .val (.int .i64)]), (464, .buf qT), (420, .buf (.int .i64)), (4188, .mat qT)]
def y5i : Ann := { slots := [(5, .one (.fix (.pbox 4060 0))), (6, .one (.val (.int .i64))), (8, .one (.own 464 qT)), (130, .one (.own 420 (.int .i64))), (131, .one (.val (.int .i64))), (132, .one (.val (.int .i64)))], objs := y78 }
def y79 : List (Nat × OSh) := [(464, .buf qT), (4060, .box [.grd 4188 qT, .own 420 (.int .i64), .val (.int .i64), .val (.int .i64)]), (420, .buf (.int .i64)), (4188, .mat qT)]
def zr3 : Ann := { slots := [(8, .one (.own 464 qT))], objs := y79 }
def z3s : Ann := { slots := [(4, .one (.own 8084 qT)), (22, .one (.own 4268 qT)), (23, .one (.val (.int .i64))), (24, .one (.val (.int .i64)))], objs := [(8084, .buf qT), (4268, .buf qT)] }
def z28 : Ann := { slots := [(4, .one (.own 8084 qT))], objs := [(8084, .buf qT), (4268, .buf qT)] }
def zr9 : List (Nat × OSh) := [(4060, .box [.grd 8188 qT, .own 420 (.int .i64), .val (.int .i64), .val (.int .i64)]), (8188, .mat qT), (36, .box [.val .bool, .val (.slice (.int .u32)), .val (.slice (.int .u32))]), (420, .buf (.int .i64))]
def z3n : Ann := { slots := [(0, .one (.fix (.pbox 4060 0))), (4, .one (.row 8188 qT)), (7, .one (.val (.int .i64))), (9, .one (.fix (.pbox 36 0))), (68, .one (.val (.int .i64))), (69, .one (.val (.int .i64)))], objs := zr9 }
def z21 : Ann := { slots := [(0, .one (.fix (.pbox 4060 0))), (4, .one (.row 8188 qT))], objs := zr9 }
def z1m : List (Nat × OSh) := [(4060, .box [.grd 8188 qT, .own 420 (.int .i64), .val (.int .i64), .val (.int .i64)]), (8188, .mat qT), (420, .buf (.int .i64))]
def z3t : Ann := { slots := [(0, .one (.fix (.pbox 4060 0))), (4, .one (.row 8188 qT)), (53, .one (.own 420 (.int .i64))), (54, .one (.val (.int .i64))), (55, .one (.val (.int .i64)))], objs := z1m }
def z2a : Ann := { slots := [], objs := z1m }
def zs0 : List (Nat × OSh) := [(4060, .box [.grd 8188 qT, .own 420 (.int .i64), .val (.int .i64), .val (.int .i64)]), (8024, .box [.val .bool, .val (.slice (.int .u32)), .val (.slice (.int .u32))]), (8188, .mat qT), (420, .buf (.int .i64))]
def z3o : Ann := { slots := [(0, .one (.fix (.pbox 4060 0))), (1, .one (.val (.int .i64))), (6, .one (.fix (.pbox 8024 0))), (28, .one (.val (.int .i64))), (29, .one (.val (.int .i64)))], objs := zs0 }
def z23 : Ann := { slots := [(0, .one (.fix (.pbox 4060 0)))], objs := zs0 }
def z6v : List (Nat × OSh) := [(4060, .box [.grd 8188 qT, .own 420 (.int .i64), .val (.int .i64), .val (.int .i64)]), (36, .box [.val .bool, .val (.slice (.int .u32)), .val (.slice (.int .u32))]), (8188, .mat qT), (420, .buf (.int .i64))]
def z3f : Ann := { slots := [(0, .one (.fix (.pbox 4060 0))), (1, .one (.val (.int .i64))), (8, .one (.val (.int .i64))), (9, .one (.fix (.pbox 36 0))), (87, .one (.val (.int .i64))), (88, .one (.val (.int .i64)))], objs := z6v }
def z1z : Ann := { slots := [(0, .one (.fix (.pbox 4060 0)))], objs := z6v }
def z3p : Ann := { slots := [(0, .one (.fix (.pbox 4060 0))), (1, .one (.val (.int .i64))), (2, .one (.val (.int .i64))), (58, .one (.val (.int .i64))), (59, .one (.val (.int .i64)))], objs := z1m }
def z25 : Ann := { slots := [(0, .one (.fix (.pbox 4060 0)))], objs := z1m }
def z42 : Ann := { slots := [(0, .one (.fix (.pbox 4060 0))), (1, .one (.val (.int .i64))), (5, .one (.val (.int .i64)))], objs := z1m }
def z2f : Ann := { slots := [(0, .one (.fix (.pbox 4060 0))), (5, .one (.val (.int .i64)))], objs := z1m }
def zs1 : List (Nat × OSh) := [(4060, .box [.grd 8188 qT, .own 420 (.int .i64), .val (.int .i64), .val (.int .i64)]), (4024, .box [.val .bool, .val (.slice (.int .u32)), .val (.slice (.int .u32))]), (8188, .mat qT), (420, .buf (.int .i64))]
def z2s : Ann := { slots := [(0, .one (.fix (.pbox 4060 0))), (1, .one (.val (.int .i64))), (6, .one (.fix (.pbox 4024 0))), (28, .one (.val (.int .i64))), (29, .one (.val (.int .i64)))], objs := zs1 }
def z1a : Ann := { slots := [(0, .one (.fix (.pbox 4060 0)))], objs := zs1 }
def z2p : Ann := { slots := [(0, .one (.fix (.pbox 4060 0))), (1, .one (.val (.int .i64))), (8, .one (.val (.int .i64))), (9, .one (.fix (.pbox 36 0))), (87, .one (.val (.int .i64))), (88, .one (.val (.int .i64)))], objs := z6v }
def z18 : Ann := { slots := [(0, .one (.fix (.pbox 4060 0)))], objs := z6v }
def z2t : Ann := { slots := [(0, .one (.fix (.pbox 4060 0))), (1, .one (.val (.int .i64))), (2, .one (.val (.int .i64))), (58, .one (.val (.int .i64))), (59, .one (.val (.int .i64)))], objs := z1m }
def z1c : Ann := { slots := [(0, .one (.fix (.pbox 4060 0)))], objs := z1m }
def z41 : Ann := { slots := [(0, .one (.fix (.pbox 4060 0))), (1, .one (.val (.int .i64)))], objs := z1m }
def z2d : Ann := { slots := [(4, .one (.val (.int .i64)))], objs := z1m }
def z6u : Ann := { slots := [(0, .one (.fix (.pbox 4060 0))), (8, .one (.val (.int .i64))), (112, .one (.val (.int .i64))), (113, .one (.val (.int .i64)))], objs := z1m }
def z3m : Ann := { slots := [(0, .one (.fix (.pbox 4060 0)))], objs := z1m }
def zs2 : List (Nat × OSh) := [(4060, .box [.grd 8188 qT, .own 420 (.int .i64), .val (.int .i64), .val (.int .i64)]), (420, .buf (.int .i64)), (8188, .mat qT)]
def z6t : Ann := { slots := [(0, .one (.fix (.pbox 4060 0))), (4, .one (.val (.int .i64))), (102, .one (.own 420 (.int .i64))), (103, .one (.val (.int .i64))), (104, .one (.val (.int .i64)))], objs := zs2 }
def z3k : Ann := { slots := [], objs := zs2 }
def z1t : Nat -> Int -> Int -> Int -> Int -> List (List (Bool × ((List Int) × (List Int)))) -> List (Bool × ((List Int) × (List Int))) -> List (List (Bool × ((List Int) × (List Int)))) -> List Int -> Option (LR z60 a0)
 | 0, _, _, _, _, _, _, _, _ => none
 | m + 1, s25, s26, b4060_2, b4060_3, b4072, b4084, b360, b420 =>
  if decide (s26 < s25) = true then if (0 : Int) <= IntKind.i64.wrap ((IntKind.i64.wrap (b4060_2 + b4060_3)) + 2) then if IntKind.i64.wrap ((IntKind.i64.wrap (b4060_2 + b4060_3)) + 2) <= IntKind.i64.wrap ((IntKind.i64.wrap (b4060_2 + b4060_3)) + 2) then if (IntKind.i64.wrap ((IntKind.i64.wrap (b4060_2 + b4060_3)) + 2)) * 56 <= 281474976710656 then if (0 : Int) <= s26 then if s26 < b4072.length then
  (z6f fuel 1).bind fun r1 =>
  if (0 : Int) <= IntKind.i64.wrap (b4060_2 + s26) then if IntKind.i64.wrap (b4060_2 + s26) < ((b4072.getD s26.toNat []).take (List.replicate ((IntKind.i64.wrap ((IntKind.i64.wrap (b4060_2 + b4060_3)) + 2)).toNat) ((false, ([], [])) : Bool × ((List Int) × (List Int)))).length ++ (List.replicate ((IntKind.i64.wrap ((IntKind.i64.wrap (b4060_2 + b4060_3)) + 2)).toNat) ((false, ([], [])) : Bool × ((List Int) × (List Int)))).drop (b4072.getD s26.toNat []).length).length then
  (z6f fuel (-1)).bind fun r2 =>
  if (0 : Int) <= IntKind.i64.wrap (b4060_2 + b4060_3) then if IntKind.i64.wrap (b4060_2 + b4060_3) < (((b4072.getD s26.toNat []).take (List.replicate ((IntKind.i64.wrap ((IntKind.i64.wrap (b4060_2 + b4060_3)) + 2)).toNat) ((false, ([], [])) : Bool × ((List Int) × (List Int)))).length ++ (List.replicate ((IntKind.i64.wrap ((IntKind.i64.wrap (b4060_2 + b4060_3)) + 2)).toNat) ((false, ([], [])) : Bool × ((List Int) × (List Int)))).drop (b4072.getD s26.toNat []).length).set ((IntKind.i64.wrap (b4060_2 + s26)).toNat) r1).length then if (0 : Int) <= s26 then if s26 < b4084.length then if (0 : Int) <= IntKind.i64.wrap ((IntKind.i64.wrap (b4060_2 + b4060_3)) + 1) then if IntKind.i64.wrap ((IntKind.i64.wrap (b4060_2 + b4060_3)) + 1) < ((((b4072.getD s26.toNat []).take (List.replicate ((IntKind.i64.wrap ((IntKind.i64.wrap (b4060_2 + b4060_3)) + 2)).toNat) ((false, ([], [])) : Bool × ((List Int) × (List Int)))).length ++ (List.replicate ((IntKind.i64.wrap ((IntKind.i64.wrap (b4060_2 + b4060_3)) + 2)).toNat) ((false, ([], [])) : Bool × ((List Int) × (List Int)))).drop (b4072.getD s26.toNat []).length).set ((IntKind.i64.wrap (b4060_2 + s26)).toNat) r1).set ((IntKind.i64.wrap (b4060_2 + b4060_3)).toNat) r2).length then
  if (b360.length + 1) * 24 <= 140737488355328 then if (b420.length + 1) * 8 <= 140737488355328 then
  z1t m s25 (IntKind.i64.wrap (s26 + 1)) b4060_2 b4060_3 b4072 b4084 (b360 ++ [((((b4072.getD s26.toNat []).take (List.replicate ((IntKind.i64.wrap ((IntKind.i64.wrap (b4060_2 + b4060_3)) + 2)).toNat) ((false, ([], [])) : Bool × ((List Int) × (List Int)))).length ++ (List.replicate ((IntKind.i64.wrap ((IntKind.i64.wrap (b4060_2 + b4060_3)) + 2)).toNat) ((false, ([], [])) : Bool × ((List Int) × (List Int)))).drop (b4072.getD s26.toNat []).length).set ((IntKind.i64.wrap (b4060_2 + s26)).toNat) r1).set ((IntKind.i64.wrap (b4060_2 + b4060_3)).toNat) r2).set ((IntKind.i64.wrap ((IntKind.i64.wrap (b4060_2 + b4060_3)) + 1)).toNat) ((b4084.getD s26.toNat (false, ([], []))).1, ((b4084.getD s26.toNat (false, ([], []))).2))]) (b420 ++ [IntKind.i64.wrap (b4060_2 + s26)])
  else none else none else none else none else none else none else none else none else none else none else none else none else none else none else none
  else
  some (.exit (b4060_2, b4060_3, b4072, b4084, b360, b420, ()))
def z5z : LSpec := { h := zd8, x := z60, r := a0, xid := 0, rt := false, pins := [4060, 4072, 4084], f := fun k d => z1t k d.1 d.2.1 d.2.2.1 d.2.2.2.1 d.2.2.2.2.1 d.2.2.2.2.2.1 d.2.2.2.2.2.2.1 d.2.2.2.2.2.2.2.1 }
def z0k : Nat -> Int -> Int -> Int -> Int -> Int -> List (List (Bool × ((List Int) × (List Int)))) -> List Int -> Option (LR z3x a0)
 | 0, _, _, _, _, _, _, _ => none
 | m + 1, s3, s23, s24, b4060_2, b4060_3, b360, b420 =>
  if decide (s24 < s23) = true then if (0 : Int) <= s24 then if s24 < b360.length then
  (z1o fuel (b360, (b420, (b4060_2, b4060_3)))).bind fun r1 =>
  if (0 : Int) <= r1 then if r1 < (b360.getD s24.toNat []).length then
  (z30 fuel (((b360.getD s24.toNat []).getD r1.toNat (false, ([], []))).1, (((b360.getD s24.toNat []).getD r1.toNat (false, ([], []))).2))).bind fun r2 =>
  if decide (r2 < 0) = true then if decide (s3 < 0) = false then if (0 : Int) <= s3 then if s3 < b360.length then
  (z1o fuel (b360, (b420, (b4060_2, b4060_3)))).bind fun r3 =>
  if (0 : Int) <= r3 then if r3 < (b360.getD s3.toNat []).length then
  (z44 fuel (((b360.getD s24.toNat []).getD r1.toNat (false, ([], []))).1, (((b360.getD s24.toNat []).getD r1.toNat (false, ([], []))).2)) (((b360.getD s3.toNat []).getD r3.toNat (false, ([], []))).1, (((b360.getD s3.toNat []).getD r3.toNat (false, ([], []))).2))).bind fun r4 =>
  if decide (r4 < 0) = true then
  z0k m s24 s23 (IntKind.i64.wrap (s24 + 1)) b4060_2 b4060_3 b360 b420
  else
  z0k m s3 s23 (IntKind.i64.wrap (s24 + 1)) b4060_2 b4060_3 b360 b420
  else none else none else none else none
  else
  z0k m s24 s23 (IntKind.i64.wrap (s24 + 1)) b4060_2 b4060_3 b360 b420
  else
  z0k m s3 s23 (IntKind.i64.wrap (s24 + 1)) b4060_2 b4060_3 b360 b420
  else none else none else none else none
  else
  some (.exit (s3, b4060_2, b4060_3, b360, b420, ()))
def z3w : LSpec := { h := z73, x := z3x, r := a0, xid := 0, rt := false, pins := [4060, 360, 420], f := fun k d => z0k k d.1 d.2.1 d.2.2.1 d.2.2.2.1 d.2.2.2.2.1 d.2.2.2.2.2.1 d.2.2.2.2.2.2.1 }
def z0t : Nat -> Int -> Int -> List (Bool × ((List Int) × (List Int))) -> List (Bool × ((List Int) × (List Int))) -> Option (LR z4r a0)
 | 0, _, _, _, _ => none
 | m + 1, s23, s24, b4084, b212 =>
  if decide (s24 < s23) = true then if (0 : Int) <= s24 then if s24 < b212.length then
  (z9l fuel ((b212.getD s24.toNat (false, ([], []))).1, ((b212.getD s24.toNat (false, ([], []))).2))).bind fun r1 =>
  if (0 : Int) <= s24 then if s24 < b4084.length then
  z0t m s23 (IntKind.i64.wrap (s24 + 1)) (b4084.set s24.toNat r1) b212
  else none else none else none else none
  else
  some (.exit (b4084, b212, ()))
def z4q : LSpec := { h := z8i, x := z4r, r := a0, xid := 0, rt := false, pins := [4084, 212], f := fun k d => z0t k d.1 d.2.1 d.2.2.1 d.2.2.2.1 }
def z15 : Nat -> Nat -> Int -> Int -> Int -> Int -> Int -> List (List (Bool × ((List Int) × (List Int)))) -> Bool -> List Int -> List Int -> List Int -> Option (LR z4m a0)
 | 0, _, _, _, _, _, _, _, _, _, _, _ => none
 | m + 1, s4, s7, s68, s69, b4060_2, b4060_3, b4188, b36_0, b36_1, b36_2, b420 =>
  if decide (s69 < s68) = true then if (0 : Int) <= s69 then if s69 < (b4188.getD s4 []).length then if (0 : Int) <= s7 then if s7 < b4188.length then if (0 : Int) <= s69 then if s69 < (b4188.getD s7.toNat []).length then
  (z31 fuel (b36_0, (b36_1, b36_2)) (((b4188.getD s7.toNat []).getD s69.toNat (false, ([], []))).1, (((b4188.getD s7.toNat []).getD s69.toNat (false, ([], []))).2))).bind fun r1 =>
  (z47 fuel (((b4188.getD s4 []).getD s69.toNat (false, ([], []))).1, (((b4188.getD s4 []).getD s69.toNat (false, ([], []))).2)) r1).bind fun r2 =>
  if (0 : Int) <= s69 then if s69 < (b4188.getD s4 []).length then
  z15 m s4 s7 s68 (IntKind.i64.wrap (s69 + 1)) b4060_2 b4060_3 (b4188.set s4 ((b4188.getD s4 []).set s69.toNat r2)) b36_0 b36_1 b36_2 b420
  else none else none else none else none else none else none else none else none
  else
  some (.exit (s4, b4060_2, b4060_3, b4188, b36_0, b36_1, b36_2, b420, ()))
def z4l : LSpec := { h := z7z, x := z4m, r := a0, xid := 4, rt := false, pins := [4060, 4188, 36, 420], f := fun k d => z15 k d.1 d.2.1 d.2.2.1 d.2.2.2.1 d.2.2.2.2.1 d.2.2.2.2.2.1 d.2.2.2.2.2.2.1 d.2.2.2.2.2.2.2.1 d.2.2.2.2.2.2.2.2.1 d.2.2.2.2.2.2.2.2.2.1 d.2.2.2.2.2.2.2.2.2.2.1 }
def z0q : Nat -> Nat -> Int -> Int -> Int -> Int -> List (List (Bool × ((List Int) × (List Int)))) -> List Int -> Option (LR z4t a0)
 | 0, _, _, _, _, _, _, _ => none
 | m + 1, s4, s54, s55, b4060_2, b4060_3, b4188, b420 =>
  if decide (s55 < s54) = true then if (0 : Int) <= s55 then if s55 < b420.length then if (0 : Int) <= b420.getD s55.toNat 0 then if b420.getD s55.toNat 0 < (b4188.getD s4 []).length then
  (z30 fuel (((b4188.getD s4 []).getD ((b420.getD s55.toNat 0).toNat) (false, ([], []))).1, (((b4188.getD s4 []).getD ((b420.getD s55.toNat 0).toNat) (false, ([], []))).2))).bind fun r1 =>
  if (r1 == 0) = true then
  z0q m s4 s54 (IntKind.i64.wrap (s55 + 1)) b4060_2 b4060_3 b4188 b420
  else
  match z15 m s4 s55 ((b4188.getD s4 []).length : Int) 0 b4060_2 b4060_3 b4188 (((b4188.getD s4 []).getD ((b420.getD s55.toNat 0).toNat) (false, ([], []))).1) ((((b4188.getD s4 []).getD ((b420.getD s55.toNat 0).toNat) (false, ([], []))).2).1) ((((b4188.getD s4 []).getD ((b420.getD s55.toNat 0).toNat) (false, ([], []))).2).2) b420 with
  | none => none
  | some (.exit d2) =>
   z0q m d2.1 s54 (IntKind.i64.wrap (s55 + 1)) d2.2.1 d2.2.2.1 d2.2.2.2.1 d2.2.2.2.2.2.2.2.1
  | some (.ret d2) =>
   none
  else none else none else none else none
  else
  some (.exit (b4060_2, b4060_3, b4188, b420, ()))
def z4s : LSpec := { h := z8j, x := z4t, r := a0, xid := 2, rt := false, pins := [4060, 4188, 420], f := fun k d => z0q k d.1 d.2.1 d.2.2.1 d.2.2.2.1 d.2.2.2.2.1 d.2.2.2.2.2.1 d.2.2.2.2.2.2.1 }
def z1e : Nat -> Int -> Int -> Int -> Int -> List (List (Bool × ((List Int) × (List Int)))) -> List Int -> Option (LR z52 a0)
 | 0, _, _, _, _, _, _ => none
 | m + 1, s1, s5, b4060_2, b4060_3, b4188, b420 =>
  if decide (s5 < s1) = true then if (0 : Int) <= b4060_3 then if b4060_3 < b4188.length then if (0 : Int) <= s5 then if s5 < (b4188.getD b4060_3.toNat []).length then
  (z30 fuel (((b4188.getD b4060_3.toNat []).getD s5.toNat (false, ([], []))).1, (((b4188.getD b4060_3.toNat []).getD s5.toNat (false, ([], []))).2))).bind fun r1 =>
  if decide (r1 >= 0) = true then
  z1e m s1 (IntKind.i64.wrap (s5 + 1)) b4060_2 b4060_3 b4188 b420
  else
  some (.exit (s5, b4060_2, b4060_3, b4188, b420, ()))
  else none else none else none else none
  else
  some (.exit (s5, b4060_2, b4060_3, b4188, b420, ()))
def z50 : LSpec := { h := z95, x := z52, r := a0, xid := 2, rt := false, pins := [4060, 4188, 420], f := fun k d => z1e k d.1 d.2.1 d.2.2.1 d.2.2.2.1 d.2.2.2.2.1 d.2.2.2.2.2.1 }
def z0m : Nat -> Int -> Int -> Int -> Int -> Int -> Bool -> List Int -> List Int -> List (List (Bool × ((List Int) × (List Int)))) -> List Int -> Option (LR z2k a0)
 | 0, _, _, _, _, _, _, _, _, _, _ => none
 | m + 1, s1, s28, s29, b4060_2, b4060_3, b4024_0, b4024_1, b4024_2, b4188, b420 =>
  if decide (s29 < s28) = true then if (0 : Int) <= s1 then if s1 < b4188.length then if (0 : Int) <= s1 then if s1 < b4188.length then if (0 : Int) <= s29 then if s29 < (b4188.getD s1.toNat []).length then
  (z5h fuel (((b4188.getD s1.toNat []).getD s29.toNat (false, ([], []))).1, (((b4188.getD s1.toNat []).getD s29.toNat (false, ([], []))).2)) (b4024_0, (b4024_1, b4024_2))).bind fun r1 =>
  if (0 : Int) <= s29 then if s29 < (b4188.getD s1.toNat []).length then
  z0m m s1 s28 (IntKind.i64.wrap (s29 + 1)) b4060_2 b4060_3 b4024_0 b4024_1 b4024_2 (b4188.set s1.toNat ((b4188.getD s1.toNat []).set s29.toNat r1)) b420
  else none else none else none else none else none else none else none else none
  else
  some (.exit (b4060_2, b4060_3, b4024_0, b4024_1, b4024_2, b4188, b420, ()))
def z2j : LSpec := { h := z4f, x := z2k, r := a0, xid := 0, rt := false, pins := [4060, 4024, 4188, 420], f := fun k d => z0m k d.1 d.2.1 d.2.2.1 d.2.2.2.1 d.2.2.2.2.1 d.2.2.2.2.2.1 d.2.2.2.2.2.2.1 d.2.2.2.2.2.2.2.1 d.2.2.2.2.2.2.2.2.1 d.2.2.2.2.2.2.2.2.2.1 }
def z0h : Nat -> Int -> Int -> Int -> Int -> Int -> Int -> Bool -> List Int -> List Int -> List (List (Bool × ((List Int) × (List Int)))) -> List Int -> Option (LR z2i a0)
 | 0, _, _, _, _, _, _, _, _, _, _, _ => none
 | m + 1, s1, s8, s87, s88, b4060_2, b4060_3, b36_0, b36_1, b36_2, b4188, b420 =>
  if decide (s88 < s87) = true then if (0 : Int) <= s8 then if s8 < b4188.length then if (0 : Int) <= s8 then if s8 < b4188.length then if (0 : Int) <= s88 then if s88 < (b4188.getD s8.toNat []).length then if (0 : Int) <= s1 then if s1 < b4188.length then if (0 : Int) <= s88 then if s88 < (b4188.getD s1.toNat []).length then
  (z31 fuel (b36_0, (b36_1, b36_2)) (((b4188.getD s1.toNat []).getD s88.toNat (false, ([], []))).1, (((b4188.getD s1.toNat []).getD s88.toNat (false, ([], []))).2))).bind fun r1 =>
  (z47 fuel (((b4188.getD s8.toNat []).getD s88.toNat (false, ([], []))).1, (((b4188.getD s8.toNat []).getD s88.toNat (false, ([], []))).2)) r1).bind fun r2 =>
  if (0 : Int) <= s88 then if s88 < (b4188.getD s8.toNat []).length then
  z0h m s1 s8 s87 (IntKind.i64.wrap (s88 + 1)) b4060_2 b4060_3 b36_0 b36_1 b36_2 (b4188.set s8.toNat ((b4188.getD s8.toNat []).set s88.toNat r2)) b420
  else none else none else none else none else none else none else none else none else none else none else none else none
  else
  some (.exit (b4060_2, b4060_3, b36_0, b36_1, b36_2, b4188, b420, ()))
def z2h : LSpec := { h := z49, x := z2i, r := a0, xid := 4, rt := false, pins := [4060, 36, 4188, 420], f := fun k d => z0h k d.1 d.2.1 d.2.2.1 d.2.2.2.1 d.2.2.2.2.1 d.2.2.2.2.2.1 d.2.2.2.2.2.2.1 d.2.2.2.2.2.2.2.1 d.2.2.2.2.2.2.2.2.1 d.2.2.2.2.2.2.2.2.2.1 d.2.2.2.2.2.2.2.2.2.2.1 }
def z08 : Nat -> Int -> Int -> Int -> Int -> Int -> Int -> List (List (Bool × ((List Int) × (List Int)))) -> List Int -> Option (LR z2m a0)
 | 0, _, _, _, _, _, _, _, _ => none
 | m + 1, s1, s2, s58, s59, b4060_2, b4060_3, b4188, b420 =>
  if decide (s59 < s58) = true then if (0 : Int) <= s59 then if s59 < b4188.length then if (0 : Int) <= s2 then if s2 < (b4188.getD s59.toNat []).length then if (s59 == s1) = false then
  (z30 fuel (((b4188.getD s59.toNat []).getD s2.toNat (false, ([], []))).1, (((b4188.getD s59.toNat []).getD s2.toNat (false, ([], []))).2))).bind fun r1 =>
  if (r1 == 0) = true then
  z08 m s1 s2 s58 (IntKind.i64.wrap (s59 + 1)) b4060_2 b4060_3 b4188 b420
  else
  if (0 : Int) <= s59 then if s59 < b4188.length then
  match z0h m s1 s59 ((b4188.getD s59.toNat []).length : Int) 0 b4060_2 b4060_3 (((b4188.getD s59.toNat []).getD s2.toNat (false, ([], []))).1) ((((b4188.getD s59.toNat []).getD s2.toNat (false, ([], []))).2).1) ((((b4188.getD s59.toNat []).getD s2.toNat (false, ([], []))).2).2) b4188 b420 with
  | none => none
  | some (.exit d2) =>
   z08 m s1 s2 s58 (IntKind.i64.wrap (s59 + 1)) d2.1 d2.2.1 d2.2.2.2.2.2.1 d2.2.2.2.2.2.2.1
  | some (.ret d2) =>
   none
  else none else none
  else
  z08 m s1 s2 s58 (IntKind.i64.wrap (s59 + 1)) b4060_2 b4060_3 b4188 b420
  else none else none else none else none
  else
  some (.exit (b4060_2, b4060_3, b4188, b420, ()))
def z2l : LSpec := { h := z4g, x := z2m, r := a0, xid := 2, rt := false, pins := [4060, 4188, 420], f := fun k d => z08 k d.1 d.2.1 d.2.2.1 d.2.2.2.1 d.2.2.2.2.1 d.2.2.2.2.2.1 d.2.2.2.2.2.2.1 d.2.2.2.2.2.2.2.1 }
def z12 : Nat -> Int -> Int -> Int -> List (List (Bool × ((List Int) × (List Int)))) -> List Int -> Option (LR a0 z4z)
 | 0, _, _, _, _, _ => none
 | m + 1, s1, b4060_2, b4060_3, b4188, b420 =>
  match z1e m s1 0 b4060_2 b4060_3 b4188 b420 with
  | none => none
  | some (.exit d1) =>
   if (d1.1 == s1) = true then
   some (.ret ((-1), d1.2.1, d1.2.2.1, d1.2.2.2.1, d1.2.2.2.2.1, ()))
   else
   (z38 fuel (d1.2.2.2.1, (d1.2.2.2.2.1, (d1.2.1, d1.2.2.1))) d1.1).bind fun r2 =>
   if decide (r2 < 0) = true then
   some (.ret (d1.1, d1.2.1, d1.2.2.1, d1.2.2.2.1, d1.2.2.2.2.1, ()))
   else
   if (0 : Int) <= r2 then if r2 < d1.2.2.2.1.length then if (0 : Int) <= d1.1 then if d1.1 < (d1.2.2.2.1.getD r2.toNat []).length then if (0 : Int) <= r2 then if r2 < d1.2.2.2.1.length then
   match z0m m r2 ((d1.2.2.2.1.getD r2.toNat []).length : Int) 0 d1.2.1 d1.2.2.1 (((d1.2.2.2.1.getD r2.toNat []).getD d1.1.toNat (false, ([], []))).1) ((((d1.2.2.2.1.getD r2.toNat []).getD d1.1.toNat (false, ([], []))).2).1) ((((d1.2.2.2.1.getD r2.toNat []).getD d1.1.toNat (false, ([], []))).2).2) d1.2.2.2.1 d1.2.2.2.2.1 with
   | none => none
   | some (.exit d3) =>
    match z08 m r2 d1.1 (d3.2.2.2.2.2.1.length : Int) 0 d3.1 d3.2.1 d3.2.2.2.2.2.1 d3.2.2.2.2.2.2.1 with
    | none => none
    | some (.exit d4) =>
     if (0 : Int) <= r2 then if r2 < d4.2.2.2.1.length then
     z12 m s1 d4.1 d4.2.1 d4.2.2.1 (d4.2.2.2.1.set r2.toNat d1.1)
     else none else none
    | some (.ret d4) =>
     none
   | some (.ret d3) =>
    none
   else none else none else none else none else none else none
  | some (.ret d1) =>
   none
def z4y : LSpec := { h := z94, x := a0, r := z4z, xid := 0, rt := true, pins := [4060, 4188, 420], f := fun k d => z12 k d.1 d.2.1 d.2.2.1 d.2.2.2.1 d.2.2.2.2.1 }
def z0l : Nat -> Int -> Int -> Int -> Int -> List (Bool × ((List Int) × (List Int))) -> List Int -> List (List (Bool × ((List Int) × (List Int)))) -> Option (LR z3z a0)
 | 0, _, _, _, _, _, _, _ => none
 | m + 1, s15, s16, b4060_2, b4060_3, b4040, b420, b4188 =>
  if decide (s16 < s15) = true then if (0 : Int) <= s16 then if s16 < b420.length then if decide (b420.getD s16.toNat 0 < b4060_2) = true then if (0 : Int) <= s16 then if s16 < b4188.length then
  (z1o fuel (b4188, (b420, (b4060_2, b4060_3)))).bind fun r1 =>
  if (0 : Int) <= r1 then if r1 < (b4188.getD s16.toNat []).length then if (0 : Int) <= b420.getD s16.toNat 0 then if b420.getD s16.toNat 0 < b4040.length then
  z0l m s15 (IntKind.i64.wrap (s16 + 1)) b4060_2 b4060_3 (b4040.set ((b420.getD s16.toNat 0).toNat) (((b4188.getD s16.toNat []).getD r1.toNat (false, ([], []))).1, (((b4188.getD s16.toNat []).getD r1.toNat (false, ([], []))).2))) b420 b4188
  else none else none else none else none else none else none
  else
  z0l m s15 (IntKind.i64.wrap (s16 + 1)) b4060_2 b4060_3 b4040 b420 b4188
  else none else none
  else
  some (.exit (b4040, b4060_2, b4060_3, b420, b4188, ()))
def z3y : LSpec := { h := z74, x := z3z, r := a0, xid := 0, rt := false, pins := [4060, 4040, 420, 4188], f := fun k d => z0l k d.1 d.2.1 d.2.2.1 d.2.2.2.1 d.2.2.2.2.1 d.2.2.2.2.2.1 d.2.2.2.2.2.2.1 }
def z1l : Nat -> Int -> Int -> Int -> Int -> Int -> List (Bool × ((List Int) × (List Int))) -> List Int -> List (List (Bool × ((List Int) × (List Int)))) -> Option (LR zr3 a0)
 | 0, _, _, _, _, _, _, _, _ => none
 | m + 1, s6, s131, s132, b4060_2, b4060_3, b464, b420, b4188 =>
  if decide (s132 < s131) = true then if (0 : Int) <= s132 then if s132 < b420.length then if decide (b420.getD s132.toNat 0 < b4060_2) = true then if (0 : Int) <= s132 then if s132 < b4188.length then if (0 : Int) <= s6 then if s6 < (b4188.getD s132.toNat []).length then
  (z9l fuel (((b4188.getD s132.toNat []).getD s6.toNat (false, ([], []))).1, (((b4188.getD s132.toNat []).getD s6.toNat (false, ([], []))).2))).bind fun r1 =>
  if (0 : Int) <= b420.getD s132.toNat 0 then if b420.getD s132.toNat 0 < b464.length then
  z1l m s6 s131 (IntKind.i64.wrap (s132 + 1)) b4060_2 b4060_3 (b464.set ((b420.getD s132.toNat 0).toNat) r1) b420 b4188
  else none else none else none else none else none else none
  else
  z1l m s6 s131 (IntKind.i64.wrap (s132 + 1)) b4060_2 b4060_3 b464 b420 b4188
  else none else none
  else
  some (.exit (b464, b4060_2, b4060_3, b420, b4188, ()))
def zr2 : LSpec := { h := y5i, x := zr3, r := a0, xid := 0, rt := false, pins := [4060, 464, 420, 4188], f := fun k d => z1l k d.1 d.2.1 d.2.2.1 d.2.2.2.1 d.2.2.2.2.1 d.2.2.2.2.2.1 d.2.2.2.2.2.2.1 d.2.2.2.2.2.2.2.1 }
def z0f : Nat -> Int -> Int -> List (Bool × ((List Int) × (List Int))) -> List (Bool × ((List Int) × (List Int))) -> Option (LR z28 a0)
 | 0, _, _, _, _ => none
 | m + 1, s23, s24, b8084, b4268 =>
  if decide (s24 < s23) = true then if (0 : Int) <= s24 then if s24 < b4268.length then
  (z9l fuel ((b4268.getD s24.toNat (false, ([], []))).1, ((b4268.getD s24.toNat (false, ([], []))).2))).bind fun r1 =>
  if (0 : Int) <= s24 then if s24 < b8084.length then
  z0f m s23 (IntKind.i64.wrap (s24 + 1)) (b8084.set s24.toNat r1) b4268
  else none else none else none else none
  else
  some (.exit (b8084, b4268, ()))
def z27 : LSpec := { h := z3s, x := z28, r := a0, xid := 0, rt := false, pins := [8084, 4268], f := fun k d => z0f k d.1 d.2.1 d.2.2.1 d.2.2.2.1 }
def z0e : Nat -> Nat -> Int -> Int -> Int -> Int -> Int -> List (List (Bool × ((List Int) × (List Int)))) -> Bool -> List Int -> List Int -> List Int -> Option (LR z21 a0)
 | 0, _, _, _, _, _, _, _, _, _, _, _ => none
 | m + 1, s4, s7, s68, s69, b4060_2, b4060_3, b8188, b36_0, b36_1, b36_2, b420 =>
  if decide (s69 < s68) = true then if (0 : Int) <= s69 then if s69 < (b8188.getD s4 []).length then if (0 : Int) <= s7 then if s7 < b8188.length then if (0 : Int) <= s69 then if s69 < (b8188.getD s7.toNat []).length then
  (z31 fuel (b36_0, (b36_1, b36_2)) (((b8188.getD s7.toNat []).getD s69.toNat (false, ([], []))).1, (((b8188.getD s7.toNat []).getD s69.toNat (false, ([], []))).2))).bind fun r1 =>
  (z47 fuel (((b8188.getD s4 []).getD s69.toNat (false, ([], []))).1, (((b8188.getD s4 []).getD s69.toNat (false, ([], []))).2)) r1).bind fun r2 =>
  if (0 : Int) <= s69 then if s69 < (b8188.getD s4 []).length then
  z0e m s4 s7 s68 (IntKind.i64.wrap (s69 + 1)) b4060_2 b4060_3 (b8188.set s4 ((b8188.getD s4 []).set s69.toNat r2)) b36_0 b36_1 b36_2 b420
  else none else none else none else none else none else none else none else none
  else
  some (.exit (s4, b4060_2, b4060_3, b8188, b36_0, b36_1, b36_2, b420, ()))
def z20 : LSpec := { h := z3n, x := z21, r := a0, xid := 4, rt := false, pins := [4060, 8188, 36, 420], f := fun k d => z0e k d.1 d.2.1 d.2.2.1 d.2.2.2.1 d.2.2.2.2.1 d.2.2.2.2.2.1 d.2.2.2.2.2.2.1 d.2.2.2.2.2.2.2.1 d.2.2.2.2.2.2.2.2.1 d.2.2.2.2.2.2.2.2.2.1 d.2.2.2.2.2.2.2.2.2.2.1 }
def z0a : Nat -> Nat -> Int -> Int -> Int -> Int -> List (List (Bool × ((List Int) × (List Int)))) -> List Int -> Option (LR z2a a0)
 | 0, _, _, _, _, _, _, _ => none
 | m + 1, s4, s54, s55, b4060_2, b4060_3, b8188, b420 =>
  if decide (s55 < s54) = true then if (0 : Int) <= s55 then if s55 < b420.length then if (0 : Int) <= b420.getD s55.toNat 0 then if b420.getD s55.toNat 0 < (b8188.getD s4 []).length then
  (z30 fuel (((b8188.getD s4 []).getD ((b420.getD s55.toNat 0).toNat) (false, ([], []))).1, (((b8188.getD s4 []).getD ((b420.getD s55.toNat 0).toNat) (false, ([], []))).2))).bind fun r1 =>
  if (r1 == 0) = true then
  z0a m s4 s54 (IntKind.i64.wrap (s55 + 1)) b4060_2 b4060_3 b8188 b420
  else
  match z0e m s4 s55 ((b8188.getD s4 []).length : Int) 0 b4060_2 b4060_3 b8188 (((b8188.getD s4 []).getD ((b420.getD s55.toNat 0).toNat) (false, ([], []))).1) ((((b8188.getD s4 []).getD ((b420.getD s55.toNat 0).toNat) (false, ([], []))).2).1) ((((b8188.getD s4 []).getD ((b420.getD s55.toNat 0).toNat) (false, ([], []))).2).2) b420 with
  | none => none
  | some (.exit d2) =>
   z0a m d2.1 s54 (IntKind.i64.wrap (s55 + 1)) d2.2.1 d2.2.2.1 d2.2.2.2.1 d2.2.2.2.2.2.2.2.1
  | some (.ret d2) =>
   none
  else none else none else none else none
  else
  some (.exit (b4060_2, b4060_3, b8188, b420, ()))
def z29 : LSpec := { h := z3t, x := z2a, r := a0, xid := 2, rt := false, pins := [4060, 8188, 420], f := fun k d => z0a k d.1 d.2.1 d.2.2.1 d.2.2.2.1 d.2.2.2.2.1 d.2.2.2.2.2.1 d.2.2.2.2.2.2.1 }
def z09 : Nat -> Int -> Int -> Int -> Int -> Int -> Bool -> List Int -> List Int -> List (List (Bool × ((List Int) × (List Int)))) -> List Int -> Option (LR z23 a0)
 | 0, _, _, _, _, _, _, _, _, _, _ => none
 | m + 1, s1, s28, s29, b4060_2, b4060_3, b8024_0, b8024_1, b8024_2, b8188, b420 =>
  if decide (s29 < s28) = true then if (0 : Int) <= s1 then if s1 < b8188.length then if (0 : Int) <= s1 then if s1 < b8188.length then if (0 : Int) <= s29 then if s29 < (b8188.getD s1.toNat []).length then
  (z5h fuel (((b8188.getD s1.toNat []).getD s29.toNat (false, ([], []))).1, (((b8188.getD s1.toNat []).getD s29.toNat (false, ([], []))).2)) (b8024_0, (b8024_1, b8024_2))).bind fun r1 =>
  if (0 : Int) <= s29 then if s29 < (b8188.getD s1.toNat []).length then
  z09 m s1 s28 (IntKind.i64.wrap (s29 + 1)) b4060_2 b4060_3 b8024_0 b8024_1 b8024_2 (b8188.set s1.toNat ((b8188.getD s1.toNat []).set s29.toNat r1)) b420
  else none else none else none else none else none else none else none else none
  else
  some (.exit (b4060_2, b4060_3, b8024_0, b8024_1, b8024_2, b8188, b420, ()))
def z22 : LSpec := { h := z3o, x := z23, r := a0, xid := 0, rt := false, pins := [4060, 8024, 8188, 420], f := fun k d => z09 k d.1 d.2.1 d.2.2.1 d.2.2.2.1 d.2.2.2.2.1 d.2.2.2.2.2.1 d.2.2.2.2.2.2.1 d.2.2.2.2.2.2.2.1 d.2.2.2.2.2.2.2.2.1 d.2.2.2.2.2.2.2.2.2.1 }
def z0b : Nat -> Int -> Int -> Int -> Int -> Int -> Int -> Bool -> List Int -> List Int -> List (List (Bool × ((List Int) × (List Int)))) -> List Int -> Option (LR z1z a0)
 | 0, _, _, _, _, _, _, _, _, _, _, _ => none
 | m + 1, s1, s8, s87, s88, b4060_2, b4060_3, b36_0, b36_1, b36_2, b8188, b420 =>
  if decide (s88 < s87) = true then if (0 : Int) <= s8 then if s8 < b8188.length then if (0 : Int) <= s8 then if s8 < b8188.length then if (0 : Int) <= s88 then if s88 < (b8188.getD s8.toNat []).length then if (0 : Int) <= s1 then if s1 < b8188.length then if (0 : Int) <= s88 then if s88 < (b8188.getD s1.toNat []).length then
  (z31 fuel (b36_0, (b36_1, b36_2)) (((b8188.getD s1.toNat []).getD s88.toNat (false, ([], []))).1, (((b8188.getD s1.toNat []).getD s88.toNat (false, ([], []))).2))).bind fun r1 =>
  (z47 fuel (((b8188.getD s8.toNat []).getD s88.toNat (false, ([], []))).1, (((b8188.getD s8.toNat []).getD s88.toNat (false, ([], []))).2)) r1).bind fun r2 =>
  if (0 : Int) <= s88 then if s88 < (b8188.getD s8.toNat []).length then
  z0b m s1 s8 s87 (IntKind.i64.wrap (s88 + 1)) b4060_2 b4060_3 b36_0 b36_1 b36_2 (b8188.set s8.toNat ((b8188.getD s8.toNat []).set s88.toNat r2)) b420
  else none else none else none else none else none else none else none else none else none else none else none else none
  else
  some (.exit (b4060_2, b4060_3, b36_0, b36_1, b36_2, b8188, b420, ()))
def z1y : LSpec := { h := z3f, x := z1z, r := a0, xid := 4, rt := false, pins := [4060, 36, 8188, 420], f := fun k d => z0b k d.1 d.2.1 d.2.2.1 d.2.2.2.1 d.2.2.2.2.1 d.2.2.2.2.2.1 d.2.2.2.2.2.2.1 d.2.2.2.2.2.2.2.1 d.2.2.2.2.2.2.2.2.1 d.2.2.2.2.2.2.2.2.2.1 d.2.2.2.2.2.2.2.2.2.2.1 }
def z04 : Nat -> Int -> Int -> Int -> Int -> Int -> Int -> List (List (Bool × ((List Int) × (List Int)))) -> List Int -> Option (LR z25 a0)
 | 0, _, _, _, _, _, _, _, _ => none
 | m + 1, s1, s2, s58, s59, b4060_2, b4060_3, b8188, b420 =>
  if decide (s59 < s58) = true then if (0 : Int) <= s59 then if s59 < b8188.length then if (0 : Int) <= s2 then if s2 < (b8188.getD s59.toNat []).length then if (s59 == s1) = false then
  (z30 fuel (((b8188.getD s59.toNat []).getD s2.toNat (false, ([], []))).1, (((b8188.getD s59.toNat []).getD s2.toNat (false, ([], []))).2))).bind fun r1 =>
  if (r1 == 0) = true then
  z04 m s1 s2 s58 (IntKind.i64.wrap (s59 + 1)) b4060_2 b4060_3 b8188 b420
  else
  if (0 : Int) <= s59 then if s59 < b8188.length then
  match z0b m s1 s59 ((b8188.getD s59.toNat []).length : Int) 0 b4060_2 b4060_3 (((b8188.getD s59.toNat []).getD s2.toNat (false, ([], []))).1) ((((b8188.getD s59.toNat []).getD s2.toNat (false, ([], []))).2).1) ((((b8188.getD s59.toNat []).getD s2.toNat (false, ([], []))).2).2) b8188 b420 with
  | none => none
  | some (.exit d2) =>
   z04 m s1 s2 s58 (IntKind.i64.wrap (s59 + 1)) d2.1 d2.2.1 d2.2.2.2.2.2.1 d2.2.2.2.2.2.2.1
  | some (.ret d2) =>
   none
  else none else none
  else
  z04 m s1 s2 s58 (IntKind.i64.wrap (s59 + 1)) b4060_2 b4060_3 b8188 b420
  else none else none else none else none
  else
  some (.exit (b4060_2, b4060_3, b8188, b420, ()))
def z24 : LSpec := { h := z3p, x := z25, r := a0, xid := 2, rt := false, pins := [4060, 8188, 420], f := fun k d => z04 k d.1 d.2.1 d.2.2.1 d.2.2.2.1 d.2.2.2.2.1 d.2.2.2.2.2.1 d.2.2.2.2.2.2.1 d.2.2.2.2.2.2.2.1 }
def z0g : Nat -> Int -> Int -> Int -> Int -> List (List (Bool × ((List Int) × (List Int)))) -> List Int -> Option (LR z2f a0)
 | 0, _, _, _, _, _, _ => none
 | m + 1, s1, s5, b4060_2, b4060_3, b8188, b420 =>
  if decide (s5 < s1) = true then if (0 : Int) <= b4060_3 then if b4060_3 < b8188.length then if (0 : Int) <= s5 then if s5 < (b8188.getD b4060_3.toNat []).length then
  (z30 fuel (((b8188.getD b4060_3.toNat []).getD s5.toNat (false, ([], []))).1, (((b8188.getD b4060_3.toNat []).getD s5.toNat (false, ([], []))).2))).bind fun r1 =>
  if decide (r1 >= 0) = true then
  z0g m s1 (IntKind.i64.wrap (s5 + 1)) b4060_2 b4060_3 b8188 b420
  else
  some (.exit (s5, b4060_2, b4060_3, b8188, b420, ()))
  else none else none else none else none
  else
  some (.exit (s5, b4060_2, b4060_3, b8188, b420, ()))
def z2e : LSpec := { h := z42, x := z2f, r := a0, xid := 2, rt := false, pins := [4060, 8188, 420], f := fun k d => z0g k d.1 d.2.1 d.2.2.1 d.2.2.2.1 d.2.2.2.2.1 d.2.2.2.2.2.1 }
def z06 : Nat -> Int -> Int -> Int -> Int -> Int -> Bool -> List Int -> List Int -> List (List (Bool × ((List Int) × (List Int)))) -> List Int -> Option (LR z1a a0)
 | 0, _, _, _, _, _, _, _, _, _, _ => none
 | m + 1, s1, s28, s29, b4060_2, b4060_3, b4024_0, b4024_1, b4024_2, b8188, b420 =>
  if decide (s29 < s28) = true then if (0 : Int) <= s1 then if s1 < b8188.length then if (0 : Int) <= s1 then if s1 < b8188.length then if (0 : Int) <= s29 then if s29 < (b8188.getD s1.toNat []).length then
  (z5h fuel (((b8188.getD s1.toNat []).getD s29.toNat (false, ([], []))).1, (((b8188.getD s1.toNat []).getD s29.toNat (false, ([], []))).2)) (b4024_0, (b4024_1, b4024_2))).bind fun r1 =>
  if (0 : Int) <= s29 then if s29 < (b8188.getD s1.toNat []).length then
  z06 m s1 s28 (IntKind.i64.wrap (s29 + 1)) b4060_2 b4060_3 b4024_0 b4024_1 b4024_2 (b8188.set s1.toNat ((b8188.getD s1.toNat []).set s29.toNat r1)) b420
  else none else none else none else none else none else none else none else none
  else
  some (.exit (b4060_2, b4060_3, b4024_0, b4024_1, b4024_2, b8188, b420, ()))
def z19 : LSpec := { h := z2s, x := z1a, r := a0, xid := 0, rt := false, pins := [4060, 4024, 8188, 420], f := fun k d => z06 k d.1 d.2.1 d.2.2.1 d.2.2.2.1 d.2.2.2.2.1 d.2.2.2.2.2.1 d.2.2.2.2.2.2.1 d.2.2.2.2.2.2.2.1 d.2.2.2.2.2.2.2.2.1 d.2.2.2.2.2.2.2.2.2.1 }
def z05 : Nat -> Int -> Int -> Int -> Int -> Int -> Int -> Bool -> List Int -> List Int -> List (List (Bool × ((List Int) × (List Int)))) -> List Int -> Option (LR z18 a0)
 | 0, _, _, _, _, _, _, _, _, _, _, _ => none
 | m + 1, s1, s8, s87, s88, b4060_2, b4060_3, b36_0, b36_1, b36_2, b8188, b420 =>
  if decide (s88 < s87) = true then if (0 : Int) <= s8 then if s8 < b8188.length then if (0 : Int) <= s8 then if s8 < b8188.length then if (0 : Int) <= s88 then if s88 < (b8188.getD s8.toNat []).length then if (0 : Int) <= s1 then if s1 < b8188.length then if (0 : Int) <= s88 then if s88 < (b8188.getD s1.toNat []).length then
  (z31 fuel (b36_0, (b36_1, b36_2)) (((b8188.getD s1.toNat []).getD s88.toNat (false, ([], []))).1, (((b8188.getD s1.toNat []).getD s88.toNat (false, ([], []))).2))).bind fun r1 =>
  (z47 fuel (((b8188.getD s8.toNat []).getD s88.toNat (false, ([], []))).1, (((b8188.getD s8.toNat []).getD s88.toNat (false, ([], []))).2)) r1).bind fun r2 =>
  if (0 : Int) <= s88 then if s88 < (b8188.getD s8.toNat []).length then
  z05 m s1 s8 s87 (IntKind.i64.wrap (s88 + 1)) b4060_2 b4060_3 b36_0 b36_1 b36_2 (b8188.set s8.toNat ((b8188.getD s8.toNat []).set s88.toNat r2)) b420
  else none else none else none else none else none else none else none else none else none else none else none else none
  else
  some (.exit (b4060_2, b4060_3, b36_0, b36_1, b36_2, b8188, b420, ()))
def z17 : LSpec := { h := z2p, x := z18, r := a0, xid := 4, rt := false, pins := [4060, 36, 8188, 420], f := fun k d => z05 k d.1 d.2.1 d.2.2.1 d.2.2.2.1 d.2.2.2.2.1 d.2.2.2.2.2.1 d.2.2.2.2.2.2.1 d.2.2.2.2.2.2.2.1 d.2.2.2.2.2.2.2.2.1 d.2.2.2.2.2.2.2.2.2.1 d.2.2.2.2.2.2.2.2.2.2.1 }
def z02 : Nat -> Int -> Int -> Int -> Int -> Int -> Int -> List (List (Bool × ((List Int) × (List Int)))) -> List Int -> Option (LR z1c a0)
 | 0, _, _, _, _, _, _, _, _ => none
 | m + 1, s1, s2, s58, s59, b4060_2, b4060_3, b8188, b420 =>
  if decide (s59 < s58) = true then if (0 : Int) <= s59 then if s59 < b8188.length then if (0 : Int) <= s2 then if s2 < (b8188.getD s59.toNat []).length then if (s59 == s1) = false then
  (z30 fuel (((b8188.getD s59.toNat []).getD s2.toNat (false, ([], []))).1, (((b8188.getD s59.toNat []).getD s2.toNat (false, ([], []))).2))).bind fun r1 =>
  if (r1 == 0) = true then
  z02 m s1 s2 s58 (IntKind.i64.wrap (s59 + 1)) b4060_2 b4060_3 b8188 b420
  else
  if (0 : Int) <= s59 then if s59 < b8188.length then
  match z05 m s1 s59 ((b8188.getD s59.toNat []).length : Int) 0 b4060_2 b4060_3 (((b8188.getD s59.toNat []).getD s2.toNat (false, ([], []))).1) ((((b8188.getD s59.toNat []).getD s2.toNat (false, ([], []))).2).1) ((((b8188.getD s59.toNat []).getD s2.toNat (false, ([], []))).2).2) b8188 b420 with
  | none => none
  | some (.exit d2) =>
   z02 m s1 s2 s58 (IntKind.i64.wrap (s59 + 1)) d2.1 d2.2.1 d2.2.2.2.2.2.1 d2.2.2.2.2.2.2.1
  | some (.ret d2) =>
   none
  else none else none
  else
  z02 m s1 s2 s58 (IntKind.i64.wrap (s59 + 1)) b4060_2 b4060_3 b8188 b420
  else none else none else none else none
  else
  some (.exit (b4060_2, b4060_3, b8188, b420, ()))
def z1b : LSpec := { h := z2t, x := z1c, r := a0, xid := 2, rt := false, pins := [4060, 8188, 420], f := fun k d => z02 k d.1 d.2.1 d.2.2.1 d.2.2.2.1 d.2.2.2.2.1 d.2.2.2.2.2.1 d.2.2.2.2.2.2.1 d.2.2.2.2.2.2.2.1 }
def z0p : Nat -> Int -> Int -> Int -> List (List (Bool × ((List Int) × (List Int)))) -> List Int -> Option (LR a0 z2d)
 | 0, _, _, _, _, _ => none
 | m + 1, s1, b4060_2, b4060_3, b8188, b420 =>
  match z0g m s1 0 b4060_2 b4060_3 b8188 b420 with
  | none => none
  | some (.exit d1) =>
   if (d1.1 == s1) = true then
   some (.ret ((-1), d1.2.1, d1.2.2.1, d1.2.2.2.1, d1.2.2.2.2.1, ()))
   else
   (z38 fuel (d1.2.2.2.1, (d1.2.2.2.2.1, (d1.2.1, d1.2.2.1))) d1.1).bind fun r2 =>
   if decide (r2 < 0) = true then
   some (.ret (d1.1, d1.2.1, d1.2.2.1, d1.2.2.2.1, d1.2.2.2.2.1, ()))
   else
   if (0 : Int) <= r2 then if r2 < d1.2.2.2.1.length then if (0 : Int) <= d1.1 then if d1.1 < (d1.2.2.2.1.getD r2.toNat []).length then if (0 : Int) <= r2 then if r2 < d1.2.2.2.1.length then
   match z06 m r2 ((d1.2.2.2.1.getD r2.toNat []).length : Int) 0 d1.2.1 d1.2.2.1 (((d1.2.2.2.1.getD r2.toNat []).getD d1.1.toNat (false, ([], []))).1) ((((d1.2.2.2.1.getD r2.toNat []).getD d1.1.toNat (false, ([], []))).2).1) ((((d1.2.2.2.1.getD r2.toNat []).getD d1.1.toNat (false, ([], []))).2).2) d1.2.2.2.1 d1.2.2.2.2.1 with
   | none => none
   | some (.exit d3) =>
    match z02 m r2 d1.1 (d3.2.2.2.2.2.1.length : Int) 0 d3.1 d3.2.1 d3.2.2.2.2.2.1 d3.2.2.2.2.2.2.1 with
    | none => none
    | some (.exit d4) =>
     if (0 : Int) <= r2 then if r2 < d4.2.2.2.1.length then
     z0p m s1 d4.1 d4.2.1 d4.2.2.1 (d4.2.2.2.1.set r2.toNat d1.1)
     else none else none
    | some (.ret d4) =>
     none
   | some (.ret d3) =>
    none
   else none else none else none else none else none else none
  | some (.ret d1) =>
   none
def z2c : LSpec := { h := z41, x := a0, r := z2d, xid := 0, rt := true, pins := [4060, 8188, 420], f := fun k d => z0p k d.1 d.2.1 d.2.2.1 d.2.2.2.1 d.2.2.2.2.1 }
def z10 : Nat -> Int -> Int -> Int -> Int -> Int -> List (List (Bool × ((List Int) × (List Int)))) -> List Int -> Option (LR z3m a0)
 | 0, _, _, _, _, _, _, _ => none
 | m + 1, s8, s112, s113, b4060_2, b4060_3, b8188, b420 =>
  if decide (s113 < s112) = true then if (0 : Int) <= s8 then if s8 < b8188.length then if (0 : Int) <= s113 then if s113 < (b8188.getD s8.toNat []).length then
  (z30 fuel (((b8188.getD s8.toNat []).getD s113.toNat (false, ([], []))).1, (((b8188.getD s8.toNat []).getD s113.toNat (false, ([], []))).2))).bind fun r1 =>
  if (r1 != 0) = true then if (0 : Int) <= s8 then if s8 < b8188.length then if (0 : Int) <= s113 then if s113 < (b8188.getD s8.toNat []).length then if (0 : Int) <= s8 then if s8 < b8188.length then
  match z09 m s8 ((b8188.getD s8.toNat []).length : Int) 0 b4060_2 b4060_3 (((b8188.getD s8.toNat []).getD s113.toNat (false, ([], []))).1) ((((b8188.getD s8.toNat []).getD s113.toNat (false, ([], []))).2).1) ((((b8188.getD s8.toNat []).getD s113.toNat (false, ([], []))).2).2) b8188 b420 with
  | none => none
  | some (.exit d2) =>
   match z04 m s8 s113 (d2.2.2.2.2.2.1.length : Int) 0 d2.1 d2.2.1 d2.2.2.2.2.2.1 d2.2.2.2.2.2.2.1 with
   | none => none
   | some (.exit d3) =>
    if (0 : Int) <= s8 then if s8 < d3.2.2.2.1.length then
    some (.exit (d3.1, d3.2.1, d3.2.2.1, d3.2.2.2.1.set s8.toNat s113, ()))
    else none else none
   | some (.ret d3) =>
    none
  | some (.ret d2) =>
   none
  else none else none else none else none else none else none
  else
  z10 m s8 s112 (IntKind.i64.wrap (s113 + 1)) b4060_2 b4060_3 b8188 b420
  else none else none else none else none
  else
  some (.exit (b4060_2, b4060_3, b8188, b420, ()))
def z3l : LSpec := { h := z6u, x := z3m, r := a0, xid := 4, rt := false, pins := [4060, 8188, 420], f := fun k d => z10 k d.1 d.2.1 d.2.2.1 d.2.2.2.1 d.2.2.2.2.1 d.2.2.2.2.2.1 d.2.2.2.2.2.2.1 }
def z0s : Nat -> Int -> Int -> Int -> Int -> Int -> List Int -> List (List (Bool × ((List Int) × (List Int)))) -> Option (LR z3k a0)
 | 0, _, _, _, _, _, _, _ => none
 | m + 1, s4, s103, s104, b4060_2, b4060_3, b420, b8188 =>
  if decide (s104 < s103) = true then if (0 : Int) <= s104 then if s104 < b420.length then if (b420.getD s104.toNat 0 != s4) = true then
  z0s m s4 s103 (IntKind.i64.wrap (s104 + 1)) b4060_2 b4060_3 b420 b8188
  else
  match z10 m s104 s4 0 b4060_2 b4060_3 b8188 b420 with
  | none => none
  | some (.exit d1) =>
   z0s m s4 s103 (IntKind.i64.wrap (s104 + 1)) d1.1 d1.2.1 d1.2.2.2.1 d1.2.2.1
  | some (.ret d1) =>
   none
  else none else none
  else
  some (.exit (b4060_2, b4060_3, b420, b8188, ()))
def z3j : LSpec := { h := z6t, x := z3k, r := a0, xid := 2, rt := false, pins := [4060, 420, 8188], f := fun k d => z0s k d.1 d.2.1 d.2.2.1 d.2.2.2.1 d.2.2.2.2.1 d.2.2.2.2.2.1 d.2.2.2.2.2.2.1 }
def y9y : z1w := [([59, 29], [(4, z5z)]), ([60, 29], [(3, z3w), (19, z3j), (23, z3l)]), ([62, 29], [(2, z4q), (8, z4s), (13, z4l)]), ([63, 29], [(1, z4y), (2, z50)]), ([82, 63, 29], [(2, z2j), (7, z2l), (12, z2h)]), ([64, 29], [(3, z3y)]), ([29], [(16, zr2)]), ([62, 60, 29], [(2, z27), (8, z29), (13, z20)]), ([82, 60, 29], [(2, z22), (7, z24), (12, z1y)]), ([63, 60, 29], [(1, z2c), (2, z2e)]), ([82, 63, 60, 29], [(2, z19), (7, z1b), (12, z17)])]
def zc5 (k : Nat) (a0 : (List (List ByteArray)) × ((List ByteArray) × (List ByteArray))) : Option ((Int × ((List ByteArray) × ((List ByteArray) × ((List ByteArray) × ByteArray)))) × Int) :=
 (z6h fuel a0).bind fun r1 =>
 if (r1 != 0) = true then
 some ((0, ([], ([], ([], ByteArray.empty)))), r1)
 else
 (z64 fuel a0.1).bind fun r2 =>
 (z2n fuel a0.2.1).bind fun r3 =>
 match z1t k (a0.1.length : Int) 0 (a0.2.2.length : Int) (a0.1.length : Int) r2 r3 [] [] with
 | none => none
 | some (.exit d4) =>
  match z0k k (-1) d4.2.1 0 d4.1 d4.2.1 d4.2.2.2.2.1 d4.2.2.2.2.2.1 with
  | none => none
  | some (.exit d5) =>
   if decide (d5.1 < 0) = true then
   (z2n fuel a0.2.2).bind fun r6 =>
   if (0 : Int) <= IntKind.i64.wrap ((IntKind.i64.wrap (d5.2.1 + d5.2.2.1)) + 2) then if IntKind.i64.wrap ((IntKind.i64.wrap (d5.2.1 + d5.2.2.1)) + 2) <= IntKind.i64.wrap ((IntKind.i64.wrap (d5.2.1 + d5.2.2.1)) + 2) then if (IntKind.i64.wrap ((IntKind.i64.wrap (d5.2.1 + d5.2.2.1)) + 2)) * 56 <= 281474976710656 then
   match z0t k (r6.length : Int) 0 (List.replicate ((IntKind.i64.wrap ((IntKind.i64.wrap (d5.2.1 + d5.2.2.1)) + 2)).toNat) ((false, ([], [])) : Bool × ((List Int) × (List Int)))) r6 with
   | none => none
   | some (.exit d7) =>
    if (0 : Int) <= d5.2.2.1 then if d5.2.2.1 <= d5.2.2.2.1.length then if ((d5.2.2.2.1.take d5.2.2.1.toNat).length + 1) * 24 <= 140737488355328 then
    match z0q k ((d5.2.2.2.1.take d5.2.2.1.toNat).length) (d5.2.2.2.2.1.length : Int) 0 d5.2.1 d5.2.2.1 ((d5.2.2.2.1.take d5.2.2.1.toNat) ++ [d7.1]) d5.2.2.2.2.1 with
    | none => none
    | some (.exit d8) =>
     match z12 k (IntKind.i64.wrap (d8.1 + d8.2.1)) d8.1 d8.2.1 d8.2.2.1 d8.2.2.2.1 with
     | none => none
     | some (.exit d9) =>
      none
     | some (.ret d9) =>
      if (0 : Int) <= d9.2.1 then if d9.2.1 <= d9.2.1 then if d9.2.1 * 56 <= 281474976710656 then
      match z0l k (d9.2.2.2.2.1.length : Int) 0 d9.2.1 d9.2.2.1 (List.replicate d9.2.1.toNat ((false, ([], [])) : Bool × ((List Int) × (List Int)))) d9.2.2.2.2.1 d9.2.2.2.1 with
      | none => none
      | some (.exit d10) =>
       if decide (d9.1 < 0) = true then if (0 : Int) <= d10.2.2.1 then if d10.2.2.1 < d10.2.2.2.2.1.length then if (0 : Int) <= IntKind.i64.wrap (d10.2.1 + d10.2.2.1) then if IntKind.i64.wrap (d10.2.1 + d10.2.2.1) <= (d10.2.2.2.2.1.getD d10.2.2.1.toNat []).length then if (0 : Int) <= d10.2.1 then if d10.2.1 <= IntKind.i64.wrap (d10.2.1 + d10.2.2.1) then if (0 : Int) <= d10.2.2.1 then if d10.2.2.1 < d10.2.2.2.2.1.length then
       (z1o fuel (d10.2.2.2.2.1, (d10.2.2.2.1, (d10.2.1, d10.2.2.1)))).bind fun r11 =>
       if (0 : Int) <= r11 then if r11 < (d10.2.2.2.2.1.getD d10.2.2.1.toNat []).length then
       (z14 fuel 0 d10.1 (((d10.2.2.2.2.1.getD d10.2.2.1.toNat []).take (IntKind.i64.wrap (d10.2.1 + d10.2.2.1)).toNat).drop d10.2.1.toNat) [] (((d10.2.2.2.2.1.getD d10.2.2.1.toNat []).getD r11.toNat (false, ([], []))).1, (((d10.2.2.2.2.1.getD d10.2.2.1.toNat []).getD r11.toNat (false, ([], []))).2))).bind fun r12 =>
       some (r12.1, r12.2)
       else none else none else none else none else none else none else none else none else none else none
       else
       if (0 : Int) <= d10.2.1 then if d10.2.1 <= d10.2.1 then if d10.2.1 * 56 <= 281474976710656 then if decide (d9.1 < d10.2.1) = true then
       (z6f fuel 1).bind fun r13 =>
       if (0 : Int) <= d9.1 then if d9.1 < (List.replicate d10.2.1.toNat ((false, ([], [])) : Bool × ((List Int) × (List Int)))).length then
       match z1l k d9.1 (d10.2.2.2.1.length : Int) 0 d10.2.1 d10.2.2.1 ((List.replicate d10.2.1.toNat ((false, ([], [])) : Bool × ((List Int) × (List Int)))).set d9.1.toNat r13) d10.2.2.2.1 d10.2.2.2.2.1 with
       | none => none
       | some (.exit d14) =>
        (z14 fuel 2 d10.1 [] d14.1 (false, ([], []))).bind fun r15 =>
        some (r15.1, r15.2)
       | some (.ret d14) =>
        none
       else none else none
       else
       match z1l k d9.1 (d10.2.2.2.1.length : Int) 0 d10.2.1 d10.2.2.1 (List.replicate d10.2.1.toNat ((false, ([], [])) : Bool × ((List Int) × (List Int)))) d10.2.2.2.1 d10.2.2.2.2.1 with
       | none => none
       | some (.exit d16) =>
        (z14 fuel 2 d10.1 [] d16.1 (false, ([], []))).bind fun r17 =>
        some (r17.1, r17.2)
       | some (.ret d16) =>
        none
       else none else none else none
      | some (.ret d10) =>
       none
      else none else none else none
    | some (.ret d8) =>
     none
    else none else none else none
   | some (.ret d7) =>
    none
   else none else none else none
   else
   if (0 : Int) <= IntKind.i64.wrap ((IntKind.i64.wrap (d4.1 + d4.2.1)) + 1) then if IntKind.i64.wrap ((IntKind.i64.wrap (d4.1 + d4.2.1)) + 1) <= IntKind.i64.wrap ((IntKind.i64.wrap (d4.1 + d4.2.1)) + 1) then if (IntKind.i64.wrap ((IntKind.i64.wrap (d4.1 + d4.2.1)) + 1)) * 56 <= 281474976710656 then
   (z6f fuel (-1)).bind fun r18 =>
   if (0 : Int) <= IntKind.i64.wrap (d4.1 + d4.2.1) then if IntKind.i64.wrap (d4.1 + d4.2.1) < (List.replicate ((IntKind.i64.wrap ((IntKind.i64.wrap (d4.1 + d4.2.1)) + 1)).toNat) ((false, ([], [])) : Bool × ((List Int) × (List Int)))).length then if (0 : Int) <= IntKind.i64.wrap ((IntKind.i64.wrap (d5.2.1 + d5.2.2.1)) + 2) then if IntKind.i64.wrap ((IntKind.i64.wrap (d5.2.1 + d5.2.2.1)) + 2) <= IntKind.i64.wrap ((IntKind.i64.wrap (d5.2.1 + d5.2.2.1)) + 2) then if (IntKind.i64.wrap ((IntKind.i64.wrap (d5.2.1 + d5.2.2.1)) + 2)) * 56 <= 281474976710656 then
   match z0f k (((List.replicate ((IntKind.i64.wrap ((IntKind.i64.wrap (d4.1 + d4.2.1)) + 1)).toNat) ((false, ([], [])) : Bool × ((List Int) × (List Int)))).set ((IntKind.i64.wrap (d4.1 + d4.2.1)).toNat) r18).length : Int) 0 (List.replicate ((IntKind.i64.wrap ((IntKind.i64.wrap (d5.2.1 + d5.2.2.1)) + 2)).toNat) ((false, ([], [])) : Bool × ((List Int) × (List Int)))) ((List.replicate ((IntKind.i64.wrap ((IntKind.i64.wrap (d4.1 + d4.2.1)) + 1)).toNat) ((false, ([], [])) : Bool × ((List Int) × (List Int)))).set ((IntKind.i64.wrap (d4.1 + d4.2.1)).toNat) r18) with
   | none => none
   | some (.exit d19) =>
    if (0 : Int) <= d5.2.2.1 then if d5.2.2.1 <= d5.2.2.2.1.length then if ((d5.2.2.2.1.take d5.2.2.1.toNat).length + 1) * 24 <= 140737488355328 then
    match z0a k ((d5.2.2.2.1.take d5.2.2.1.toNat).length) (d5.2.2.2.2.1.length : Int) 0 d5.2.1 d5.2.2.1 ((d5.2.2.2.1.take d5.2.2.1.toNat) ++ [d19.1]) d5.2.2.2.2.1 with
    | none => none
    | some (.exit d20) =>
     if (0 : Int) <= d5.1 then if d5.1 < d20.2.2.1.length then if (0 : Int) <= IntKind.i64.wrap (d4.1 + d4.2.1) then if IntKind.i64.wrap (d4.1 + d4.2.1) < (d20.2.2.1.getD d5.1.toNat []).length then if (0 : Int) <= d5.1 then if d5.1 < d20.2.2.1.length then
     match z09 k d5.1 ((d20.2.2.1.getD d5.1.toNat []).length : Int) 0 d20.1 d20.2.1 (((d20.2.2.1.getD d5.1.toNat []).getD ((IntKind.i64.wrap (d4.1 + d4.2.1)).toNat) (false, ([], []))).1) ((((d20.2.2.1.getD d5.1.toNat []).getD ((IntKind.i64.wrap (d4.1 + d4.2.1)).toNat) (false, ([], []))).2).1) ((((d20.2.2.1.getD d5.1.toNat []).getD ((IntKind.i64.wrap (d4.1 + d4.2.1)).toNat) (false, ([], []))).2).2) d20.2.2.1 d20.2.2.2.1 with
     | none => none
     | some (.exit d21) =>
      match z04 k d5.1 (IntKind.i64.wrap (d4.1 + d4.2.1)) (d21.2.2.2.2.2.1.length : Int) 0 d21.1 d21.2.1 d21.2.2.2.2.2.1 d21.2.2.2.2.2.2.1 with
      | none => none
      | some (.exit d22) =>
       if (0 : Int) <= d5.1 then if d5.1 < d22.2.2.2.1.length then
       match z0p k (IntKind.i64.wrap ((IntKind.i64.wrap (d4.1 + d4.2.1)) + 1)) d22.1 d22.2.1 d22.2.2.1 (d22.2.2.2.1.set d5.1.toNat (IntKind.i64.wrap (d4.1 + d4.2.1))) with
       | none => none
       | some (.exit d23) =>
        none
       | some (.ret d23) =>
        if (0 : Int) <= d23.2.2.1 then if d23.2.2.1 < d23.2.2.2.1.length then
        (z1o fuel (d23.2.2.2.1, (d23.2.2.2.2.1, (d23.2.1, d23.2.2.1)))).bind fun r24 =>
        if (0 : Int) <= r24 then if r24 < (d23.2.2.2.1.getD d23.2.2.1.toNat []).length then
        (z30 fuel (((d23.2.2.2.1.getD d23.2.2.1.toNat []).getD r24.toNat (false, ([], []))).1, (((d23.2.2.2.1.getD d23.2.2.1.toNat []).getD r24.toNat (false, ([], []))).2))).bind fun r25 =>
        if decide (r25 < 0) = true then if (0 : Int) <= d23.2.2.1 then if d23.2.2.1 < d23.2.2.2.1.length then if (0 : Int) <= IntKind.i64.wrap (d23.2.1 + d23.2.2.1) then if IntKind.i64.wrap (d23.2.1 + d23.2.2.1) <= (d23.2.2.2.1.getD d23.2.2.1.toNat []).length then if (0 : Int) <= d23.2.1 then if d23.2.1 <= IntKind.i64.wrap (d23.2.1 + d23.2.2.1) then
        (z14 fuel 1 [] (((d23.2.2.2.1.getD d23.2.2.1.toNat []).take (IntKind.i64.wrap (d23.2.1 + d23.2.2.1)).toNat).drop d23.2.1.toNat) [] (false, ([], []))).bind fun r26 =>
        some (r26.1, r26.2)
        else none else none else none else none else none else none
        else
        match z0s k (IntKind.i64.wrap (d4.1 + d4.2.1)) (d23.2.2.2.2.1.length : Int) 0 d23.2.1 d23.2.2.1 d23.2.2.2.2.1 d23.2.2.2.1 with
        | none => none
        | some (.exit d27) =>
         (z2n fuel a0.2.2).bind fun r28 =>
         if (0 : Int) <= IntKind.i64.wrap ((IntKind.i64.wrap (d27.1 + d27.2.1)) + 2) then if IntKind.i64.wrap ((IntKind.i64.wrap (d27.1 + d27.2.1)) + 2) <= IntKind.i64.wrap ((IntKind.i64.wrap (d27.1 + d27.2.1)) + 2) then if (IntKind.i64.wrap ((IntKind.i64.wrap (d27.1 + d27.2.1)) + 2)) * 56 <= 281474976710656 then
         match z0t k (r28.length : Int) 0 (List.replicate ((IntKind.i64.wrap ((IntKind.i64.wrap (d27.1 + d27.2.1)) + 2)).toNat) ((false, ([], [])) : Bool × ((List Int) × (List Int)))) r28 with
         | none => none
         | some (.exit d29) =>
          if (0 : Int) <= d27.2.1 then if d27.2.1 <= d27.2.2.2.1.length then if ((d27.2.2.2.1.take d27.2.1.toNat).length + 1) * 24 <= 140737488355328 then
          match z0q k ((d27.2.2.2.1.take d27.2.1.toNat).length) (d27.2.2.1.length : Int) 0 d27.1 d27.2.1 ((d27.2.2.2.1.take d27.2.1.toNat) ++ [d29.1]) d27.2.2.1 with
          | none => none
          | some (.exit d30) =>
           match z12 k (IntKind.i64.wrap (d30.1 + d30.2.1)) d30.1 d30.2.1 d30.2.2.1 d30.2.2.2.1 with
           | none => none
           | some (.exit d31) =>
            none
           | some (.ret d31) =>
            if (0 : Int) <= d31.2.1 then if d31.2.1 <= d31.2.1 then if d31.2.1 * 56 <= 281474976710656 then
            match z0l k (d31.2.2.2.2.1.length : Int) 0 d31.2.1 d31.2.2.1 (List.replicate d31.2.1.toNat ((false, ([], [])) : Bool × ((List Int) × (List Int)))) d31.2.2.2.2.1 d31.2.2.2.1 with
            | none => none
            | some (.exit d32) =>
             if decide (d31.1 < 0) = true then if (0 : Int) <= d32.2.2.1 then if d32.2.2.1 < d32.2.2.2.2.1.length then if (0 : Int) <= IntKind.i64.wrap (d32.2.1 + d32.2.2.1) then if IntKind.i64.wrap (d32.2.1 + d32.2.2.1) <= (d32.2.2.2.2.1.getD d32.2.2.1.toNat []).length then if (0 : Int) <= d32.2.1 then if d32.2.1 <= IntKind.i64.wrap (d32.2.1 + d32.2.2.1) then if (0 : Int) <= d32.2.2.1 then if d32.2.2.1 < d32.2.2.2.2.1.length then
             (z1o fuel (d32.2.2.2.2.1, (d32.2.2.2.1, (d32.2.1, d32.2.2.1)))).bind fun r33 =>
             if (0 : Int) <= r33 then if r33 < (d32.2.2.2.2.1.getD d32.2.2.1.toNat []).length then
             (z14 fuel 0 d32.1 (((d32.2.2.2.2.1.getD d32.2.2.1.toNat []).take (IntKind.i64.wrap (d32.2.1 + d32.2.2.1)).toNat).drop d32.2.1.toNat) [] (((d32.2.2.2.2.1.getD d32.2.2.1.toNat []).getD r33.toNat (false, ([], []))).1, (((d32.2.2.2.2.1.getD d32.2.2.1.toNat []).getD r33.toNat (false, ([], []))).2))).bind fun r34 =>
             some (r34.1, r34.2)
             else none else none else none else none else none else none else none else none else none else none
             else
             if (0 : Int) <= d32.2.1 then if d32.2.1 <= d32.2.1 then if d32.2.1 * 56 <= 281474976710656 then if decide (d31.1 < d32.2.1) = true then
             (z6f fuel 1).bind fun r35 =>
             if (0 : Int) <= d31.1 then if d31.1 < (List.replicate d32.2.1.toNat ((false, ([], [])) : Bool × ((List Int) × (List Int)))).length then
             match z1l k d31.1 (d32.2.2.2.1.length : Int) 0 d32.2.1 d32.2.2.1 ((List.replicate d32.2.1.toNat ((false, ([], [])) : Bool × ((List Int) × (List Int)))).set d31.1.toNat r35) d32.2.2.2.1 d32.2.2.2.2.1 with
             | none => none
             | some (.exit d36) =>
              (z14 fuel 2 d32.1 [] d36.1 (false, ([], []))).bind fun r37 =>
              some (r37.1, r37.2)
             | some (.ret d36) =>
              none
             else none else none
             else
             match z1l k d31.1 (d32.2.2.2.1.length : Int) 0 d32.2.1 d32.2.2.1 (List.replicate d32.2.1.toNat ((false, ([], [])) : Bool × ((List Int) × (List Int)))) d32.2.2.2.1 d32.2.2.2.2.1 with
             | none => none
             | some (.exit d38) =>
              (z14 fuel 2 d32.1 [] d38.1 (false, ([], []))).bind fun r39 =>
              some (r39.1, r39.2)
             | some (.ret d38) =>
              none
             else none else none else none
            | some (.ret d32) =>
             none
            else none else none else none
          | some (.ret d30) =>
           none
          else none else none else none
         | some (.ret d29) =>
          none
         else none else none else none
        | some (.ret d27) =>
         none
        else none else none else none else none else none else none
      | some (.ret d22) =>
       none
     | some (.ret d21) =>
      none
     else none else none else none else none else none else none
    | some (.ret d20) =>
     none
    else none else none else none
   | some (.ret d19) =>
    none
   else none else none else none else none else none else none else none else none
  | some (.ret d5) =>
   none
 | some (.ret d4) =>
  none
def y16 (k : Nat) : Vm.Spec := { ps := [.pair (.slice (.slice .str)) (.pair (.slice .str) (.slice .str))], rs := [.imm (.pair (.int .i64) (.pair (.slice .str) (.pair (.slice .str) (.pair (.slice .str) .str)))), .imm (.int .i64)], f := fun x => zc5 k x }
noncomputable def y1x : Vm.Spec := y16 fuel
theorem y2b : Vm.Spec.holds Tryz.prog 29 y1x := z0v (E := yc6) (L := y9y) (fn := Tryz.f29) (Z := y16) (z1h ok) (z0n (by exact ⟨⟨by kernel_rfl, z6d⟩, ⟨by kernel_rfl, y29⟩, ⟨by kernel_rfl, zf4⟩, ⟨by kernel_rfl, zf3⟩, ⟨by kernel_rfl, z8a⟩, ⟨by kernel_rfl, z4n⟩, ⟨by kernel_rfl, z45⟩, ⟨by kernel_rfl, zy7⟩, ⟨by kernel_rfl, y2a⟩, ⟨by kernel_rfl, y1m⟩, ⟨by kernel_rfl, z8o⟩, ⟨by kernel_rfl, z7h⟩, ⟨by kernel_rfl, zj2⟩, trivial⟩)) z0w (zb8 (by exact ⟨by kernel_rfl, by kernel_rfl, by kernel_rfl, by kernel_rfl, by kernel_rfl, by kernel_rfl, by kernel_rfl, by kernel_rfl, by kernel_rfl, by kernel_rfl, by kernel_rfl, by kernel_rfl, trivial⟩)) (z4b (by exact ⟨(z26 [[29]] (by exact ⟨z0i (ls := [(4, z5z)]) rfl rfl ⟨by kernel_rfl, fun _ => rfl, fun _ _ => by kernel_rfl, z0j (by kernel_rfl)⟩,  trivial⟩) rfl), (z26 [[29]] (by exact ⟨z0i (ls := [(3, z3w), (19, z3j), (23, z3l)]) rfl rfl ⟨by kernel_rfl, fun _ => rfl, fun _ _ => by kernel_rfl, by kernel_rfl, fun _ => rfl, fun _ _ => by kernel_rfl, by kernel_rfl, fun _ => rfl, fun _ _ => by kernel_rfl, z0j (by kernel_rfl)⟩,  trivial⟩) rfl), (z26 [[29], [60, 29]] (by exact ⟨z0i (ls := [(2, z4q), (8, z4s), (13, z4l)]) rfl rfl ⟨by kernel_rfl, fun _ => rfl, fun _ _ => by kernel_rfl, by kernel_rfl, fun _ => rfl, fun _ _ => by kernel_rfl, by kernel_rfl, fun _ => rfl, fun _ _ => by kernel_rfl, z0j (by kernel_rfl)⟩, z0i (ls := [(2, z27), (8, z29), (13, z20)]) rfl rfl ⟨by kernel_rfl, fun _ => rfl, fun _ _ => by kernel_rfl, by kernel_rfl, fun _ => rfl, fun _ _ => by kernel_rfl, by kernel_rfl, fun _ => rfl, fun _ _ => by kernel_rfl, z0j (by kernel_rfl)⟩,  trivial⟩) rfl), (z26 [[29], [60, 29]] (by exact ⟨z0i (ls := [(1, z4y), (2, z50)]) rfl rfl ⟨by kernel_rfl, fun _ => rfl, fun _ _ => by kernel_rfl, by kernel_rfl, fun _ => rfl, fun _ _ => by kernel_rfl, z0j (by kernel_rfl)⟩, z0i (ls := [(1, z2c), (2, z2e)]) rfl rfl ⟨by kernel_rfl, fun _ => rfl, fun _ _ => by kernel_rfl, by kernel_rfl, fun _ => rfl, fun _ _ => by kernel_rfl, z0j (by kernel_rfl)⟩,  trivial⟩) rfl), (z26 [[29]] (by exact ⟨z0i (ls := [(3, z3y)]) rfl rfl ⟨by kernel_rfl, fun _ => rfl, fun _ _ => by kernel_rfl, z0j (by kernel_rfl)⟩,  trivial⟩) rfl), (z26 [[63, 29], [60, 29], [63, 60, 29]] (by exact ⟨z0i (ls := [(2, z2j), (7, z2l), (12, z2h)]) rfl rfl ⟨by kernel_rfl, fun _ => rfl, fun _ _ => by kernel_rfl, by kernel_rfl, fun _ => rfl, fun _ _ => by kernel_rfl, by kernel_rfl, fun _ => rfl, fun _ _ => by kernel_rfl, z0j (by kernel_rfl)⟩, z0i (ls := [(2, z22), (7, z24), (12, z1y)]) rfl rfl ⟨by kernel_rfl, fun _ => rfl, fun _ _ => by kernel_rfl, by kernel_rfl, fun _ => rfl, fun _ _ => by kernel_rfl, by kernel_rfl, fun _ => rfl, fun _ _ => by kernel_rfl, z0j (by kernel_rfl)⟩, z0i (ls := [(2, z19), (7, z1b), (12, z17)]) rfl rfl ⟨by kernel_rfl, fun _ => rfl, fun _ _ => by kernel_rfl, by kernel_rfl, fun _ => rfl, fun _ _ => by kernel_rfl, by kernel_rfl, fun _ => rfl, fun _ _ => by kernel_rfl, z0j (by kernel_rfl)⟩,  trivial⟩) rfl),  trivial⟩)) (by kernel_rfl) (by kernel_rfl) (z0i (ls := [(16, zr2)]) rfl rfl ⟨by kernel_rfl, fun _ => rfl, fun _ _ => by kernel_rfl, z0j (by kernel_rfl)⟩) fun k x => by kernel_rfl
noncomputable def w75 : Env := { te := te, spec := [(69, zm7), (70, zo2)], body := [] }
def w34 : z1w := []
def zf5 (k : Nat) (a0 : Bool × ((List Int) × (List Int))) : Option (ByteArray × Int) :=
 (z88 fuel a0).bind fun r1 =>
 if (r1 != 0) = true then
 some ((⟨#[]⟩ : ByteArray), r1)
 else
 (z7s fuel a0).bind fun r2 =>
 some (r2, 0)
def ye0 (k : Nat) : Vm.Spec := { ps := [qT], rs := [.imm .str, .imm (.int .i64)], f := fun x => zf5 k x }
noncomputable def y7v : Vm.Spec := ye0 fuel
theorem y19 : Vm.Spec.holds Tryz.prog 35 y7v := z0v (E := w75) (L := w34) (fn := Tryz.f35) (Z := ye0) (z1h ok) (z0n (by exact ⟨⟨by kernel_rfl, z6z⟩, ⟨by kernel_rfl, z8b⟩, trivial⟩)) z0w (z07 rfl) (z01 rfl) (by kernel_rfl) (by kernel_rfl) (z0o rfl) fun k x => by kernel_rfl
noncomputable def yc3 : Env := { te := te, spec := [(8, z6a), (23, yd5), (24, y0h), (26, zf0), (27, y1t), (28, zo3), (29, y1x), (30, y0g), (31, y0f), (33, zo1), (34, zh2), (35, y7v), (42, z7m), (43, z7n)], body := [(22, Tryz.f22), (25, Tryz.f25), (32, Tryz.f32)], rows := true }
def zj6 : Ann := { slots := [(3, .one (.grd 64 qT)), (6, .one (.val (.slice (.slice .str)))), (7, .one (.val (.int .i64))), (8, .one (.val (.int .i64)))], objs := [(64, .mat qT)] }
def z72 : Ann := { slots := [(3, .one (.grd 64 qT))], objs := [(64, .mat qT)] }
def z7j : List (Nat × OSh) := [(4012, .box [.val .bool, .val (.slice (.int .u32)), .val (.slice (.int .u32))]), (64, .mat qT)]
def zd6 : Ann := { slots := [(3, .one (.fix (.pbox 4012 0))), (19, .one (.row 64 qT)), (20, .one (.val (.int .i64))), (21, .one (.val (.int .i64)))], objs := z7j }
def z5x : Ann := { slots := [(3, .one (.fix (.pbox 4012 0)))], objs := z7j }
def zd5 : Ann := { slots := [(3, .one (.fix (.pbox 4012 0))), (13, .one (.grd 64 qT)), (14, .one (.val (.int .i64))), (15, .one (.val (.int .i64)))], objs := z7j }
def z5v : Ann := { slots := [(3, .one (.fix (.pbox 4012 0)))], objs := z7j }
def z7k : List (Nat × OSh) := [(64, .mat qT), (28, .box [.val .bool, .val (.slice (.int .u32)), .val (.slice (.int .u32))])]
def y5g : Ann := { slots := [(6, .one (.grd 64 qT)), (7, .one (.fix (.pbox 28 0))), (8, .one (.val (.int .i64))), (38, .one (.val (.int .i64))), (39, .one (.val (.int .i64)))], objs := z7k }
def zq6 : Ann := { slots := [(6, .one (.grd 64 qT)), (7, .one (.fix (.pbox 28 0)))], objs := z7k }
def y6s : Ann := { slots := [(6, .one (.grd 64 qT)), (7, .one (.fix (.pbox 28 0))), (30, .one (.val (.int .i64))), (31, .one (.val (.int .i64)))], objs := z7k }
def zu5 : Ann := { slots := [(6, .one (.grd 64 qT)), (7, .one (.fix (.pbox 28 0)))], objs := z7k }
def y74 : List (Nat × OSh) := [(56, .box [.val .bool, .val (.slice (.int .u32)), .val (.slice (.int .u32))]), (80, .buf qT)]
def z9m : Ann := { slots := [(1, .one (.fix (.pbox 56 0))), (5, .one (.own 80 qT)), (8, .one (.val (.slice .str))), (9, .one (.val (.int .i64))), (10, .one (.val (.int .i64)))], objs := y74 }
def y75 : List (Nat × OSh) := [(80, .buf qT), (56, .box [.val .bool, .val (.slice (.int .u32)), .val (.slice (.int .u32))])]
def z5j : Ann := { slots := [(5, .one (.own 80 qT))], objs := y75 }
def z2b : Nat -> List (List ByteArray) -> Int -> Int -> List (List (Bool × ((List Int) × (List Int)))) -> Option (LR z72 a0)
 | 0, _, _, _, _ => none
 | m + 1, s6, s7, s8, b64 =>
  if decide (s8 < s7) = true then if (0 : Int) <= s8 then if s8 < s6.length then
  (z2n fuel (s6.getD s8.toNat [])).bind fun r1 =>
  if (b64.length + 1) * 24 <= 140737488355328 then
  z2b m s6 s7 (IntKind.i64.wrap (s8 + 1)) (b64 ++ [r1])
  else none else none else none
  else
  some (.exit (b64, ()))
def z71 : LSpec := { h := zj6, x := z72, r := a0, xid := 0, rt := false, pins := [], f := fun k d => z2b k d.1 d.2.1 d.2.2.1 d.2.2.2.1 }
def z1d : Nat -> Nat -> Int -> Int -> Bool -> List Int -> List Int -> List (List (Bool × ((List Int) × (List Int)))) -> Option (LR z5x a0)
 | 0, _, _, _, _, _, _, _ => none
 | m + 1, s19, s20, s21, b4012_0, b4012_1, b4012_2, b64 =>
  if decide (s21 < s20) = true then if (0 : Int) <= s21 then if s21 < (b64.getD s19 []).length then
  (z44 fuel (((b64.getD s19 []).getD s21.toNat (false, ([], []))).1, (((b64.getD s19 []).getD s21.toNat (false, ([], []))).2)) (b4012_0, (b4012_1, b4012_2))).bind fun r1 =>
  if decide (r1 < 0) = true then
  z1d m s19 s20 (IntKind.i64.wrap (s21 + 1)) (((b64.getD s19 []).getD s21.toNat (false, ([], []))).1) ((((b64.getD s19 []).getD s21.toNat (false, ([], []))).2).1) ((((b64.getD s19 []).getD s21.toNat (false, ([], []))).2).2) b64
  else
  z1d m s19 s20 (IntKind.i64.wrap (s21 + 1)) b4012_0 b4012_1 b4012_2 b64
  else none else none
  else
  some (.exit (b4012_0, b4012_1, b4012_2, b64, ()))
def z5w : LSpec := { h := zd6, x := z5x, r := a0, xid := 2, rt := false, pins := [4012, 64], f := fun k d => z1d k d.1 d.2.1 d.2.2.1 d.2.2.2.1 d.2.2.2.2.1 d.2.2.2.2.2.1 d.2.2.2.2.2.2.1 }
def z1s : Nat -> Int -> Int -> Bool -> List Int -> List Int -> List (List (Bool × ((List Int) × (List Int)))) -> Option (LR z5v a0)
 | 0, _, _, _, _, _, _ => none
 | m + 1, s14, s15, b4012_0, b4012_1, b4012_2, b64 =>
  if decide (s15 < s14) = true then if (0 : Int) <= s15 then if s15 < b64.length then
  match z1d m s15.toNat ((b64.getD s15.toNat []).length : Int) 0 b4012_0 b4012_1 b4012_2 b64 with
  | none => none
  | some (.exit d1) =>
   z1s m s14 (IntKind.i64.wrap (s15 + 1)) d1.1 d1.2.1 d1.2.2.1 d1.2.2.2.1
  | some (.ret d1) =>
   none
  else none else none
  else
  some (.exit (b4012_0, b4012_1, b4012_2, b64, ()))
def z5u : LSpec := { h := zd5, x := z5v, r := a0, xid := 0, rt := false, pins := [4012, 64], f := fun k d => z1s k d.1 d.2.1 d.2.2.1 d.2.2.2.1 d.2.2.2.2.1 d.2.2.2.2.2.1 }
def z4o : Nat -> Int -> Int -> Int -> List (List (Bool × ((List Int) × (List Int)))) -> Bool -> List Int -> List Int -> Option (LR zq6 a0)
 | 0, _, _, _, _, _, _, _ => none
 | m + 1, s8, s38, s39, b64, b28_0, b28_1, b28_2 =>
  if decide (s39 < s38) = true then if (0 : Int) <= s8 then if s8 < b64.length then if (0 : Int) <= s8 then if s8 < b64.length then if (0 : Int) <= s39 then if s39 < (b64.getD s8.toNat []).length then
  (z5g fuel (((b64.getD s8.toNat []).getD s39.toNat (false, ([], []))).1, (((b64.getD s8.toNat []).getD s39.toNat (false, ([], []))).2)) (b28_0, (b28_1, b28_2))).bind fun r1 =>
  if (0 : Int) <= s39 then if s39 < (b64.getD s8.toNat []).length then
  z4o m s8 s38 (IntKind.i64.wrap (s39 + 1)) (b64.set s8.toNat ((b64.getD s8.toNat []).set s39.toNat r1)) b28_0 b28_1 b28_2
  else none else none else none else none else none else none else none else none
  else
  some (.exit (b64, b28_0, b28_1, b28_2, ()))
def zq5 : LSpec := { h := y5g, x := zq6, r := a0, xid := 2, rt := false, pins := [64, 28], f := fun k d => z4o k d.1 d.2.1 d.2.2.1 d.2.2.2.1 d.2.2.2.2.1 d.2.2.2.2.2.1 d.2.2.2.2.2.2.1 }
def z5d : Nat -> Int -> Int -> List (List (Bool × ((List Int) × (List Int)))) -> Bool -> List Int -> List Int -> Option (LR zu5 a0)
 | 0, _, _, _, _, _, _ => none
 | m + 1, s30, s31, b64, b28_0, b28_1, b28_2 =>
  if decide (s31 < s30) = true then if (0 : Int) <= s31 then if s31 < b64.length then
  match z4o m s31 ((b64.getD s31.toNat []).length : Int) 0 b64 b28_0 b28_1 b28_2 with
  | none => none
  | some (.exit d1) =>
   z5d m s30 (IntKind.i64.wrap (s31 + 1)) d1.1 d1.2.1 d1.2.2.1 d1.2.2.2.1
  | some (.ret d1) =>
   none
  else none else none
  else
  some (.exit (b64, b28_0, b28_1, b28_2, ()))
def zu4 : LSpec := { h := y6s, x := zu5, r := a0, xid := 0, rt := false, pins := [64, 28], f := fun k d => z5d k d.1 d.2.1 d.2.2.1 d.2.2.2.1 d.2.2.2.2.1 d.2.2.2.2.2.1 }
def z0y : Nat -> List ByteArray -> Int -> Int -> Bool -> List Int -> List Int -> List (Bool × ((List Int) × (List Int))) -> Option (LR z5j a0)
 | 0, _, _, _, _, _, _, _ => none
 | m + 1, s8, s9, s10, b56_0, b56_1, b56_2, b80 =>
  if decide (s10 < s9) = true then if (0 : Int) <= s10 then if s10 < s8.length then
  (zc4 fuel (s8.getD s10.toNat ByteArray.empty)).bind fun r1 =>
  (z31 fuel r1 (b56_0, (b56_1, b56_2))).bind fun r2 =>
  if (b80.length + 1) * 56 <= 140737488355328 then
  z0y m s8 s9 (IntKind.i64.wrap (s10 + 1)) b56_0 b56_1 b56_2 (b80 ++ [r2])
  else none else none else none
  else
  some (.exit (b80, b56_0, b56_1, b56_2, ()))
def z5i : LSpec := { h := z9m, x := z5j, r := a0, xid := 0, rt := false, pins := [56], f := fun k d => z0y k d.1 d.2.1 d.2.2.1 d.2.2.2.1 d.2.2.2.2.1 d.2.2.2.2.2.1 d.2.2.2.2.2.2.1 }
def y9v : z1w := [([22, 7], [(3, z71)]), ([25, 7], [(3, z5u), (6, z5w)]), ([7], [(8, zu4), (11, zq5)]), ([32, 7], [(3, z5i)])]
def z5f (k : Nat) (a0 : List (List ByteArray)) : Option ((ByteArray × ((List ByteArray) × (List ByteArray))) × Int) :=
 (z2g fuel a0).bind fun r1 =>
 if (r1 != 0) = true then
 some ((ByteArray.empty, ([], [])), r1)
 else
 match z2b k a0 (a0.length : Int) 0 [] with
 | none => none
 | some (.exit d2) =>
  (z6f fuel 1).bind fun r3 =>
  if (0 : Int) < d2.1.length then if (0 : Int) < (d2.1.getD 0 []).length then
  match z1s k (d2.1.length : Int) 0 (((d2.1.getD 0 []).getD 0 (false, ([], []))).1) ((((d2.1.getD 0 []).getD 0 (false, ([], []))).2).1) ((((d2.1.getD 0 []).getD 0 (false, ([], []))).2).2) d2.1 with
  | none => none
  | some (.exit d4) =>
   (z47 fuel r3 (d4.1, (d4.2.1, d4.2.2.1))).bind fun r5 =>
   match z5d k (d4.2.2.2.1.length : Int) 0 d4.2.2.2.1 r5.1 r5.2.1 r5.2.2 with
   | none => none
   | some (.exit d6) =>
    (z6e fuel d6.1).bind fun r7 =>
    if (r7.2 != 0) = true then
    some ((ByteArray.empty, ([], [])), r7.2)
    else
    if (0 : Int) < a0.length then
    (z1v fuel [(⟨#[49]⟩ : ByteArray)] (a0.length : Int)).bind fun r8 =>
    (z1v fuel [(⟨#[49]⟩ : ByteArray)] ((a0.getD 0 []).length : Int)).bind fun r9 =>
    (zc5 fuel (r7.1, (r8, r9))).bind fun r10 =>
    if (r10.2 != 0) = true then
    some ((ByteArray.empty, ([], [])), r10.2)
    else
    (z6f fuel 1).bind fun r11 =>
    (zc4 fuel r10.1.2.2.2.2).bind fun r12 =>
    (z5h fuel r11 r12).bind fun r13 =>
    match z0y k r10.1.2.2.1 (r10.1.2.2.1.length : Int) 0 r13.1 r13.2.1 r13.2.2 [] with
    | none => none
    | some (.exit d14) =>
     (z3d fuel d14.1).bind fun r15 =>
     if (r15.2 != 0) = true then
     some ((ByteArray.empty, ([], [])), r15.2)
     else
     match z0y k r10.1.2.1 (r10.1.2.1.length : Int) 0 d14.2.1 d14.2.2.1 d14.2.2.2.1 [] with
     | none => none
     | some (.exit d16) =>
      (z3d fuel d16.1).bind fun r17 =>
      if (r17.2 != 0) = true then
      some ((ByteArray.empty, ([], [])), r17.2)
      else
      (z47 fuel (d16.2.1, (d16.2.2.1, d16.2.2.2.1)) (d6.2.1, (d6.2.2.1, d6.2.2.2.1))).bind fun r18 =>
      (zf5 fuel r18).bind fun r19 =>
      if (r19.2 != 0) = true then
      some ((ByteArray.empty, ([], [])), r19.2)
      else
      some ((r19.1, (r15.1, r17.1)), 0)
     | some (.ret d16) =>
      none
    | some (.ret d14) =>
     none
    else none
   | some (.ret d6) =>
    none
  | some (.ret d4) =>
   none
  else none else none
 | some (.ret d2) =>
  none
def y13 (k : Nat) : Vm.Spec := { ps := [.slice (.slice .str)], rs := [.imm (.pair .str (.pair (.slice .str) (.slice .str))), .imm (.int .i64)], f := fun x => z5f k x }
noncomputable def zn8 : Vm.Spec := y13 fuel
theorem zh9 : Vm.Spec.holds Tryz.prog 7 zn8 := z0v (E := yc3) (L := y9v) (fn := Tryz.f7) (Z := y13) (z1h ok) (z0n (by exact ⟨⟨by kernel_rfl, z4j⟩, ⟨by kernel_rfl, y29⟩, ⟨by kernel_rfl, zf4⟩, ⟨by kernel_rfl, z6g⟩, ⟨by kernel_rfl, y28⟩, ⟨by kernel_rfl, zw4⟩, ⟨by kernel_rfl, y2b⟩, ⟨by kernel_rfl, zf3⟩, ⟨by kernel_rfl, z76⟩, ⟨by kernel_rfl, z8a⟩, ⟨by kernel_rfl, z7g⟩, ⟨by kernel_rfl, y19⟩, ⟨by kernel_rfl, z4n⟩, ⟨by kernel_rfl, z45⟩, trivial⟩)) z0w (zb8 (by exact ⟨by kernel_rfl, by kernel_rfl, by kernel_rfl, by kernel_rfl, by kernel_rfl, by kernel_rfl, trivial⟩)) (z4b (by exact ⟨(z26 [[7]] (by exact ⟨z0i (ls := [(3, z71)]) rfl rfl ⟨by kernel_rfl, fun _ => rfl, fun _ _ => by kernel_rfl, z0j (by kernel_rfl)⟩,  trivial⟩) rfl), (z26 [[7]] (by exact ⟨z0i (ls := [(3, z5u), (6, z5w)]) rfl rfl ⟨by kernel_rfl, fun _ => rfl, fun _ _ => by kernel_rfl, by kernel_rfl, fun _ => rfl, fun _ _ => by kernel_rfl, z0j (by kernel_rfl)⟩,  trivial⟩) rfl), (z26 [[7]] (by exact ⟨z0i (ls := [(3, z5i)]) rfl rfl ⟨by kernel_rfl, fun _ => rfl, fun _ _ => by kernel_rfl, z0j (by kernel_rfl)⟩,  trivial⟩) rfl),  trivial⟩)) (by kernel_rfl) (by kernel_rfl) (z0i (ls := [(8, zu4), (11, zq5)]) rfl rfl ⟨by kernel_rfl, fun _ => rfl, fun _ _ => by kernel_rfl, by kernel_rfl, fun _ => rfl, fun _ _ => by kernel_rfl, z0j (by kernel_rfl)⟩) fun k x => by kernel_rfl
noncomputable def w8n : Env := { te := te, spec := [(26, zf0), (31, y0f), (35, y7v), (44, zg7), (69, zm7)], body := [] }
def y2t : List (Nat × OSh) := [(20, .box [.val .bool, .val (.slice (.int .u32)), .val (.slice (.int .u32))])]
def w0y : Ann := { slots := [(5, .one (.fix (.pbox 20 0))), (16, .one (.val (.slice .str))), (17, .one (.val (.int .i64))), (18, .one (.val (.int .i64)))], objs := y2t }
def y9j : Ann := { slots := [(5, .one (.fix (.pbox 20 0)))], objs := y2t }
def y9i : Ann := { slots := [(2, .one (.val .str)), (3, .one (.val (.int .i64)))], objs := y2t }
def z7y : Nat -> List ByteArray -> Int -> Int -> Bool -> List Int -> List Int -> Option (LR y9j y9i)
 | 0, _, _, _, _, _, _ => none
 | m + 1, s16, s17, s18, b20_0, b20_1, b20_2 =>
  if decide (s18 < s17) = true then if (0 : Int) <= s18 then if s18 < s16.length then
  (zc4 fuel (s16.getD s18.toNat ByteArray.empty)).bind fun r1 =>
  (z5g fuel (b20_0, (b20_1, b20_2)) r1).bind fun r2 =>
  (z88 fuel r2).bind fun r3 =>
  if (r3 != 0) = true then
  some (.ret ((⟨#[]⟩ : ByteArray), 2, r2.1, r2.2.1, r2.2.2, ()))
  else
  z7y m s16 s17 (IntKind.i64.wrap (s18 + 1)) r2.1 r2.2.1 r2.2.2
  else none else none
  else
  some (.exit (b20_0, b20_1, b20_2, ()))
def y9h : LSpec := { h := w0y, x := y9j, r := y9i, xid := 0, rt := true, pins := [20], f := fun k d => z7y k d.1 d.2.1 d.2.2.1 d.2.2.2.1 d.2.2.2.2.1 d.2.2.2.2.2.1 }
def w77 : z1w := [([88], [(8, y9h)])]
def zp4 (k : Nat) (a0 : List ByteArray) : Option (ByteArray × Int) :=
 if decide ((a0.length : Int) > 256) = true then
 some ((⟨#[]⟩ : ByteArray), 2)
 else
 (z3g fuel a0).bind fun r1 =>
 if (r1 != 0) = true then
 some ((⟨#[]⟩ : ByteArray), r1)
 else
 match z7y k a0 (a0.length : Int) 0 false [] [] with
 | none => none
 | some (.exit d2) =>
  (zf5 fuel (d2.1, (d2.2.1, d2.2.2.1))).bind fun r3 =>
  some (r3.1, r3.2)
 | some (.ret d2) =>
  some (d2.1, d2.2.1)
def yo4 (k : Nat) : Vm.Spec := { ps := [.slice .str], rs := [.imm .str, .imm (.int .i64)], f := fun x => zp4 k x }
noncomputable def w02 : Vm.Spec := yo4 fuel
theorem yf8 : Vm.Spec.holds Tryz.prog 88 w02 := z0v (E := w8n) (L := w77) (fn := Tryz.f88) (Z := yo4) (z1h ok) (z0n (by exact ⟨⟨by kernel_rfl, z6g⟩, ⟨by kernel_rfl, z76⟩, ⟨by kernel_rfl, y19⟩, ⟨by kernel_rfl, z92⟩, ⟨by kernel_rfl, z6z⟩, trivial⟩)) z0w (z07 rfl) (z01 rfl) (by kernel_rfl) (by kernel_rfl) (z0i (ls := [(8, y9h)]) rfl rfl ⟨by kernel_rfl, fun _ => rfl, fun _ _ => by kernel_rfl, z0j (by kernel_rfl)⟩) fun k x => by kernel_rfl
noncomputable def w74 : Env := { te := te, spec := [(31, y0f), (76, zh3), (88, w02)], body := [] }
def yv1 : Ann := { slots := [(15, .one (.val (.slice .str))), (16, .one (.val (.int .i64))), (17, .one (.val (.int .i64)))], objs := [] }
def y70 : Ann := { slots := [(2, .one (.val (.int .i64)))], objs := [] }
def z6j : Nat -> List ByteArray -> Int -> Int -> Option (LR a0 y70)
 | 0, _, _, _ => none
 | m + 1, s15, s16, s17 =>
  if decide (s17 < s16) = true then if (0 : Int) <= s17 then if s17 < s15.length then
  (zc4 fuel (s15.getD s17.toNat ByteArray.empty)).bind fun r1 =>
  (z30 fuel r1).bind fun r2 =>
  if decide (r2 < 0) = true then
  some (.ret (4, ()))
  else
  z6j m s15 s16 (IntKind.i64.wrap (s17 + 1))
  else none else none
  else
  some (.exit ())
def y6z : LSpec := { h := yv1, x := a0, r := y70, xid := 0, rt := true, pins := [], f := fun k d => z6j k d.1 d.2.1 d.2.2.1 }
def w33 : z1w := [([72], [(5, y6z)])]
def z89 (k : Nat) (a0 : List ByteArray) : Option (Int) :=
 (zp4 fuel a0).bind fun r1 =>
 if (r1.2 != 0) = true then
 some r1.2
 else
 match z6j k a0 (a0.length : Int) 0 with
 | none => none
 | some (.exit d2) =>
  if (!(r1.1.toList == (⟨#[49]⟩ : ByteArray).toList)) = true then
  some 3
  else
  some 0
 | some (.ret d2) =>
  some d2.1
def yd9 (k : Nat) : Vm.Spec := { ps := [.slice .str], rs := [.imm (.int .i64)], f := fun x => z89 k x }
noncomputable def yo2 : Vm.Spec := yd9 fuel
theorem ya4 : Vm.Spec.holds Tryz.prog 72 yo2 := z0v (E := w74) (L := w33) (fn := Tryz.f72) (Z := yd9) (z1h ok) (z0n (by exact ⟨⟨by kernel_rfl, z76⟩, ⟨by kernel_rfl, z7h⟩, ⟨by kernel_rfl, yf8⟩, trivial⟩)) z0w (z07 rfl) (z01 rfl) (by kernel_rfl) (by kernel_rfl) (z0i (ls := [(5, y6z)]) rfl rfl ⟨by kernel_rfl, fun _ => rfl, fun _ _ => by kernel_rfl, z0j (by kernel_rfl)⟩) fun k x => by kernel_rfl
noncomputable def y3i : Env := { te := te, spec := [(8, z6a), (72, yo2)], body := [] }
def y1r : z1w := []
def z1x (k : Nat) (a0 : List (List ByteArray)) (a1 : List ByteArray) (a2 : List ByteArray) : Option (Int) :=
 (z2g fuel a0).bind fun r1 =>
 if (r1 != 0) = true then
 some r1
 else
 if ((a1.length : Int) != (a0.length : Int)) = false then if (0 : Int) < a0.length then if ((a2.length : Int) != ((a0.getD 0 []).length : Int)) = true then
 some 3
 else
 (z89 fuel a1).bind fun r2 =>
 if (r2 != 0) = true then
 some r2
 else
 (z89 fuel a2).bind fun r3 =>
 some r3
 else none
 else
 some 3
def zh5 (k : Nat) : Vm.Spec := { ps := [.slice (.slice .str), .slice .str, .slice .str], rs := [.imm (.int .i64)], f := fun x => z1x k x.1 x.2.1 x.2.2 }
noncomputable def z8y : Vm.Spec := zh5 fuel
theorem z8n : Vm.Spec.holds Tryz.prog 38 z8y := z0v (E := y3i) (L := y1r) (fn := Tryz.f38) (Z := zh5) (z1h ok) (z0n (by exact ⟨⟨by kernel_rfl, z4j⟩, ⟨by kernel_rfl, ya4⟩, trivial⟩)) z0w (z07 rfl) (z01 rfl) (by kernel_rfl) (by kernel_rfl) (z0o rfl) fun k x => by kernel_rfl
noncomputable def y9s : Env := { te := te, spec := [(26, zf0), (33, zo1)], body := [] }
def zr8 : List (Nat × OSh) := [(20, .box [.val .bool, .val (.slice (.int .u32)), .val (.slice (.int .u32))])]
def y5h : Ann := { slots := [(1, .one (.val (.slice qT))), (5, .one (.fix (.pbox 20 0))), (8, .one (.val (.slice qT))), (9, .one (.val (.int .i64))), (10, .one (.val (.int .i64)))], objs := zr8 }
def zq8 : Ann := { slots := [(5, .one (.fix (.pbox 20 0)))], objs := zr8 }
def z4p : Nat -> List (Bool × ((List Int) × (List Int))) -> List (Bool × ((List Int) × (List Int))) -> Int -> Int -> Bool -> List Int -> List Int -> Option (LR zq8 a0)
 | 0, _, _, _, _, _, _, _ => none
 | m + 1, s1, s8, s9, s10, b20_0, b20_1, b20_2 =>
  if decide (s10 < s9) = true then if (0 : Int) <= s10 then if s10 < s8.length then if (0 : Int) <= s10 then if s10 < s1.length then
  (z31 fuel ((s8.getD s10.toNat (false, ([], []))).1, ((s8.getD s10.toNat (false, ([], []))).2)) ((s1.getD s10.toNat (false, ([], []))).1, ((s1.getD s10.toNat (false, ([], []))).2))).bind fun r1 =>
  (z5g fuel (b20_0, (b20_1, b20_2)) r1).bind fun r2 =>
  z4p m s1 s8 s9 (IntKind.i64.wrap (s10 + 1)) r2.1 r2.2.1 r2.2.2
  else none else none else none else none
  else
  some (.exit (b20_0, b20_1, b20_2, ()))
def zq7 : LSpec := { h := y5h, x := zq8, r := a0, xid := 0, rt := false, pins := [20], f := fun k d => z4p k d.1 d.2.1 d.2.2.1 d.2.2.2.1 d.2.2.2.2.1 d.2.2.2.2.2.1 d.2.2.2.2.2.2.1 }
def y7s : z1w := [([73], [(3, zq7)])]
def z6y (k : Nat) (a0 : List (Bool × ((List Int) × (List Int)))) (a1 : List (Bool × ((List Int) × (List Int)))) : Option (Bool × ((List Int) × (List Int))) :=
 match z4p k a1 a0 (a0.length : Int) 0 false [] [] with
 | none => none
 | some (.exit d1) =>
  some (d1.1, (d1.2.1, d1.2.2.1))
 | some (.ret d1) =>
  none
def zx8 (k : Nat) : Vm.Spec := { ps := [.slice qT, .slice qT], rs := [.imm qT], f := fun x => z6y k x.1 x.2 }
noncomputable def zi8 : Vm.Spec := zx8 fuel
theorem ze3 : Vm.Spec.holds Tryz.prog 73 zi8 := z0v (E := y9s) (L := y7s) (fn := Tryz.f73) (Z := zx8) (z1h ok) (z0n (by exact ⟨⟨by kernel_rfl, z6g⟩, ⟨by kernel_rfl, z8a⟩, trivial⟩)) z0w (z07 rfl) (z01 rfl) (by kernel_rfl) (by kernel_rfl) (z0i (ls := [(3, zq7)]) rfl rfl ⟨by kernel_rfl, fun _ => rfl, fun _ _ => by kernel_rfl, z0j (by kernel_rfl)⟩) fun k x => by kernel_rfl
noncomputable def yk7 : Env := { te := te, spec := [(22, ze9), (34, zh2), (36, zg5), (37, zg6), (42, z7m), (71, z6b), (73, zi8)], body := [] }
def y6t : Ann := { slots := [(8, .one (.own 184 qT)), (9, .one (.val (.slice qT))), (35, .one (.own 140 (.slice qT))), (36, .one (.val (.int .i64))), (37, .one (.val (.int .i64)))], objs := [(184, .buf qT), (140, .buf (.slice qT))] }
def zu7 : Ann := { slots := [(8, .one (.own 184 qT))], objs := [(184, .buf qT), (140, .buf (.slice qT))] }
def z48 : Nat -> List (Bool × ((List Int) × (List Int))) -> Int -> Int -> List (Bool × ((List Int) × (List Int))) -> List (List (Bool × ((List Int) × (List Int)))) -> Option (LR zu7 a0)
 | 0, _, _, _, _, _ => none
 | m + 1, s9, s36, s37, b184, b140 =>
  if decide (s37 < s36) = true then if (0 : Int) <= s37 then if s37 < b140.length then
  (z6y fuel (b140.getD s37.toNat []) s9).bind fun r1 =>
  if (b184.length + 1) * 56 <= 140737488355328 then
  z48 m s9 s36 (IntKind.i64.wrap (s37 + 1)) (b184 ++ [r1]) b140
  else none else none else none
  else
  some (.exit (b184, b140, ()))
def zu6 : LSpec := { h := y6t, x := zu7, r := a0, xid := 0, rt := false, pins := [140], f := fun k d => z48 k d.1 d.2.1 d.2.2.1 d.2.2.2.1 d.2.2.2.2.1 }
def yc7 : z1w := [([39], [(12, zu6)])]
def z98 (k : Nat) (a0 : List (List ByteArray)) (a1 : List ByteArray) : Option (List ByteArray × Int) :=
 (z4c fuel a0).bind fun r1 =>
 if (r1 != 0) = true then
 some ([], r1)
 else
 (z1g fuel a1).bind fun r2 =>
 if (r2 != 0) = true then
 some ([], r2)
 else
 (z65 fuel a0).bind fun r3 =>
 if (r3 != (a1.length : Int)) = true then if decide ((a0.length : Int) > 0) = true then
 some ([], 3)
 else
 (z2n fuel a1).bind fun r4 =>
 (z64 fuel a0).bind fun r5 =>
 match z48 k r4 (r5.length : Int) 0 [] r5 with
 | none => none
 | some (.exit d6) =>
  (z3d fuel d6.1).bind fun r7 =>
  some (r7.1, r7.2)
 | some (.ret d6) =>
  none
 else
 (z2n fuel a1).bind fun r8 =>
 (z64 fuel a0).bind fun r9 =>
 match z48 k r8 (r9.length : Int) 0 [] r9 with
 | none => none
 | some (.exit d10) =>
  (z3d fuel d10.1).bind fun r11 =>
  some (r11.1, r11.2)
 | some (.ret d10) =>
  none
def y1y (k : Nat) : Vm.Spec := { ps := [.slice (.slice .str), .slice .str], rs := [.fresh .str, .imm (.int .i64)], f := fun x => z98 k x.1 x.2 }
noncomputable def y3x : Vm.Spec := y1y fuel
theorem y3n : Vm.Spec.holds Tryz.prog 39 y3x := z0v (E := yk7) (L := yc7) (fn := Tryz.f39) (Z := y1y) (z1h ok) (z0n (by exact ⟨⟨by kernel_rfl, z6d⟩, ⟨by kernel_rfl, z7g⟩, ⟨by kernel_rfl, z90⟩, ⟨by kernel_rfl, z91⟩, ⟨by kernel_rfl, z4n⟩, ⟨by kernel_rfl, z55⟩, ⟨by kernel_rfl, ze3⟩, trivial⟩)) z0w (z07 rfl) (z01 rfl) (by kernel_rfl) (by kernel_rfl) (z0i (ls := [(12, zu6)]) rfl rfl ⟨by kernel_rfl, fun _ => rfl, fun _ _ => by kernel_rfl, z0j (by kernel_rfl)⟩) fun k x => by kernel_rfl
noncomputable def yx9 : Env := { te := te, spec := [(42, z7m), (69, zm7), (70, zo2), (71, z6b), (73, zi8)], body := [] }
def ys3 : z1w := []
def z7p (k : Nat) (a0 : List ByteArray) (a1 : List ByteArray) : Option (ByteArray × Int) :=
 (z1g fuel a0).bind fun r1 =>
 if (r1 != 0) = true then
 some ((⟨#[]⟩ : ByteArray), r1)
 else
 (z1g fuel a1).bind fun r2 =>
 if (r2 != 0) = true then
 some ((⟨#[]⟩ : ByteArray), r2)
 else
 if ((a0.length : Int) != (a1.length : Int)) = true then
 some ((⟨#[]⟩ : ByteArray), 3)
 else
 (z2n fuel a0).bind fun r3 =>
 (z2n fuel a1).bind fun r4 =>
 (z6y fuel r3 r4).bind fun r5 =>
 (z88 fuel r5).bind fun r6 =>
 if (r6 != 0) = true then
 some ((⟨#[]⟩ : ByteArray), r6)
 else
 (z7s fuel r5).bind fun r7 =>
 some (r7, 0)
def y64 (k : Nat) : Vm.Spec := { ps := [.slice .str, .slice .str], rs := [.imm .str, .imm (.int .i64)], f := fun x => z7p k x.1 x.2 }
noncomputable def y8t : Vm.Spec := y64 fuel
theorem y6m : Vm.Spec.holds Tryz.prog 40 y8t := z0v (E := yx9) (L := ys3) (fn := Tryz.f40) (Z := y64) (z1h ok) (z0n (by exact ⟨⟨by kernel_rfl, z4n⟩, ⟨by kernel_rfl, z6z⟩, ⟨by kernel_rfl, z8b⟩, ⟨by kernel_rfl, z55⟩, ⟨by kernel_rfl, ze3⟩, trivial⟩)) z0w (z07 rfl) (z01 rfl) (by kernel_rfl) (by kernel_rfl) (z0o rfl) fun k x => by kernel_rfl
noncomputable def yr7 : Env := { te := te, spec := [(38, z8y), (39, y3x), (40, y8t)], body := [] }
def yl2 : z1w := []
def z36 (k : Nat) (a0 : List (List ByteArray)) (a1 : List ByteArray) (a2 : List ByteArray) : Option (ByteArray × Int) :=
 (z1x fuel a0 a1 a2).bind fun r1 =>
 if (r1 != 0) = true then
 some ((⟨#[]⟩ : ByteArray), r1)
 else
 (z98 fuel a0 a2).bind fun r2 =>
 if (r2.2 != 0) = true then
 some ((⟨#[]⟩ : ByteArray), r2.2)
 else
 (z7p fuel a1 r2.1).bind fun r3 =>
 some (r3.1, r3.2)
def y3z (k : Nat) : Vm.Spec := { ps := [.slice (.slice .str), .slice .str, .slice .str], rs := [.imm .str, .imm (.int .i64)], f := fun x => z36 k x.1 x.2.1 x.2.2 }
noncomputable def y0e : Vm.Spec := y3z fuel
theorem zp2 : Vm.Spec.holds Tryz.prog 9 y0e := z0v (E := yr7) (L := yl2) (fn := Tryz.f9) (Z := y3z) (z1h ok) (z0n (by exact ⟨⟨by kernel_rfl, z8n⟩, ⟨by kernel_rfl, y3n⟩, ⟨by kernel_rfl, y6m⟩, trivial⟩)) z0w (z07 rfl) (z01 rfl) (by kernel_rfl) (by kernel_rfl) (z0o rfl) fun k x => by kernel_rfl
noncomputable def y9r : Env := { te := te, spec := [(22, ze9), (26, zf0), (31, y0f), (33, zo1), (38, z8y), (41, y53), (42, z7m), (43, z7n)], body := [] }
def zr6 : List (Nat × OSh) := [(172, .buf qT), (52, .box [.val .bool, .val (.slice (.int .u32)), .val (.slice (.int .u32))])]
def y3t : Ann := { slots := [(9, .one (.own 172 qT)), (13, .one (.fix (.pbox 52 0))), (52, .one (.val (.slice qT))), (53, .one (.val (.int .i64))), (54, .one (.val (.int .i64)))], objs := zr6 }
def zl2 : Ann := { slots := [(9, .one (.own 172 qT)), (13, .one (.fix (.pbox 52 0)))], objs := zr6 }
def z9r : List (Nat × OSh) := [(28, .box [.val .bool, .val (.slice (.int .u32)), .val (.slice (.int .u32))]), (172, .buf qT), (180, .buf (.slice qT))]
def y3s : Ann := { slots := [(7, .one (.fix (.pbox 28 0))), (9, .one (.own 172 qT)), (46, .one (.own 180 (.slice qT))), (47, .one (.val (.int .i64))), (48, .one (.val (.int .i64)))], objs := z9r }
def zl0 : Ann := { slots := [(7, .one (.fix (.pbox 28 0))), (9, .one (.own 172 qT))], objs := z9r }
def zk9 : Ann := { slots := [(4, .one (.val (.int .i64)))], objs := z9r }
def zr7 : List (Nat × OSh) := [(160, .buf qT), (68, .box [.val .bool, .val (.slice (.int .u32)), .val (.slice (.int .u32))]), (180, .buf (.slice qT))]
def y3v : Ann := { slots := [(8, .one (.own 160 qT)), (16, .one (.val (.int .i64))), (17, .one (.fix (.pbox 68 0))), (78, .one (.own 180 (.slice qT))), (79, .one (.val (.int .i64))), (80, .one (.val (.int .i64)))], objs := zr7 }
def zl7 : Ann := { slots := [(8, .one (.own 160 qT)), (17, .one (.fix (.pbox 68 0)))], objs := zr7 }
def z9s : List (Nat × OSh) := [(28, .box [.val .bool, .val (.slice (.int .u32)), .val (.slice (.int .u32))]), (160, .buf qT), (180, .buf (.slice qT))]
def y3u : Ann := { slots := [(7, .one (.fix (.pbox 28 0))), (8, .one (.own 160 qT)), (10, .one (.own 180 (.slice qT))), (74, .one (.val (.int .i64))), (75, .one (.val (.int .i64)))], objs := z9s }
def zl5 : Ann := { slots := [], objs := z9s }
def zl4 : Ann := { slots := [(4, .one (.val (.int .i64)))], objs := z9s }
def z9o : Nat -> List (Bool × ((List Int) × (List Int))) -> Int -> Int -> List (Bool × ((List Int) × (List Int))) -> Bool -> List Int -> List Int -> Option (LR zl2 a0)
 | 0, _, _, _, _, _, _, _ => none
 | m + 1, s52, s53, s54, b172, b52_0, b52_1, b52_2 =>
  if decide (s54 < s53) = true then if (0 : Int) <= s54 then if s54 < s52.length then if (0 : Int) <= s54 then if s54 < b172.length then
  (z31 fuel ((s52.getD s54.toNat (false, ([], []))).1, ((s52.getD s54.toNat (false, ([], []))).2)) ((b172.getD s54.toNat (false, ([], []))).1, ((b172.getD s54.toNat (false, ([], []))).2))).bind fun r1 =>
  (z5g fuel (b52_0, (b52_1, b52_2)) r1).bind fun r2 =>
  z9o m s52 s53 (IntKind.i64.wrap (s54 + 1)) b172 r2.1 r2.2.1 r2.2.2
  else none else none else none else none
  else
  some (.exit (b172, b52_0, b52_1, b52_2, ()))
def zl1 : LSpec := { h := y3t, x := zl2, r := a0, xid := 2, rt := false, pins := [172, 52], f := fun k d => z9o k d.1 d.2.1 d.2.2.1 d.2.2.2.1 d.2.2.2.2.1 d.2.2.2.2.2.1 d.2.2.2.2.2.2.1 }
def z9n : Nat -> Int -> Int -> Bool -> List Int -> List Int -> List (Bool × ((List Int) × (List Int))) -> List (List (Bool × ((List Int) × (List Int)))) -> Option (LR zl0 zk9)
 | 0, _, _, _, _, _, _, _ => none
 | m + 1, s47, s48, b28_0, b28_1, b28_2, b172, b180 =>
  if decide (s48 < s47) = true then if (0 : Int) <= s48 then if s48 < b180.length then
  match z9o m (b180.getD s48.toNat []) ((b180.getD s48.toNat []).length : Int) 0 b172 false [] [] with
  | none => none
  | some (.exit d1) =>
   (z44 fuel (d1.2.1, (d1.2.2.1, d1.2.2.2.1)) (b28_0, (b28_1, b28_2))).bind fun r2 =>
   if decide (r2 > 0) = true then
   some (.ret (16, b28_0, b28_1, b28_2, d1.1, b180, ()))
   else
   z9n m s47 (IntKind.i64.wrap (s48 + 1)) b28_0 b28_1 b28_2 d1.1 b180
  | some (.ret d1) =>
   none
  else none else none
  else
  some (.exit (b28_0, b28_1, b28_2, b172, b180, ()))
def zk8 : LSpec := { h := y3s, x := zl0, r := zk9, xid := 0, rt := true, pins := [28, 172, 180], f := fun k d => z9n k d.1 d.2.1 d.2.2.1 d.2.2.2.1 d.2.2.2.2.1 d.2.2.2.2.2.1 d.2.2.2.2.2.2.1 }
def z9q : Nat -> Int -> Int -> Int -> List (Bool × ((List Int) × (List Int))) -> Bool -> List Int -> List Int -> List (List (Bool × ((List Int) × (List Int)))) -> Option (LR zl7 a0)
 | 0, _, _, _, _, _, _, _, _ => none
 | m + 1, s16, s79, s80, b160, b68_0, b68_1, b68_2, b180 =>
  if decide (s80 < s79) = true then if (0 : Int) <= s80 then if s80 < b180.length then if (0 : Int) <= s16 then if s16 < (b180.getD s80.toNat []).length then if (0 : Int) <= s80 then if s80 < b160.length then
  (z31 fuel (((b180.getD s80.toNat []).getD s16.toNat (false, ([], []))).1, (((b180.getD s80.toNat []).getD s16.toNat (false, ([], []))).2)) ((b160.getD s80.toNat (false, ([], []))).1, ((b160.getD s80.toNat (false, ([], []))).2))).bind fun r1 =>
  (z5g fuel (b68_0, (b68_1, b68_2)) r1).bind fun r2 =>
  z9q m s16 s79 (IntKind.i64.wrap (s80 + 1)) b160 r2.1 r2.2.1 r2.2.2 b180
  else none else none else none else none else none else none
  else
  some (.exit (b160, b68_0, b68_1, b68_2, b180, ()))
def zl6 : LSpec := { h := y3v, x := zl7, r := a0, xid := 6, rt := false, pins := [160, 68, 180], f := fun k d => z9q k d.1 d.2.1 d.2.2.1 d.2.2.2.1 d.2.2.2.2.1 d.2.2.2.2.2.1 d.2.2.2.2.2.2.1 d.2.2.2.2.2.2.2.1 }
def z9p : Nat -> Int -> Int -> Bool -> List Int -> List Int -> List (Bool × ((List Int) × (List Int))) -> List (List (Bool × ((List Int) × (List Int)))) -> Option (LR zl5 zl4)
 | 0, _, _, _, _, _, _, _ => none
 | m + 1, s74, s75, b28_0, b28_1, b28_2, b160, b180 =>
  if decide (s75 < s74) = true then
  match z9q m s75 (b180.length : Int) 0 b160 false [] [] b180 with
  | none => none
  | some (.exit d1) =>
   (z44 fuel (d1.2.1, (d1.2.2.1, d1.2.2.2.1)) (b28_0, (b28_1, b28_2))).bind fun r2 =>
   if decide (r2 < 0) = true then
   some (.ret (16, b28_0, b28_1, b28_2, d1.1, d1.2.2.2.2.1, ()))
   else
   z9p m s74 (IntKind.i64.wrap (s75 + 1)) b28_0 b28_1 b28_2 d1.1 d1.2.2.2.2.1
  | some (.ret d1) =>
   none
  else
  some (.exit (b28_0, b28_1, b28_2, b160, b180, ()))
def zl3 : LSpec := { h := y3u, x := zl5, r := zl4, xid := 4, rt := true, pins := [28, 160, 180], f := fun k d => z9p k d.1 d.2.1 d.2.2.1 d.2.2.2.1 d.2.2.2.2.1 d.2.2.2.2.2.1 d.2.2.2.2.2.2.1 }
def y7r : z1w := [([10], [(11, zk8), (15, zl1), (23, zl3), (27, zl6)])]
def zj1 (k : Nat) (a0 : List (List ByteArray)) (a1 : ByteArray × ((List ByteArray) × (List ByteArray))) : Option (Int) :=
 (z1x fuel a0 a1.2.1 a1.2.2).bind fun r1 =>
 if (r1 != 0) = true then
 some r1
 else
 (z9k fuel a1.1).bind fun r2 =>
 if (r2 != 0) = true then
 some r2
 else
 (zc4 fuel a1.1).bind fun r3 =>
 (z2n fuel a1.2.1).bind fun r4 =>
 (z2n fuel a1.2.2).bind fun r5 =>
 (z64 fuel a0).bind fun r6 =>
 match z9n k (r6.length : Int) 0 r3.1 r3.2.1 r3.2.2 r5 r6 with
 | none => none
 | some (.exit d7) =>
  match z9p k (d7.2.2.2.1.length : Int) 0 d7.1 d7.2.1 d7.2.2.1 r4 d7.2.2.2.2.1 with
  | none => none
  | some (.exit d8) =>
   some 0
  | some (.ret d8) =>
   some d8.1
 | some (.ret d7) =>
  some d7.1
def zx7 (k : Nat) : Vm.Spec := { ps := [.slice (.slice .str), .pair .str (.pair (.slice .str) (.slice .str))], rs := [.imm (.int .i64)], f := fun x => zj1 k x.1 x.2 }
noncomputable def y10 : Vm.Spec := zx7 fuel
theorem y1l : Vm.Spec.holds Tryz.prog 10 y10 := z0v (E := y9r) (L := y7r) (fn := Tryz.f10) (Z := zx7) (z1h ok) (z0n (by exact ⟨⟨by kernel_rfl, z6d⟩, ⟨by kernel_rfl, z6g⟩, ⟨by kernel_rfl, z76⟩, ⟨by kernel_rfl, z8a⟩, ⟨by kernel_rfl, z8n⟩, ⟨by kernel_rfl, zy6⟩, ⟨by kernel_rfl, z4n⟩, ⟨by kernel_rfl, z45⟩, trivial⟩)) z0w (z07 rfl) (z01 rfl) (by kernel_rfl) (by kernel_rfl) (z0i (ls := [(11, zk8), (15, zl1), (23, zl3), (27, zl6)]) rfl rfl ⟨by kernel_rfl, fun _ => rfl, fun _ _ => by kernel_rfl, by kernel_rfl, fun _ => rfl, fun _ _ => by kernel_rfl, by kernel_rfl, fun _ => rfl, fun _ _ => by kernel_rfl, by kernel_rfl, fun _ => rfl, fun _ _ => by kernel_rfl, z0j (by kernel_rfl)⟩) fun k x => by kernel_rfl
noncomputable def y07 : Env := { te := te, spec := [], body := [] }
def zx1 : z1w := []
def z3i (k : Nat) : Option (List (List ByteArray)) :=
 some [[(⟨#[49]⟩ : ByteArray), (⟨#[45, 49]⟩ : ByteArray)], [(⟨#[45, 49]⟩ : ByteArray), (⟨#[49]⟩ : ByteArray)]]
def z9x (k : Nat) : Vm.Spec := { ps := [], rs := [.fresh (.slice .str)], f := fun x => z3i k }
noncomputable def zb2 : Vm.Spec := z9x fuel
theorem zj0 : Vm.Spec.holds Tryz.prog 12 zb2 := z0v (E := y07) (L := zx1) (fn := Tryz.f12) (Z := z9x) (z1h ok) (z0n (by exact trivial)) z0w (z07 rfl) (z01 rfl) (by kernel_rfl) (by kernel_rfl) (z0o rfl) fun k x => by kernel_rfl
noncomputable def y9q : Env := { te := te, spec := [(8, z6a), (22, ze9), (43, z7n)], body := [] }
def zr4 : List (Nat × OSh) := [(40, .box [.val .bool, .val (.slice (.int .u32)), .val (.slice (.int .u32))])]
def y3q : Ann := { slots := [(10, .one (.fix (.pbox 40 0))), (11, .one (.val .bool)), (37, .one (.val (.slice qT))), (38, .one (.val (.int .i64))), (39, .one (.val (.int .i64)))], objs := zr4 }
def zk5 : Ann := { slots := [(10, .one (.fix (.pbox 40 0))), (11, .one (.val .bool))], objs := zr4 }
def zr5 : List (Nat × OSh) := [(40, .box [.val .bool, .val (.slice (.int .u32)), .val (.slice (.int .u32))]), (88, .buf (.slice qT))]
def y3r : Ann := { slots := [(9, .one (.val (.int .i64))), (10, .one (.fix (.pbox 40 0))), (11, .one (.val .bool)), (51, .one (.own 88 (.slice qT))), (52, .one (.val (.int .i64))), (53, .one (.val (.int .i64)))], objs := zr5 }
def zk7 : Ann := { slots := [(11, .one (.val .bool))], objs := zr5 }
def y5f : Ann := { slots := [(6, .one (.own 88 (.slice qT))), (7, .one (.val (.int .i64))), (8, .one (.val (.slice qT))), (30, .one (.val (.slice qT))), (31, .one (.val (.int .i64))), (32, .one (.val (.int .i64)))], objs := [(88, .buf (.slice qT))] }
def zq4 : Ann := { slots := [(6, .one (.own 88 (.slice qT)))], objs := [(88, .buf (.slice qT))] }
def zq3 : Ann := { slots := [(2, .one (.val (.int .i64))), (3, .one (.val (.int .i64))), (4, .one (.val (.int .i64)))], objs := [(88, .buf (.slice qT))] }
def y5e : Ann := { slots := [(6, .one (.own 88 (.slice qT))), (23, .one (.own 88 (.slice qT))), (24, .one (.val (.int .i64))), (25, .one (.val (.int .i64)))], objs := [(88, .buf (.slice qT))] }
def zq1 : Ann := { slots := [], objs := [(88, .buf (.slice qT))] }
def zq0 : Ann := { slots := [(2, .one (.val (.int .i64))), (3, .one (.val (.int .i64))), (4, .one (.val (.int .i64)))], objs := [(88, .buf (.slice qT))] }
def z6q : Nat -> Bool -> List (Bool × ((List Int) × (List Int))) -> Int -> Int -> Bool -> List Int -> List Int -> Option (LR zk5 a0)
 | 0, _, _, _, _, _, _, _ => none
 | m + 1, s11, s37, s38, s39, b40_0, b40_1, b40_2 =>
  if decide (s39 < s38) = true then if (0 : Int) <= s39 then if s39 < s37.length then if s11 = true then
  (z44 fuel ((s37.getD s39.toNat (false, ([], []))).1, ((s37.getD s39.toNat (false, ([], []))).2)) (b40_0, (b40_1, b40_2))).bind fun r1 =>
  z6q m (decide (r1 >= 0)) s37 s38 (IntKind.i64.wrap (s39 + 1)) b40_0 b40_1 b40_2
  else
  z6q m false s37 s38 (IntKind.i64.wrap (s39 + 1)) b40_0 b40_1 b40_2
  else none else none
  else
  some (.exit (s11, b40_0, b40_1, b40_2, ()))
def zk4 : LSpec := { h := y3q, x := zk5, r := a0, xid := 4, rt := false, pins := [40], f := fun k d => z6q k d.1 d.2.1 d.2.2.1 d.2.2.2.1 d.2.2.2.2.1 d.2.2.2.2.2.1 d.2.2.2.2.2.2.1 }
def z6r : Nat -> Int -> Bool -> Int -> Int -> Bool -> List Int -> List Int -> List (List (Bool × ((List Int) × (List Int)))) -> Option (LR zk7 a0)
 | 0, _, _, _, _, _, _, _, _ => none
 | m + 1, s9, s11, s52, s53, b40_0, b40_1, b40_2, b88 =>
  if decide (s53 < s52) = true then if (0 : Int) <= s53 then if s53 < b88.length then if s11 = true then if (0 : Int) <= s9 then if s9 < (b88.getD s53.toNat []).length then
  (z44 fuel (((b88.getD s53.toNat []).getD s9.toNat (false, ([], []))).1, (((b88.getD s53.toNat []).getD s9.toNat (false, ([], []))).2)) (b40_0, (b40_1, b40_2))).bind fun r1 =>
  z6r m s9 (decide (r1 <= 0)) s52 (IntKind.i64.wrap (s53 + 1)) b40_0 b40_1 b40_2 b88
  else none else none
  else
  z6r m s9 false s52 (IntKind.i64.wrap (s53 + 1)) b40_0 b40_1 b40_2 b88
  else none else none
  else
  some (.exit (s11, b40_0, b40_1, b40_2, b88, ()))
def zk6 : LSpec := { h := y3r, x := zk7, r := a0, xid := 6, rt := false, pins := [40, 88], f := fun k d => z6r k d.1 d.2.1 d.2.2.1 d.2.2.2.1 d.2.2.2.2.1 d.2.2.2.2.2.1 d.2.2.2.2.2.2.1 d.2.2.2.2.2.2.2.1 }
def zd4 : Nat -> Int -> List (Bool × ((List Int) × (List Int))) -> List (Bool × ((List Int) × (List Int))) -> Int -> Int -> List (List (Bool × ((List Int) × (List Int)))) -> Option (LR zq4 zq3)
 | 0, _, _, _, _, _, _ => none
 | m + 1, s7, s8, s30, s31, s32, b88 =>
  if decide (s32 < s31) = true then if (0 : Int) <= s32 then if s32 < s30.length then
  match z6q m true s8 (s8.length : Int) 0 ((s30.getD s32.toNat (false, ([], []))).1) (((s30.getD s32.toNat (false, ([], []))).2).1) (((s30.getD s32.toNat (false, ([], []))).2).2) with
  | none => none
  | some (.exit d1) =>
   match z6r m s32 d1.1 (b88.length : Int) 0 d1.2.1 d1.2.2.1 d1.2.2.2.1 b88 with
   | none => none
   | some (.exit d2) =>
    if d2.1 = true then
    some (.ret (s7, s32, 0, d2.2.2.2.2.1, ()))
    else
    zd4 m s7 s8 s30 s31 (IntKind.i64.wrap (s32 + 1)) d2.2.2.2.2.1
   | some (.ret d2) =>
    none
  | some (.ret d1) =>
   none
  else none else none
  else
  some (.exit (b88, ()))
def zq2 : LSpec := { h := y5f, x := zq4, r := zq3, xid := 2, rt := true, pins := [88], f := fun k d => zd4 k d.1 d.2.1 d.2.2.1 d.2.2.2.1 d.2.2.2.2.1 d.2.2.2.2.2.1 }
def zd3 : Nat -> Int -> Int -> List (List (Bool × ((List Int) × (List Int)))) -> Option (LR zq1 zq0)
 | 0, _, _, _ => none
 | m + 1, s24, s25, b88 =>
  if decide (s25 < s24) = true then if (0 : Int) <= s25 then if s25 < b88.length then
  match zd4 m s25 (b88.getD s25.toNat []) (b88.getD s25.toNat []) ((b88.getD s25.toNat []).length : Int) 0 b88 with
  | none => none
  | some (.exit d1) =>
   zd3 m s24 (IntKind.i64.wrap (s25 + 1)) d1.1
  | some (.ret d1) =>
   some (.ret (d1.1, d1.2.1, d1.2.2.1, d1.2.2.2.1, ()))
  else none else none
  else
  some (.exit (b88, ()))
def zp9 : LSpec := { h := y5e, x := zq1, r := zq0, xid := 0, rt := true, pins := [88], f := fun k d => zd3 k d.1 d.2.1 d.2.2.1 }
def y7q : z1w := [([13], [(6, zp9), (9, zq2), (13, zk4), (18, zk6)])]
def y17 (k : Nat) (a0 : List (List ByteArray)) : Option (Int × Int × Int) :=
 (z2g fuel a0).bind fun r1 =>
 if (r1 != 0) = true then
 some (0, 0, r1)
 else
 (z64 fuel a0).bind fun r2 =>
 match zd3 k (r2.length : Int) 0 r2 with
 | none => none
 | some (.exit d3) =>
  some (0, 0, 8)
 | some (.ret d3) =>
  some (d3.1, d3.2.1, d3.2.2.1)
def zx6 (k : Nat) : Vm.Spec := { ps := [.slice (.slice .str)], rs := [.imm (.int .i64), .imm (.int .i64), .imm (.int .i64)], f := fun x => y17 k x }
noncomputable def y0z : Vm.Spec := zx6 fuel
theorem y1k : Vm.Spec.holds Tryz.prog 13 y0z := z0v (E := y9q) (L := y7q) (fn := Tryz.f13) (Z := zx6) (z1h ok) (z0n (by exact ⟨⟨by kernel_rfl, z4j⟩, ⟨by kernel_rfl, z6d⟩, ⟨by kernel_rfl, z45⟩, trivial⟩)) z0w (z07 rfl) (z01 rfl) (by kernel_rfl) (by kernel_rfl) (z0i (ls := [(6, zp9), (9, zq2), (13, zk4), (18, zk6)]) rfl rfl ⟨by kernel_rfl, fun _ => rfl, fun _ _ => by kernel_rfl, by kernel_rfl, fun _ => rfl, fun _ _ => by kernel_rfl, by kernel_rfl, fun _ => rfl, fun _ _ => by kernel_rfl, by kernel_rfl, fun _ => rfl, fun _ _ => by kernel_rfl, z0j (by kernel_rfl)⟩) fun k x => by kernel_rfl
noncomputable def y4v : Env := { te := te, spec := [(8, z6a), (22, ze9), (43, z7n)], body := [] }
def y0t : Ann := { slots := [(10, .one (.val (.slice qT))), (11, .one (.val .bool)), (34, .one (.val (.slice qT))), (35, .one (.val (.int .i64))), (36, .one (.val (.int .i64)))], objs := [] }
def zd2 : Ann := { slots := [(11, .one (.val .bool))], objs := [] }
def y0s : Ann := { slots := [(6, .one (.own 224 (.int .i64))), (7, .one (.val (.int .i64))), (8, .one (.val (.slice qT))), (28, .one (.own 80 (.slice qT))), (29, .one (.val (.int .i64))), (30, .one (.val (.int .i64)))], objs := [(224, .buf (.int .i64)), (80, .buf (.slice qT))] }
def zd0 : Ann := { slots := [(6, .one (.own 224 (.int .i64)))], objs := [(224, .buf (.int .i64)), (80, .buf (.slice qT))] }
def y1n : Ann := { slots := [(5, .one (.own 80 (.slice qT))), (6, .one (.own 224 (.int .i64))), (21, .one (.own 80 (.slice qT))), (22, .one (.val (.int .i64))), (23, .one (.val (.int .i64)))], objs := [(80, .buf (.slice qT)), (224, .buf (.int .i64))] }
def ze5 : Ann := { slots := [(6, .one (.own 224 (.int .i64)))], objs := [(224, .buf (.int .i64)), (80, .buf (.slice qT))] }
def z5n : Nat -> List (Bool × ((List Int) × (List Int))) -> Bool -> List (Bool × ((List Int) × (List Int))) -> Int -> Int -> Option (LR zd2 a0)
 | 0, _, _, _, _, _ => none
 | m + 1, s10, s11, s34, s35, s36 =>
  if decide (s36 < s35) = true then if (0 : Int) <= s36 then if s36 < s34.length then if s11 = true then if (0 : Int) <= s36 then if s36 < s10.length then
  (z44 fuel ((s34.getD s36.toNat (false, ([], []))).1, ((s34.getD s36.toNat (false, ([], []))).2)) ((s10.getD s36.toNat (false, ([], []))).1, ((s10.getD s36.toNat (false, ([], []))).2))).bind fun r1 =>
  z5n m s10 (decide (r1 < 0)) s34 s35 (IntKind.i64.wrap (s36 + 1))
  else none else none
  else
  z5n m s10 false s34 s35 (IntKind.i64.wrap (s36 + 1))
  else none else none
  else
  some (.exit (s11, ()))
def zd1 : LSpec := { h := y0t, x := zd2, r := a0, xid := 4, rt := false, pins := [], f := fun k d => z5n k d.1 d.2.1 d.2.2.1 d.2.2.2.1 d.2.2.2.2.1 }
def z7d : Nat -> Int -> List (Bool × ((List Int) × (List Int))) -> Int -> Int -> List Int -> List (List (Bool × ((List Int) × (List Int)))) -> Option (LR zd0 a0)
 | 0, _, _, _, _, _, _ => none
 | m + 1, s7, s8, s29, s30, b224, b80 =>
  if decide (s30 < s29) = true then if (0 : Int) <= s30 then if s30 < b80.length then
  match z5n m (b80.getD s30.toNat []) true s8 (s8.length : Int) 0 with
  | none => none
  | some (.exit d1) =>
   if d1.1 = true then if (b224.length + 1) * 8 <= 140737488355328 then
   some (.exit (b224 ++ [s7], b80, ()))
   else none
   else
   z7d m s7 s8 s29 (IntKind.i64.wrap (s30 + 1)) b224 b80
  | some (.ret d1) =>
   none
  else none else none
  else
  some (.exit (b224, b80, ()))
def zc9 : LSpec := { h := y0s, x := zd0, r := a0, xid := 2, rt := false, pins := [80], f := fun k d => z7d k d.1 d.2.1 d.2.2.1 d.2.2.2.1 d.2.2.2.2.1 d.2.2.2.2.2.1 }
def z7v : Nat -> Int -> Int -> List (List (Bool × ((List Int) × (List Int)))) -> List Int -> Option (LR ze5 a0)
 | 0, _, _, _, _ => none
 | m + 1, s22, s23, b80, b224 =>
  if decide (s23 < s22) = true then if (0 : Int) <= s23 then if s23 < b80.length then
  match z7d m s23 (b80.getD s23.toNat []) (b80.length : Int) 0 b224 b80 with
  | none => none
  | some (.exit d1) =>
   z7v m s22 (IntKind.i64.wrap (s23 + 1)) d1.2.1 d1.1
  | some (.ret d1) =>
   none
  else none else none
  else
  some (.exit (b224, b80, ()))
def ze4 : LSpec := { h := y1n, x := ze5, r := a0, xid := 0, rt := false, pins := [80], f := fun k d => z7v k d.1 d.2.1 d.2.2.1 d.2.2.2.1 }
def y3k : z1w := [([14], [(7, ze4), (10, zc9), (14, zd1)])]
def zp1 (k : Nat) (a0 : List (List ByteArray)) : Option (List Int × Int) :=
 (z2g fuel a0).bind fun r1 =>
 if (r1 != 0) = true then
 some ([], r1)
 else
 (z64 fuel a0).bind fun r2 =>
 match z7v k (r2.length : Int) 0 r2 [] with
 | none => none
 | some (.exit d3) =>
  some (d3.1, 0)
 | some (.ret d3) =>
  none
def zk0 (k : Nat) : Vm.Spec := { ps := [.slice (.slice .str)], rs := [.fresh (.int .i64), .imm (.int .i64)], f := fun x => zp1 k x }
noncomputable def zn7 : Vm.Spec := zk0 fuel
theorem zw3 : Vm.Spec.holds Tryz.prog 14 zn7 := z0v (E := y4v) (L := y3k) (fn := Tryz.f14) (Z := zk0) (z1h ok) (z0n (by exact ⟨⟨by kernel_rfl, z4j⟩, ⟨by kernel_rfl, z6d⟩, ⟨by kernel_rfl, z45⟩, trivial⟩)) z0w (z07 rfl) (z01 rfl) (by kernel_rfl) (by kernel_rfl) (z0i (ls := [(7, ze4), (10, zc9), (14, zd1)]) rfl rfl ⟨by kernel_rfl, fun _ => rfl, fun _ _ => by kernel_rfl, by kernel_rfl, fun _ => rfl, fun _ _ => by kernel_rfl, by kernel_rfl, fun _ => rfl, fun _ _ => by kernel_rfl, z0j (by kernel_rfl)⟩) fun k x => by kernel_rfl
noncomputable def y3h : Env := { te := te, spec := [], body := [(45, Tryz.f45), (46, Tryz.f46), (77, Tryz.f77)] }
def z35 : Ann := { slots := [(0, .one (.val (.slice (.int .i64)))), (1, .one (.fix (.func 46))), (7, .one (.val (.int .i64))), (8, .one (.val (.int .i64)))], objs := [] }
def z1j : Ann := { slots := [(4, .one (.val (.int .i64)))], objs := [] }
def z0x : Nat -> List Int -> Int -> Int -> Option (LR a0 z1j)
 | 0, _, _, _ => none
 | m + 1, s0, s7, s8 =>
  if decide (s8 < s7) = true then if (0 : Int) <= s8 then if s8 < s0.length then if (s0.getD s8.toNat 0 != 0) = true then
  some (.ret (s8, ()))
  else
  z0x m s0 s7 (IntKind.i64.wrap (s8 + 1))
  else none else none
  else
  some (.exit ())
def z1i : LSpec := { h := z35, x := a0, r := z1j, xid := 0, rt := true, pins := [], f := fun k d => z0x k d.1 d.2.1 d.2.2.1 }
def y1q : z1w := [([77, 45, 15], [(2, z1i)])]
def zk3 (k : Nat) (a0 : List Int) : Option (Bool) :=
 match z0x k a0 (a0.length : Int) 0 with
 | none => none
 | some (.exit d1) =>
  some true
 | some (.ret d1) =>
  some (!(decide (d1.1 >= 0)))
def zh4 (k : Nat) : Vm.Spec := { ps := [.slice (.int .i64)], rs := [.imm .bool], f := fun x => zk3 k x }
noncomputable def zj9 : Vm.Spec := zh4 fuel
theorem zt0 : Vm.Spec.holds Tryz.prog 15 zj9 := z0v (E := y3h) (L := y1q) (fn := Tryz.f15) (Z := zh4) (z1h ok) (z0n (by exact trivial)) z0w (zb8 (by exact ⟨by kernel_rfl, by kernel_rfl, by kernel_rfl, by kernel_rfl, by kernel_rfl, by kernel_rfl, trivial⟩)) (z4b (by exact ⟨(fun _ => z7a (by kernel_rfl)), (fun _ => z7a (by kernel_rfl)), (z26 [[45, 15]] (by exact ⟨z0i (ls := [(2, z1i)]) rfl rfl ⟨by kernel_rfl, fun _ => rfl, fun _ _ => by kernel_rfl, z0j (by kernel_rfl)⟩,  trivial⟩) rfl),  trivial⟩)) (by kernel_rfl) (by kernel_rfl) (z0o rfl) fun k x => by kernel_rfl
noncomputable def y5u : Env := { te := te, spec := [], body := [] }
def y2r : Ann := { slots := [(0, .one (.val (.slice .str))), (1, .one (.val (.slice .str))), (12, .one (.val (.int .i64))), (13, .one (.val (.int .i64)))], objs := [] }
def zi3 : Ann := { slots := [(4, .one (.val .bool))], objs := [] }
def z96 : Nat -> List ByteArray -> List ByteArray -> Int -> Int -> Option (LR a0 zi3)
 | 0, _, _, _, _ => none
 | m + 1, s0, s1, s12, s13 =>
  if decide (s13 < s12) = true then if (0 : Int) <= s13 then if s13 < s0.length then if (0 : Int) <= s13 then if s13 < s1.length then if (!((s0.getD s13.toNat ByteArray.empty).toList == (s1.getD s13.toNat ByteArray.empty).toList)) = true then
  some (.ret (false, ()))
  else
  z96 m s0 s1 s12 (IntKind.i64.wrap (s13 + 1))
  else none else none else none else none
  else
  some (.exit ())
def zi2 : LSpec := { h := y2r, x := a0, r := zi3, xid := 0, rt := true, pins := [], f := fun k d => z96 k d.1 d.2.1 d.2.2.1 d.2.2.2.1 }
def y4y : z1w := [([16], [(4, zi2)])]
def zu2 (k : Nat) (a0 : List ByteArray) (a1 : List ByteArray) : Option (Bool) :=
 if ((a0.length : Int) != (a1.length : Int)) = true then
 some false
 else
 match z96 k a0 a1 (a0.length : Int) 0 with
 | none => none
 | some (.exit d1) =>
  some true
 | some (.ret d1) =>
  some d1.1
def zo4 (k : Nat) : Vm.Spec := { ps := [.slice .str, .slice .str], rs := [.imm .bool], f := fun x => zu2 k x.1 x.2 }
noncomputable def zt5 : Vm.Spec := zo4 fuel
theorem zy8 : Vm.Spec.holds Tryz.prog 16 zt5 := z0v (E := y5u) (L := y4y) (fn := Tryz.f16) (Z := zo4) (z1h ok) (z0n (by exact trivial)) z0w (z07 rfl) (z01 rfl) (by kernel_rfl) (by kernel_rfl) (z0i (ls := [(4, zi2)]) rfl rfl ⟨by kernel_rfl, fun _ => rfl, fun _ _ => by kernel_rfl, z0j (by kernel_rfl)⟩) fun k x => by kernel_rfl
noncomputable def y5v : Env := { te := te, spec := [], body := [] }
def y2s : Ann := { slots := [(0, .one (.val (.slice (.int .i64)))), (1, .one (.val (.slice (.int .i64)))), (12, .one (.val (.int .i64))), (13, .one (.val (.int .i64)))], objs := [] }
def zi5 : Ann := { slots := [(4, .one (.val .bool))], objs := [] }
def z97 : Nat -> List Int -> List Int -> Int -> Int -> Option (LR a0 zi5)
 | 0, _, _, _, _ => none
 | m + 1, s0, s1, s12, s13 =>
  if decide (s13 < s12) = true then if (0 : Int) <= s13 then if s13 < s0.length then if (0 : Int) <= s13 then if s13 < s1.length then if (s0.getD s13.toNat 0 != s1.getD s13.toNat 0) = true then
  some (.ret (false, ()))
  else
  z97 m s0 s1 s12 (IntKind.i64.wrap (s13 + 1))
  else none else none else none else none
  else
  some (.exit ())
def zi4 : LSpec := { h := y2s, x := a0, r := zi5, xid := 0, rt := true, pins := [], f := fun k d => z97 k d.1 d.2.1 d.2.2.1 d.2.2.2.1 }
def y4z : z1w := [([17], [(4, zi4)])]
def zu3 (k : Nat) (a0 : List Int) (a1 : List Int) : Option (Bool) :=
 if ((a0.length : Int) != (a1.length : Int)) = true then
 some false
 else
 match z97 k a0 a1 (a0.length : Int) 0 with
 | none => none
 | some (.exit d1) =>
  some true
 | some (.ret d1) =>
  some d1.1
def zo5 (k : Nat) : Vm.Spec := { ps := [.slice (.int .i64), .slice (.int .i64)], rs := [.imm .bool], f := fun x => zu3 k x.1 x.2 }
noncomputable def zt6 : Vm.Spec := zo5 fuel
theorem zy9 : Vm.Spec.holds Tryz.prog 17 zt6 := z0v (E := y5v) (L := y4z) (fn := Tryz.f17) (Z := zo5) (z1h ok) (z0n (by exact trivial)) z0w (z07 rfl) (z01 rfl) (by kernel_rfl) (by kernel_rfl) (z0i (ls := [(4, zi4)]) rfl rfl ⟨by kernel_rfl, fun _ => rfl, fun _ _ => by kernel_rfl, z0j (by kernel_rfl)⟩) fun k x => by kernel_rfl
noncomputable def zn5 : Env := { te := te, spec := [(7, zn8), (8, z6a), (9, y0e), (10, y10), (12, zb2), (13, y0z), (14, zn7), (15, zj9), (16, zt5), (17, zt6)], body := [] }
def zm1 : z1w := []
def z5e (k : Nat) : Option (Bool) :=
 (z3i fuel).bind fun r1 =>
 (z5f fuel r1).bind fun r2 =>
 (z3i fuel).bind fun r3 =>
 (z36 fuel r3 [(⟨#[49]⟩ : ByteArray), (⟨#[48]⟩ : ByteArray)] [(⟨#[49]⟩ : ByteArray), (⟨#[48]⟩ : ByteArray)]).bind fun r4 =>
 (y17 fuel [[(⟨#[50]⟩ : ByteArray), (⟨#[51]⟩ : ByteArray)], [(⟨#[49]⟩ : ByteArray), (⟨#[48]⟩ : ByteArray)]]).bind fun r5 =>
 (zp1 fuel [[(⟨#[50]⟩ : ByteArray), (⟨#[51]⟩ : ByteArray)], [(⟨#[49]⟩ : ByteArray), (⟨#[48]⟩ : ByteArray)]]).bind fun r6 =>
 (zk3 fuel [r2.2, r4.2, r5.2.2, r6.2]).bind fun r7 =>
 if r7 = true then if ((r2.1.1.toList == (⟨#[48]⟩ : ByteArray).toList)) = true then
 (zu2 fuel r2.1.2.1 [(⟨#[49, 47, 50]⟩ : ByteArray), (⟨#[49, 47, 50]⟩ : ByteArray)]).bind fun r8 =>
 if r8 = true then if ((r4.1.toList == (⟨#[49]⟩ : ByteArray).toList)) = true then if (r5.1 == 0) = true then if (r5.2.1 == 0) = true then
 (zu3 fuel r6.1 [1]).bind fun r9 =>
 if r9 = true then
 (z3i fuel).bind fun r10 =>
 (zj1 fuel r10 r2.1).bind fun r11 =>
 if (r11 == 0) = true then
 (z3i fuel).bind fun r12 =>
 (zj1 fuel r12 ((⟨#[49]⟩ : ByteArray), r2.1.2)).bind fun r13 =>
 if (r13 == 16) = true then
 (z2g fuel []).bind fun r14 =>
 some (r14 == 8)
 else
 some false
 else
 some false
 else
 some false
 else
 some false
 else
 some false
 else
 some false
 else
 some false
 else
 some false
 else
 some false
def z7f (k : Nat) : Vm.Spec := { ps := [], rs := [.imm .bool], f := fun x => z5e k }
noncomputable def z7l : Vm.Spec := z7f fuel
theorem zc2 : Vm.Spec.holds Tryz.prog 5 z7l := z0v (E := zn5) (L := zm1) (fn := Tryz.f5) (Z := z7f) (z1h ok) (z0n (by exact ⟨⟨by kernel_rfl, zh9⟩, ⟨by kernel_rfl, z4j⟩, ⟨by kernel_rfl, zp2⟩, ⟨by kernel_rfl, y1l⟩, ⟨by kernel_rfl, zj0⟩, ⟨by kernel_rfl, y1k⟩, ⟨by kernel_rfl, zw3⟩, ⟨by kernel_rfl, zt0⟩, ⟨by kernel_rfl, zy8⟩, ⟨by kernel_rfl, zy9⟩, trivial⟩)) z0w (z07 rfl) (z01 rfl) (by kernel_rfl) (by kernel_rfl) (z0o rfl) fun k x => by kernel_rfl
noncomputable def y1p : Env := { te := te, spec := [], body := [(18, Tryz.f18), (19, Tryz.f19), (20, Tryz.f20), (21, Tryz.f21), (47, Tryz.f47), (48, Tryz.f48)] }
def z0z : Ann := { slots := [(0, .one (.val (.slice .str))), (1, .one (.fix (.func 21))), (7, .one (.val (.int .i64))), (8, .one (.val (.int .i64)))], objs := [] }
def z0d : Ann := { slots := [(4, .one (.val (.int .i64)))], objs := [] }
def z6i : List (Nat × OSh) := [(76, .clos 19 [.fix (.pbox 8 0)]), (8, .box [.val (.int .i64)])]
def z3a : Ann := { slots := [(0, .one (.val (.slice (.slice .str)))), (1, .one (.fix (.clos 76))), (7, .one (.val (.int .i64))), (8, .one (.val (.int .i64)))], objs := z6i }
def z1r : Ann := { slots := [], objs := z6i }
def z1q : Ann := { slots := [(4, .one (.val (.int .i64)))], objs := z6i }
def zz2 : Ann := { slots := [(2, .one (.fix (.pbox 8 0))), (7, .one (.val (.slice (.slice (.slice .str))))), (8, .one (.val (.int .i64))), (9, .one (.val (.int .i64)))], objs := [(8, .box [.val (.int .i64)])] }
def za6 : Ann := { slots := [], objs := [(8, .box [.val (.int .i64)])] }
def za5 : Ann := { slots := [(4, .one (.val .bool))], objs := [(8, .box [.val (.int .i64)])] }
def z00 : Nat -> List ByteArray -> Int -> Int -> Option (LR a0 z0d)
 | 0, _, _, _ => none
 | m + 1, s0, s7, s8 =>
  if decide (s8 < s7) = true then if (0 : Int) <= s8 then if s8 < s0.length then if decide (((s0.getD s8.toNat ByteArray.empty).size : Int) > 12) = true then
  some (.ret (s8, ()))
  else
  z00 m s0 s7 (IntKind.i64.wrap (s8 + 1))
  else none else none
  else
  some (.exit ())
def z0c : LSpec := { h := z0z, x := a0, r := z0d, xid := 0, rt := true, pins := [], f := fun k d => z00 k d.1 d.2.1 d.2.2.1 }
def z03 : Nat -> List (List ByteArray) -> Int -> Int -> Int -> Option (LR z1r z1q)
 | 0, _, _, _, _ => none
 | m + 1, s0, s7, s8, b8_0 =>
  if decide (s8 < s7) = true then if (0 : Int) <= s8 then if s8 < s0.length then if decide (((s0.getD s8.toNat []).length : Int) > b8_0) = false then
  match z00 m (s0.getD s8.toNat []) ((s0.getD s8.toNat []).length : Int) 0 with
  | none => none
  | some (.exit d1) =>
   z03 m s0 s7 (IntKind.i64.wrap (s8 + 1)) b8_0
  | some (.ret d1) =>
   if decide (d1.1 >= 0) = true then
   some (.ret (s8, b8_0, ()))
   else
   z03 m s0 s7 (IntKind.i64.wrap (s8 + 1)) b8_0
  else
  some (.ret (s8, b8_0, ()))
  else none else none
  else
  some (.exit (b8_0, ()))
def z1p : LSpec := { h := z3a, x := z1r, r := z1q, xid := 0, rt := true, pins := [76, 8], f := fun k d => z03 k d.1 d.2.1 d.2.2.1 d.2.2.2.1 }
def z39 : Nat -> List (List (List ByteArray)) -> Int -> Int -> Int -> Option (LR za6 za5)
 | 0, _, _, _, _ => none
 | m + 1, s7, s8, s9, b8_0 =>
  if decide (s9 < s8) = true then if (0 : Int) <= s9 then if s9 < s7.length then if decide (((s7.getD s9.toNat []).length : Int) > b8_0) = false then
  match z03 m (s7.getD s9.toNat []) ((s7.getD s9.toNat []).length : Int) 0 b8_0 with
  | none => none
  | some (.exit d1) =>
   z39 m s7 s8 (IntKind.i64.wrap (s9 + 1)) d1.1
  | some (.ret d1) =>
   if decide (d1.1 >= 0) = true then
   some (.ret (false, d1.2.1, ()))
   else
   z39 m s7 s8 (IntKind.i64.wrap (s9 + 1)) d1.2.1
  else
  some (.ret (false, b8_0, ()))
  else none else none
  else
  some (.exit (b8_0, ()))
def za4 : LSpec := { h := zz2, x := za6, r := za5, xid := 0, rt := true, pins := [8], f := fun k d => z39 k d.1 d.2.1 d.2.2.1 d.2.2.2.1 }
def y1i : z1w := [([48, 20, 19, 47, 18, 6], [(2, z0c)]), ([47, 18, 6], [(2, z1p)]), ([6], [(2, za4)])]
def z4i (k : Nat) (a0 : Int) (a1 : List (List (List ByteArray))) : Option (Bool) :=
 match z39 k a1 (a1.length : Int) 0 a0 with
 | none => none
 | some (.exit d1) =>
  some true
 | some (.ret d1) =>
  some d1.1
def ze2 (k : Nat) : Vm.Spec := { ps := [.int .i64, .slice (.slice (.slice .str))], rs := [.imm .bool], f := fun x => z4i k x.1 x.2 }
noncomputable def zh1 : Vm.Spec := ze2 fuel
theorem zp0 : Vm.Spec.holds Tryz.prog 6 zh1 := z0v (E := y1p) (L := y1i) (fn := Tryz.f6) (Z := ze2) (z1h ok) (z0n (by exact trivial)) z0w (zb8 (by exact ⟨by kernel_rfl, by kernel_rfl, by kernel_rfl, by kernel_rfl, by kernel_rfl, by kernel_rfl, by kernel_rfl, by kernel_rfl, by kernel_rfl, by kernel_rfl, by kernel_rfl, by kernel_rfl, trivial⟩)) (z4b (by exact ⟨(fun _ => z7a (by kernel_rfl)), (fun _ => z7a (by kernel_rfl)), (fun _ => z7a (by kernel_rfl)), (fun _ => z7a (by kernel_rfl)), (z26 [[18, 6]] (by exact ⟨z0i (ls := [(2, z1p)]) rfl rfl ⟨by kernel_rfl, fun _ => rfl, fun _ _ => by kernel_rfl, z0j (by kernel_rfl)⟩,  trivial⟩) rfl), (z26 [[20, 19, 47, 18, 6]] (by exact ⟨z0i (ls := [(2, z0c)]) rfl rfl ⟨by kernel_rfl, fun _ => rfl, fun _ _ => by kernel_rfl, z0j (by kernel_rfl)⟩,  trivial⟩) rfl),  trivial⟩)) (by kernel_rfl) (by kernel_rfl) (z0i (ls := [(2, za4)]) rfl rfl ⟨by kernel_rfl, fun _ => rfl, fun _ _ => by kernel_rfl, z0j (by kernel_rfl)⟩) fun k x => by kernel_rfl
noncomputable def yr9 : Env := { te := te, spec := [(31, y0f), (43, z7n), (44, zg7)], body := [] }
def yl4 : z1w := []
def z6m (k : Nat) (a0 : ByteArray) (a1 : ByteArray) : Option (Int × Int) :=
 (z3g fuel [a0, a1]).bind fun r1 =>
 if (r1 != 0) = true then
 some (0, r1)
 else
 (zc4 fuel a0).bind fun r2 =>
 (zc4 fuel a1).bind fun r3 =>
 (z44 fuel r2 r3).bind fun r4 =>
 some (r4, 0)
def y41 (k : Nat) : Vm.Spec := { ps := [.str, .str], rs := [.imm (.int .i64), .imm (.int .i64)], f := fun x => z6m k x.1 x.2 }
noncomputable def y61 : Vm.Spec := y41 fuel
theorem y5b : Vm.Spec.holds Tryz.prog 11 y61 := z0v (E := yr9) (L := yl4) (fn := Tryz.f11) (Z := y41) (z1h ok) (z0n (by exact ⟨⟨by kernel_rfl, z76⟩, ⟨by kernel_rfl, z45⟩, ⟨by kernel_rfl, z92⟩, trivial⟩)) z0w (z07 rfl) (z01 rfl) (by kernel_rfl) (by kernel_rfl) (z0o rfl) fun k x => by kernel_rfl
noncomputable def zn4 : Env := { te := te, spec := [(5, z7l), (6, zh1), (7, zn8), (9, y0e), (11, y61)], body := [] }
def zm0 : z1w := []
def z3h (k : Nat) (a0 : List (List ByteArray)) (a1 : List ByteArray) (a2 : List ByteArray) : Option (Bool) :=
 (z5e fuel).bind fun r1 =>
 if (!r1) = true then
 some false
 else
 (z4i fuel 4 [a0, [a1, a2]]).bind fun r2 =>
 if (!r2) = true then
 some true
 else
 (z5f fuel a0).bind fun r3 =>
 if (r3.2 != 0) = true then
 some true
 else
 (z36 fuel a0 r3.1.2.1 a2).bind fun r4 =>
 (z36 fuel a0 a1 r3.1.2.2).bind fun r5 =>
 if (r4.2 == 0) = true then
 (z6m fuel r4.1 r3.1.1).bind fun r6 =>
 if (r6.2 != 0) = false then if decide (r6.1 < 0) = true then
 some false
 else
 if (r5.2 == 0) = true then
 (z6m fuel r5.1 r3.1.1).bind fun r7 =>
 if (r7.2 != 0) = false then if decide (r7.1 > 0) = true then
 some false
 else
 some true
 else
 some false
 else
 some true
 else
 some false
 else
 if (r5.2 == 0) = true then
 (z6m fuel r5.1 r3.1.1).bind fun r8 =>
 if (r8.2 != 0) = false then if decide (r8.1 > 0) = true then
 some false
 else
 some true
 else
 some false
 else
 some true
def z7e (k : Nat) : Vm.Spec := { ps := [.slice (.slice .str), .slice .str, .slice .str], rs := [.imm .bool], f := fun x => z3h k x.1 x.2.1 x.2.2 }
noncomputable def zn6 : Vm.Spec := z7e fuel
theorem zc1 : Vm.Spec.holds Tryz.prog 4 zn6 := z0v (E := zn4) (L := zm0) (fn := Tryz.f4) (Z := z7e) (z1h ok) (z0n (by exact ⟨⟨by kernel_rfl, zc2⟩, ⟨by kernel_rfl, zp0⟩, ⟨by kernel_rfl, zh9⟩, ⟨by kernel_rfl, zp2⟩, ⟨by kernel_rfl, y5b⟩, trivial⟩)) z0w (z07 rfl) (z01 rfl) (by kernel_rfl) (by kernel_rfl) (z0o rfl) fun k x => by kernel_rfl
end Go.Proofs.YtcdcoeofhnfjdaaGreatDoor
