/- Pure functions, printed by a program of this session out of the program. -/
import Derived.Test.YtcdcoeofhnfjdabGreatDoorPe
set_option linter.unusedVariables false
namespace Go.Proofs.YtcdcoeofhnfjdabGreatDoor
open Go Vm Go.Proofs
noncomputable def y3r : Env := { te := te, spec := [], body := [] }
def y1w : z1u := []
def z1n (k : Nat) (a0 : (List (List (Bool × ((List Int) × (List Int))))) × ((List Int) × (Int × Int))) : Option (Int) :=
 some (IntKind.i64.wrap ((IntKind.i64.wrap (a0.2.2.1 + a0.2.2.2)) + 1))
def zi6 (k : Nat) : Vm.Spec := { ps := [.ptr (.pair (.slice (.slice qT)) (.pair (.slice (.int .i64)) (.pair (.int .i64) (.int .i64))))], rs := [.imm (.int .i64)], f := fun x => z1n k x }
noncomputable def z96 : Vm.Spec := zi6 fuel
theorem z8p : Vm.Spec.holds Tryz.prog 85 z96 := z0u (E := y3r) (L := y1w) (fn := Tryz.f85) (Z := zi6) (z1g ok) (z0o (by exact trivial)) z0v (z07 rfl) (z01 rfl) (by kernel_rfl) (by kernel_rfl) (z0n rfl) fun k x => by kernel_rfl
noncomputable def y0f : Env := { te := te, spec := [(26, zb0), (50, y0l), (57, z9t), (85, z96)], body := [] }
def z94 : List (Nat × OSh) := [(24, .box [.val .bool, .val (.slice (.int .u32)), .val (.slice (.int .u32))])]
def zt9 : Ann := { slots := [(0, .one (.val (.ptr (.pair (.slice (.slice qT)) (.pair (.slice (.int .i64)) (.pair (.int .i64) (.int .i64))))))), (1, .one (.val (.int .i64))), (5, .one (.val (.int .i64))), (6, .one (.fix (.pbox 24 0))), (13, .one (.val (.int .i64))), (14, .one (.val (.int .i64)))], objs := z94 }
def z93 : Ann := { slots := [(5, .one (.val (.int .i64)))], objs := z94 }
def z11 : Nat -> (List (List (Bool × ((List Int) × (List Int))))) × ((List Int) × (Int × Int)) -> Int -> Int -> Int -> Int -> Bool -> List Int -> List Int -> Option (LR z93 a0)
 | 0, _, _, _, _, _, _, _, _ => none
 | m + 1, s0, s1, s5, s13, s14, b24_0, b24_1, b24_2 =>
  if decide (s14 < s13) = true then if (0 : Int) <= s14 then if s14 < s0.1.length then if (0 : Int) <= s1 then if s1 < (s0.1.getD s14.toNat []).length then
  (z2n fuel (((s0.1.getD s14.toNat []).getD s1.toNat (false, ([], []))).1, (((s0.1.getD s14.toNat []).getD s1.toNat (false, ([], []))).2))).bind fun r1 =>
  if decide (r1 <= 0) = true then
  z11 m s0 s1 s5 s13 (IntKind.i64.wrap (s14 + 1)) b24_0 b24_1 b24_2
  else
  if (0 : Int) <= s14 then if s14 < s0.1.length then if (0 : Int) <= s14 then if s14 < s0.1.length then if (0 : Int) <= s1 then if s1 < (s0.1.getD s14.toNat []).length then
  (z1n fuel s0).bind fun r2 =>
  if (0 : Int) <= r2 then if r2 < (s0.1.getD s14.toNat []).length then
  (z5k fuel (((s0.1.getD s14.toNat []).getD r2.toNat (false, ([], []))).1, (((s0.1.getD s14.toNat []).getD r2.toNat (false, ([], []))).2)) (((s0.1.getD s14.toNat []).getD s1.toNat (false, ([], []))).1, (((s0.1.getD s14.toNat []).getD s1.toNat (false, ([], []))).2))).bind fun r3 =>
  if decide (s5 >= 0) = true then
  (z4u fuel r3 (b24_0, (b24_1, b24_2))).bind fun r4 =>
  if decide (r4 < 0) = false then if (r4 == 0) = true then if (0 : Int) <= s14 then if s14 < s0.2.1.length then if (0 : Int) <= s5 then if s5 < s0.2.1.length then if decide (s0.2.1.getD s14.toNat 0 < s0.2.1.getD s5.toNat 0) = true then
  z11 m s0 s1 s14 s13 (IntKind.i64.wrap (s14 + 1)) r3.1 r3.2.1 r3.2.2
  else
  z11 m s0 s1 s5 s13 (IntKind.i64.wrap (s14 + 1)) b24_0 b24_1 b24_2
  else none else none else none else none
  else
  z11 m s0 s1 s5 s13 (IntKind.i64.wrap (s14 + 1)) b24_0 b24_1 b24_2
  else
  z11 m s0 s1 s14 s13 (IntKind.i64.wrap (s14 + 1)) r3.1 r3.2.1 r3.2.2
  else
  z11 m s0 s1 s14 s13 (IntKind.i64.wrap (s14 + 1)) r3.1 r3.2.1 r3.2.2
  else none else none else none else none else none else none else none else none else none else none else none else none
  else
  some (.exit (s5, b24_0, b24_1, b24_2, ()))
def z92 : LSpec := { h := zt9, x := z93, r := a0, xid := 0, rt := false, pins := [24], f := fun k d => z11 k d.1 d.2.1 d.2.2.1 d.2.2.2.1 d.2.2.2.2.1 d.2.2.2.2.2.1 d.2.2.2.2.2.2.1 d.2.2.2.2.2.2.2.1 }
def zx8 : z1u := [([100], [(4, z92)])]
def z37 (k : Nat) (a0 : (List (List (Bool × ((List Int) × (List Int))))) × ((List Int) × (Int × Int))) (a1 : Int) : Option (Int) :=
 match z11 k a0 a1 (-1) a0.2.2.2 0 false [] [] with
 | none => none
 | some (.exit d1) =>
  some d1.1
 | some (.ret d1) =>
  none
def zb3 (k : Nat) : Vm.Spec := { ps := [.ptr (.pair (.slice (.slice qT)) (.pair (.slice (.int .i64)) (.pair (.int .i64) (.int .i64)))), .int .i64], rs := [.imm (.int .i64)], f := fun x => z37 k x.1 x.2 }
noncomputable def zd0 : Vm.Spec := zb3 fuel
theorem zk6 : Vm.Spec.holds Tryz.prog 100 zd0 := z0u (E := y0f) (L := zx8) (fn := Tryz.f100) (Z := zb3) (z1g ok) (z0o (by exact ⟨⟨by kernel_rfl, z5v⟩, ⟨by kernel_rfl, zg5⟩, ⟨by kernel_rfl, z5f⟩, ⟨by kernel_rfl, z8p⟩, trivial⟩)) z0v (z07 rfl) (z01 rfl) (by kernel_rfl) (by kernel_rfl) (z0h (ls := [(4, z92)]) rfl rfl ⟨by kernel_rfl, fun _ => rfl, fun _ _ => by kernel_rfl, z0i (by kernel_rfl)⟩) fun k x => by kernel_rfl
noncomputable def yd8 : Env := { te := te, spec := [(26, zb0), (42, zg2), (43, ye7), (44, y0m), (50, y0l), (52, zg3), (57, z9t), (58, y5b), (63, z7o), (78, y20), (81, y15), (85, z96), (100, zd0)], body := [(79, Tryz.f79), (80, Tryz.f80), (82, Tryz.f82), (83, Tryz.f83), (84, Tryz.f84), (99, Tryz.f99)], rows := true }
def zv8 : List (Nat × OSh) := [(4060, .box [.grd 360 qT, .own 420 (.int .i64), .val (.int .i64), .val (.int .i64)]), (4072, .buf (.slice qT)), (4084, .buf qT), (360, .mat qT), (420, .buf (.int .i64))]
def zf1 : Ann := { slots := [(3, .one (.fix (.pbox 4060 0))), (4, .one (.own 4072 (.slice qT))), (5, .one (.own 4084 qT)), (25, .one (.val (.int .i64))), (26, .one (.val (.int .i64)))], objs := zv8 }
def z63 : Ann := { slots := [(3, .one (.fix (.pbox 4060 0)))], objs := zv8 }
def zv9 : List (Nat × OSh) := [(4060, .box [.grd 360 qT, .own 420 (.int .i64), .val (.int .i64), .val (.int .i64)]), (360, .mat qT), (420, .buf (.int .i64))]
def z77 : Ann := { slots := [(0, .one (.fix (.pbox 4060 0))), (3, .one (.val (.int .i64))), (23, .one (.val (.int .i64))), (24, .one (.val (.int .i64)))], objs := zv9 }
def z40 : Ann := { slots := [(0, .one (.fix (.pbox 4060 0))), (3, .one (.val (.int .i64)))], objs := zv9 }
def z8i : Ann := { slots := [(4, .one (.own 4084 qT)), (22, .one (.own 212 qT)), (23, .one (.val (.int .i64))), (24, .one (.val (.int .i64)))], objs := [(4084, .buf qT), (212, .buf qT)] }
def z4o : Ann := { slots := [(4, .one (.own 4084 qT))], objs := [(4084, .buf qT), (212, .buf qT)] }
def zw0 : List (Nat × OSh) := [(4060, .box [.grd 4188 qT, .own 420 (.int .i64), .val (.int .i64), .val (.int .i64)]), (4188, .mat qT), (36, .box [.val .bool, .val (.slice (.int .u32)), .val (.slice (.int .u32))]), (420, .buf (.int .i64))]
def z7y : Ann := { slots := [(0, .one (.fix (.pbox 4060 0))), (4, .one (.row 4188 qT)), (7, .one (.val (.int .i64))), (9, .one (.fix (.pbox 36 0))), (68, .one (.val (.int .i64))), (69, .one (.val (.int .i64)))], objs := zw0 }
def z4k : Ann := { slots := [(0, .one (.fix (.pbox 4060 0))), (4, .one (.row 4188 qT))], objs := zw0 }
def z3a : List (Nat × OSh) := [(4060, .box [.grd 4188 qT, .own 420 (.int .i64), .val (.int .i64), .val (.int .i64)]), (4188, .mat qT), (420, .buf (.int .i64))]
def z8j : Ann := { slots := [(0, .one (.fix (.pbox 4060 0))), (4, .one (.row 4188 qT)), (53, .one (.own 420 (.int .i64))), (54, .one (.val (.int .i64))), (55, .one (.val (.int .i64)))], objs := z3a }
def z4q : Ann := { slots := [], objs := z3a }
def z9e : Ann := { slots := [(0, .one (.fix (.pbox 4060 0))), (1, .one (.val (.int .i64))), (5, .one (.val (.int .i64)))], objs := z3a }
def z50 : Ann := { slots := [(0, .one (.fix (.pbox 4060 0))), (5, .one (.val (.int .i64)))], objs := z3a }
def zw1 : List (Nat × OSh) := [(4060, .box [.grd 4188 qT, .own 420 (.int .i64), .val (.int .i64), .val (.int .i64)]), (4024, .box [.val .bool, .val (.slice (.int .u32)), .val (.slice (.int .u32))]), (4188, .mat qT), (420, .buf (.int .i64))]
def z4e : Ann := { slots := [(0, .one (.fix (.pbox 4060 0))), (1, .one (.val (.int .i64))), (6, .one (.fix (.pbox 4024 0))), (28, .one (.val (.int .i64))), (29, .one (.val (.int .i64)))], objs := zw1 }
def z2j : Ann := { slots := [(0, .one (.fix (.pbox 4060 0)))], objs := zw1 }
def zw2 : List (Nat × OSh) := [(4060, .box [.grd 4188 qT, .own 420 (.int .i64), .val (.int .i64), .val (.int .i64)]), (36, .box [.val .bool, .val (.slice (.int .u32)), .val (.slice (.int .u32))]), (4188, .mat qT), (420, .buf (.int .i64))]
def z49 : Ann := { slots := [(0, .one (.fix (.pbox 4060 0))), (1, .one (.val (.int .i64))), (8, .one (.val (.int .i64))), (9, .one (.fix (.pbox 36 0))), (87, .one (.val (.int .i64))), (88, .one (.val (.int .i64)))], objs := zw2 }
def z2h : Ann := { slots := [(0, .one (.fix (.pbox 4060 0)))], objs := zw2 }
def z4f : Ann := { slots := [(0, .one (.fix (.pbox 4060 0))), (1, .one (.val (.int .i64))), (2, .one (.val (.int .i64))), (58, .one (.val (.int .i64))), (59, .one (.val (.int .i64)))], objs := z3a }
def z2l : Ann := { slots := [(0, .one (.fix (.pbox 4060 0)))], objs := z3a }
def z9d : Ann := { slots := [(0, .one (.fix (.pbox 4060 0))), (1, .one (.val (.int .i64)))], objs := z3a }
def z4y : Ann := { slots := [(4, .one (.val (.int .i64)))], objs := z3a }
def y7e : List (Nat × OSh) := [(4060, .box [.grd 4188 qT, .own 420 (.int .i64), .val (.int .i64), .val (.int .i64)]), (4040, .buf qT), (420, .buf (.int .i64)), (4188, .mat qT)]
def z78 : Ann := { slots := [(0, .one (.fix (.pbox 4060 0))), (3, .one (.own 4040 qT)), (14, .one (.own 420 (.int .i64))), (15, .one (.val (.int .i64))), (16, .one (.val (.int .i64)))], objs := y7e }
def y7f : List (Nat × OSh) := [(4040, .buf qT), (4060, .box [.grd 4188 qT, .own 420 (.int .i64), .val (.int .i64), .val (.int .i64)]), (420, .buf (.int .i64)), (4188, .mat qT)]
def z42 : Ann := { slots := [(3, .one (.own 4040 qT))], objs := y7f }
def y7g : List (Nat × OSh) := [(4060, .box [.grd 4188 qT, .own 420 (.int .i64), .val (.int .i64), .val (.int .i64)]), (464, .buf qT), (420, .buf (.int .i64)), (4188, .mat qT)]
def y5q : Ann := { slots := [(5, .one (.fix (.pbox 4060 0))), (6, .one (.val (.int .i64))), (8, .one (.own 464 qT)), (130, .one (.own 420 (.int .i64))), (131, .one (.val (.int .i64))), (132, .one (.val (.int .i64)))], objs := y7g }
def y7h : List (Nat × OSh) := [(464, .buf qT), (4060, .box [.grd 4188 qT, .own 420 (.int .i64), .val (.int .i64), .val (.int .i64)]), (420, .buf (.int .i64)), (4188, .mat qT)]
def zr7 : Ann := { slots := [(8, .one (.own 464 qT))], objs := y7h }
def z3v : Ann := { slots := [(4, .one (.own 8084 qT)), (22, .one (.own 4268 qT)), (23, .one (.val (.int .i64))), (24, .one (.val (.int .i64)))], objs := [(8084, .buf qT), (4268, .buf qT)] }
def z28 : Ann := { slots := [(4, .one (.own 8084 qT))], objs := [(8084, .buf qT), (4268, .buf qT)] }
def zs3 : List (Nat × OSh) := [(4060, .box [.grd 8188 qT, .own 420 (.int .i64), .val (.int .i64), .val (.int .i64)]), (8188, .mat qT), (36, .box [.val .bool, .val (.slice (.int .u32)), .val (.slice (.int .u32))]), (420, .buf (.int .i64))]
def z3q : Ann := { slots := [(0, .one (.fix (.pbox 4060 0))), (4, .one (.row 8188 qT)), (7, .one (.val (.int .i64))), (9, .one (.fix (.pbox 36 0))), (68, .one (.val (.int .i64))), (69, .one (.val (.int .i64)))], objs := zs3 }
def z21 : Ann := { slots := [(0, .one (.fix (.pbox 4060 0))), (4, .one (.row 8188 qT))], objs := zs3 }
def z1l : List (Nat × OSh) := [(4060, .box [.grd 8188 qT, .own 420 (.int .i64), .val (.int .i64), .val (.int .i64)]), (8188, .mat qT), (420, .buf (.int .i64))]
def z3w : Ann := { slots := [(0, .one (.fix (.pbox 4060 0))), (4, .one (.row 8188 qT)), (53, .one (.own 420 (.int .i64))), (54, .one (.val (.int .i64))), (55, .one (.val (.int .i64)))], objs := z1l }
def z2a : Ann := { slots := [], objs := z1l }
def zs4 : List (Nat × OSh) := [(4060, .box [.grd 8188 qT, .own 420 (.int .i64), .val (.int .i64), .val (.int .i64)]), (8024, .box [.val .bool, .val (.slice (.int .u32)), .val (.slice (.int .u32))]), (8188, .mat qT), (420, .buf (.int .i64))]
def z3r : Ann := { slots := [(0, .one (.fix (.pbox 4060 0))), (1, .one (.val (.int .i64))), (6, .one (.fix (.pbox 8024 0))), (28, .one (.val (.int .i64))), (29, .one (.val (.int .i64)))], objs := zs4 }
def z23 : Ann := { slots := [(0, .one (.fix (.pbox 4060 0)))], objs := zs4 }
def z70 : List (Nat × OSh) := [(4060, .box [.grd 8188 qT, .own 420 (.int .i64), .val (.int .i64), .val (.int .i64)]), (36, .box [.val .bool, .val (.slice (.int .u32)), .val (.slice (.int .u32))]), (8188, .mat qT), (420, .buf (.int .i64))]
def z3j : Ann := { slots := [(0, .one (.fix (.pbox 4060 0))), (1, .one (.val (.int .i64))), (8, .one (.val (.int .i64))), (9, .one (.fix (.pbox 36 0))), (87, .one (.val (.int .i64))), (88, .one (.val (.int .i64)))], objs := z70 }
def z1y : Ann := { slots := [(0, .one (.fix (.pbox 4060 0)))], objs := z70 }
def z3s : Ann := { slots := [(0, .one (.fix (.pbox 4060 0))), (1, .one (.val (.int .i64))), (2, .one (.val (.int .i64))), (58, .one (.val (.int .i64))), (59, .one (.val (.int .i64)))], objs := z1l }
def z25 : Ann := { slots := [(0, .one (.fix (.pbox 4060 0)))], objs := z1l }
def z45 : Ann := { slots := [(0, .one (.fix (.pbox 4060 0))), (1, .one (.val (.int .i64))), (5, .one (.val (.int .i64)))], objs := z1l }
def z2f : Ann := { slots := [(0, .one (.fix (.pbox 4060 0))), (5, .one (.val (.int .i64)))], objs := z1l }
def zs5 : List (Nat × OSh) := [(4060, .box [.grd 8188 qT, .own 420 (.int .i64), .val (.int .i64), .val (.int .i64)]), (4024, .box [.val .bool, .val (.slice (.int .u32)), .val (.slice (.int .u32))]), (8188, .mat qT), (420, .buf (.int .i64))]
def z2t : Ann := { slots := [(0, .one (.fix (.pbox 4060 0))), (1, .one (.val (.int .i64))), (6, .one (.fix (.pbox 4024 0))), (28, .one (.val (.int .i64))), (29, .one (.val (.int .i64)))], objs := zs5 }
def z1a : Ann := { slots := [(0, .one (.fix (.pbox 4060 0)))], objs := zs5 }
def z2q : Ann := { slots := [(0, .one (.fix (.pbox 4060 0))), (1, .one (.val (.int .i64))), (8, .one (.val (.int .i64))), (9, .one (.fix (.pbox 36 0))), (87, .one (.val (.int .i64))), (88, .one (.val (.int .i64)))], objs := z70 }
def z18 : Ann := { slots := [(0, .one (.fix (.pbox 4060 0)))], objs := z70 }
def z2u : Ann := { slots := [(0, .one (.fix (.pbox 4060 0))), (1, .one (.val (.int .i64))), (2, .one (.val (.int .i64))), (58, .one (.val (.int .i64))), (59, .one (.val (.int .i64)))], objs := z1l }
def z1c : Ann := { slots := [(0, .one (.fix (.pbox 4060 0)))], objs := z1l }
def z44 : Ann := { slots := [(0, .one (.fix (.pbox 4060 0))), (1, .one (.val (.int .i64)))], objs := z1l }
def z2d : Ann := { slots := [(4, .one (.val (.int .i64)))], objs := z1l }
def z6z : Ann := { slots := [(0, .one (.fix (.pbox 4060 0))), (8, .one (.val (.int .i64))), (112, .one (.val (.int .i64))), (113, .one (.val (.int .i64)))], objs := z1l }
def z3p : Ann := { slots := [(0, .one (.fix (.pbox 4060 0)))], objs := z1l }
def zs6 : List (Nat × OSh) := [(4060, .box [.grd 8188 qT, .own 420 (.int .i64), .val (.int .i64), .val (.int .i64)]), (420, .buf (.int .i64)), (8188, .mat qT)]
def z6y : Ann := { slots := [(0, .one (.fix (.pbox 4060 0))), (4, .one (.val (.int .i64))), (102, .one (.own 420 (.int .i64))), (103, .one (.val (.int .i64))), (104, .one (.val (.int .i64)))], objs := zs6 }
def z3n : Ann := { slots := [], objs := zs6 }
def z1s : Nat -> Int -> Int -> Int -> Int -> List (List (Bool × ((List Int) × (List Int)))) -> List (Bool × ((List Int) × (List Int))) -> List (List (Bool × ((List Int) × (List Int)))) -> List Int -> Option (LR z63 a0)
 | 0, _, _, _, _, _, _, _, _ => none
 | m + 1, s25, s26, b4060_2, b4060_3, b4072, b4084, b360, b420 =>
  if decide (s26 < s25) = true then if (0 : Int) <= IntKind.i64.wrap ((IntKind.i64.wrap (b4060_2 + b4060_3)) + 2) then if IntKind.i64.wrap ((IntKind.i64.wrap (b4060_2 + b4060_3)) + 2) <= IntKind.i64.wrap ((IntKind.i64.wrap (b4060_2 + b4060_3)) + 2) then if (IntKind.i64.wrap ((IntKind.i64.wrap (b4060_2 + b4060_3)) + 2)) * 56 <= 281474976710656 then if (0 : Int) <= s26 then if s26 < b4072.length then
  (z6k fuel 1).bind fun r1 =>
  if (0 : Int) <= IntKind.i64.wrap (b4060_2 + s26) then if IntKind.i64.wrap (b4060_2 + s26) < ((b4072.getD s26.toNat []).take (List.replicate ((IntKind.i64.wrap ((IntKind.i64.wrap (b4060_2 + b4060_3)) + 2)).toNat) ((false, ([], [])) : Bool × ((List Int) × (List Int)))).length ++ (List.replicate ((IntKind.i64.wrap ((IntKind.i64.wrap (b4060_2 + b4060_3)) + 2)).toNat) ((false, ([], [])) : Bool × ((List Int) × (List Int)))).drop (b4072.getD s26.toNat []).length).length then
  (z6k fuel (-1)).bind fun r2 =>
  if (0 : Int) <= IntKind.i64.wrap (b4060_2 + b4060_3) then if IntKind.i64.wrap (b4060_2 + b4060_3) < (((b4072.getD s26.toNat []).take (List.replicate ((IntKind.i64.wrap ((IntKind.i64.wrap (b4060_2 + b4060_3)) + 2)).toNat) ((false, ([], [])) : Bool × ((List Int) × (List Int)))).length ++ (List.replicate ((IntKind.i64.wrap ((IntKind.i64.wrap (b4060_2 + b4060_3)) + 2)).toNat) ((false, ([], [])) : Bool × ((List Int) × (List Int)))).drop (b4072.getD s26.toNat []).length).set ((IntKind.i64.wrap (b4060_2 + s26)).toNat) r1).length then if (0 : Int) <= s26 then if s26 < b4084.length then if (0 : Int) <= IntKind.i64.wrap ((IntKind.i64.wrap (b4060_2 + b4060_3)) + 1) then if IntKind.i64.wrap ((IntKind.i64.wrap (b4060_2 + b4060_3)) + 1) < ((((b4072.getD s26.toNat []).take (List.replicate ((IntKind.i64.wrap ((IntKind.i64.wrap (b4060_2 + b4060_3)) + 2)).toNat) ((false, ([], [])) : Bool × ((List Int) × (List Int)))).length ++ (List.replicate ((IntKind.i64.wrap ((IntKind.i64.wrap (b4060_2 + b4060_3)) + 2)).toNat) ((false, ([], [])) : Bool × ((List Int) × (List Int)))).drop (b4072.getD s26.toNat []).length).set ((IntKind.i64.wrap (b4060_2 + s26)).toNat) r1).set ((IntKind.i64.wrap (b4060_2 + b4060_3)).toNat) r2).length then
  if (b360.length + 1) * 24 <= 140737488355328 then if (b420.length + 1) * 8 <= 140737488355328 then
  z1s m s25 (IntKind.i64.wrap (s26 + 1)) b4060_2 b4060_3 b4072 b4084 (b360 ++ [((((b4072.getD s26.toNat []).take (List.replicate ((IntKind.i64.wrap ((IntKind.i64.wrap (b4060_2 + b4060_3)) + 2)).toNat) ((false, ([], [])) : Bool × ((List Int) × (List Int)))).length ++ (List.replicate ((IntKind.i64.wrap ((IntKind.i64.wrap (b4060_2 + b4060_3)) + 2)).toNat) ((false, ([], [])) : Bool × ((List Int) × (List Int)))).drop (b4072.getD s26.toNat []).length).set ((IntKind.i64.wrap (b4060_2 + s26)).toNat) r1).set ((IntKind.i64.wrap (b4060_2 + b4060_3)).toNat) r2).set ((IntKind.i64.wrap ((IntKind.i64.wrap (b4060_2 + b4060_3)) + 1)).toNat) ((b4084.getD s26.toNat (false, ([], []))).1, ((b4084.getD s26.toNat (false, ([], []))).2))]) (b420 ++ [IntKind.i64.wrap (b4060_2 + s26)])
  else none else none else none else none else none else none else none else none else none else none else none else none else none else none else none
  else
  some (.exit (b4060_2, b4060_3, b4072, b4084, b360, b420, ()))
def z62 : LSpec := { h := zf1, x := z63, r := a0, xid := 0, rt := false, pins := [4060, 4072, 4084], f := fun k d => z1s k d.1 d.2.1 d.2.2.1 d.2.2.2.1 d.2.2.2.2.1 d.2.2.2.2.2.1 d.2.2.2.2.2.2.1 d.2.2.2.2.2.2.2.1 }
def z0k : Nat -> Int -> Int -> Int -> Int -> Int -> List (List (Bool × ((List Int) × (List Int)))) -> List Int -> Option (LR z40 a0)
 | 0, _, _, _, _, _, _, _ => none
 | m + 1, s3, s23, s24, b4060_2, b4060_3, b360, b420 =>
  if decide (s24 < s23) = true then if (0 : Int) <= s24 then if s24 < b360.length then
  (z1n fuel (b360, (b420, (b4060_2, b4060_3)))).bind fun r1 =>
  if (0 : Int) <= r1 then if r1 < (b360.getD s24.toNat []).length then
  (z2n fuel (((b360.getD s24.toNat []).getD r1.toNat (false, ([], []))).1, (((b360.getD s24.toNat []).getD r1.toNat (false, ([], []))).2))).bind fun r2 =>
  if decide (r2 < 0) = true then if decide (s3 < 0) = false then if (0 : Int) <= s3 then if s3 < b360.length then
  (z1n fuel (b360, (b420, (b4060_2, b4060_3)))).bind fun r3 =>
  if (0 : Int) <= r3 then if r3 < (b360.getD s3.toNat []).length then
  (z4u fuel (((b360.getD s24.toNat []).getD r1.toNat (false, ([], []))).1, (((b360.getD s24.toNat []).getD r1.toNat (false, ([], []))).2)) (((b360.getD s3.toNat []).getD r3.toNat (false, ([], []))).1, (((b360.getD s3.toNat []).getD r3.toNat (false, ([], []))).2))).bind fun r4 =>
  if decide (r4 < 0) = true then
  z0k m s24 s23 (IntKind.i64.wrap (s24 + 1)) b4060_2 b4060_3 b360 b420
  else
  z0k m s3 s23 (IntKind.i64.wrap (s24 + 1)) b4060_2 b4060_3 b360 b420
  else none else none else none else none
  else
  z0k m s24 s23 (IntKind.i64.wrap (s24 + 1)) b4060_2 b4060_3 b360 b420
  else
  z0k m s3 s23 (IntKind.i64.wrap (s24 + 1)) b4060_2 b4060_3 b360 b420
  else none else none else none else none
  else
  some (.exit (s3, b4060_2, b4060_3, b360, b420, ()))
def z3z : LSpec := { h := z77, x := z40, r := a0, xid := 0, rt := false, pins := [4060, 360, 420], f := fun k d => z0k k d.1 d.2.1 d.2.2.1 d.2.2.2.1 d.2.2.2.2.1 d.2.2.2.2.2.1 d.2.2.2.2.2.2.1 }
def z0t : Nat -> Int -> Int -> List (Bool × ((List Int) × (List Int))) -> List (Bool × ((List Int) × (List Int))) -> Option (LR z4o a0)
 | 0, _, _, _, _ => none
 | m + 1, s23, s24, b4084, b212 =>
  if decide (s24 < s23) = true then if (0 : Int) <= s24 then if s24 < b212.length then
  (z9x fuel ((b212.getD s24.toNat (false, ([], []))).1, ((b212.getD s24.toNat (false, ([], []))).2))).bind fun r1 =>
  if (0 : Int) <= s24 then if s24 < b4084.length then
  z0t m s23 (IntKind.i64.wrap (s24 + 1)) (b4084.set s24.toNat r1) b212
  else none else none else none else none
  else
  some (.exit (b4084, b212, ()))
def z4n : LSpec := { h := z8i, x := z4o, r := a0, xid := 0, rt := false, pins := [4084, 212], f := fun k d => z0t k d.1 d.2.1 d.2.2.1 d.2.2.2.1 }
def z15 : Nat -> Nat -> Int -> Int -> Int -> Int -> Int -> List (List (Bool × ((List Int) × (List Int)))) -> Bool -> List Int -> List Int -> List Int -> Option (LR z4k a0)
 | 0, _, _, _, _, _, _, _, _, _, _, _ => none
 | m + 1, s4, s7, s68, s69, b4060_2, b4060_3, b4188, b36_0, b36_1, b36_2, b420 =>
  if decide (s69 < s68) = true then if (0 : Int) <= s69 then if s69 < (b4188.getD s4 []).length then if (0 : Int) <= s7 then if s7 < b4188.length then if (0 : Int) <= s69 then if s69 < (b4188.getD s7.toNat []).length then
  (z2o fuel (b36_0, (b36_1, b36_2)) (((b4188.getD s7.toNat []).getD s69.toNat (false, ([], []))).1, (((b4188.getD s7.toNat []).getD s69.toNat (false, ([], []))).2))).bind fun r1 =>
  (z48 fuel (((b4188.getD s4 []).getD s69.toNat (false, ([], []))).1, (((b4188.getD s4 []).getD s69.toNat (false, ([], []))).2)) r1).bind fun r2 =>
  if (0 : Int) <= s69 then if s69 < (b4188.getD s4 []).length then
  z15 m s4 s7 s68 (IntKind.i64.wrap (s69 + 1)) b4060_2 b4060_3 (b4188.set s4 ((b4188.getD s4 []).set s69.toNat r2)) b36_0 b36_1 b36_2 b420
  else none else none else none else none else none else none else none else none
  else
  some (.exit (s4, b4060_2, b4060_3, b4188, b36_0, b36_1, b36_2, b420, ()))
def z4j : LSpec := { h := z7y, x := z4k, r := a0, xid := 4, rt := false, pins := [4060, 4188, 36, 420], f := fun k d => z15 k d.1 d.2.1 d.2.2.1 d.2.2.2.1 d.2.2.2.2.1 d.2.2.2.2.2.1 d.2.2.2.2.2.2.1 d.2.2.2.2.2.2.2.1 d.2.2.2.2.2.2.2.2.1 d.2.2.2.2.2.2.2.2.2.1 d.2.2.2.2.2.2.2.2.2.2.1 }
def z0q : Nat -> Nat -> Int -> Int -> Int -> Int -> List (List (Bool × ((List Int) × (List Int)))) -> List Int -> Option (LR z4q a0)
 | 0, _, _, _, _, _, _, _ => none
 | m + 1, s4, s54, s55, b4060_2, b4060_3, b4188, b420 =>
  if decide (s55 < s54) = true then if (0 : Int) <= s55 then if s55 < b420.length then if (0 : Int) <= b420.getD s55.toNat 0 then if b420.getD s55.toNat 0 < (b4188.getD s4 []).length then
  (z2n fuel (((b4188.getD s4 []).getD ((b420.getD s55.toNat 0).toNat) (false, ([], []))).1, (((b4188.getD s4 []).getD ((b420.getD s55.toNat 0).toNat) (false, ([], []))).2))).bind fun r1 =>
  if (r1 == 0) = true then
  z0q m s4 s54 (IntKind.i64.wrap (s55 + 1)) b4060_2 b4060_3 b4188 b420
  else
  match z15 m s4 s55 ((b4188.getD s4 []).length : Int) 0 b4060_2 b4060_3 b4188 (((b4188.getD s4 []).getD ((b420.getD s55.toNat 0).toNat) (false, ([], []))).1) ((((b4188.getD s4 []).getD ((b420.getD s55.toNat 0).toNat) (false, ([], []))).2).1) ((((b4188.getD s4 []).getD ((b420.getD s55.toNat 0).toNat) (false, ([], []))).2).2) b420 with
  | none => none
  | some (.exit d2) =>
   z0q m d2.1 s54 (IntKind.i64.wrap (s55 + 1)) d2.2.1 d2.2.2.1 d2.2.2.2.1 d2.2.2.2.2.2.2.2.1
  | some (.ret d2) =>
   none
  else none else none else none else none
  else
  some (.exit (b4060_2, b4060_3, b4188, b420, ()))
def z4p : LSpec := { h := z8j, x := z4q, r := a0, xid := 2, rt := false, pins := [4060, 4188, 420], f := fun k d => z0q k d.1 d.2.1 d.2.2.1 d.2.2.2.1 d.2.2.2.2.1 d.2.2.2.2.2.1 d.2.2.2.2.2.2.1 }
def z1e : Nat -> Int -> Int -> Int -> Int -> List (List (Bool × ((List Int) × (List Int)))) -> List Int -> Option (LR z50 a0)
 | 0, _, _, _, _, _, _ => none
 | m + 1, s1, s5, b4060_2, b4060_3, b4188, b420 =>
  if decide (s5 < s1) = true then if (0 : Int) <= b4060_3 then if b4060_3 < b4188.length then if (0 : Int) <= s5 then if s5 < (b4188.getD b4060_3.toNat []).length then
  (z2n fuel (((b4188.getD b4060_3.toNat []).getD s5.toNat (false, ([], []))).1, (((b4188.getD b4060_3.toNat []).getD s5.toNat (false, ([], []))).2))).bind fun r1 =>
  if decide (r1 >= 0) = true then
  z1e m s1 (IntKind.i64.wrap (s5 + 1)) b4060_2 b4060_3 b4188 b420
  else
  some (.exit (s5, b4060_2, b4060_3, b4188, b420, ()))
  else none else none else none else none
  else
  some (.exit (s5, b4060_2, b4060_3, b4188, b420, ()))
def z4z : LSpec := { h := z9e, x := z50, r := a0, xid := 2, rt := false, pins := [4060, 4188, 420], f := fun k d => z1e k d.1 d.2.1 d.2.2.1 d.2.2.2.1 d.2.2.2.2.1 d.2.2.2.2.2.1 }
def z0m : Nat -> Int -> Int -> Int -> Int -> Int -> Bool -> List Int -> List Int -> List (List (Bool × ((List Int) × (List Int)))) -> List Int -> Option (LR z2j a0)
 | 0, _, _, _, _, _, _, _, _, _, _ => none
 | m + 1, s1, s28, s29, b4060_2, b4060_3, b4024_0, b4024_1, b4024_2, b4188, b420 =>
  if decide (s29 < s28) = true then if (0 : Int) <= s1 then if s1 < b4188.length then if (0 : Int) <= s1 then if s1 < b4188.length then if (0 : Int) <= s29 then if s29 < (b4188.getD s1.toNat []).length then
  (z5k fuel (((b4188.getD s1.toNat []).getD s29.toNat (false, ([], []))).1, (((b4188.getD s1.toNat []).getD s29.toNat (false, ([], []))).2)) (b4024_0, (b4024_1, b4024_2))).bind fun r1 =>
  if (0 : Int) <= s29 then if s29 < (b4188.getD s1.toNat []).length then
  z0m m s1 s28 (IntKind.i64.wrap (s29 + 1)) b4060_2 b4060_3 b4024_0 b4024_1 b4024_2 (b4188.set s1.toNat ((b4188.getD s1.toNat []).set s29.toNat r1)) b420
  else none else none else none else none else none else none else none else none
  else
  some (.exit (b4060_2, b4060_3, b4024_0, b4024_1, b4024_2, b4188, b420, ()))
def z2i : LSpec := { h := z4e, x := z2j, r := a0, xid := 0, rt := false, pins := [4060, 4024, 4188, 420], f := fun k d => z0m k d.1 d.2.1 d.2.2.1 d.2.2.2.1 d.2.2.2.2.1 d.2.2.2.2.2.1 d.2.2.2.2.2.2.1 d.2.2.2.2.2.2.2.1 d.2.2.2.2.2.2.2.2.1 d.2.2.2.2.2.2.2.2.2.1 }
def z0j : Nat -> Int -> Int -> Int -> Int -> Int -> Int -> Bool -> List Int -> List Int -> List (List (Bool × ((List Int) × (List Int)))) -> List Int -> Option (LR z2h a0)
 | 0, _, _, _, _, _, _, _, _, _, _, _ => none
 | m + 1, s1, s8, s87, s88, b4060_2, b4060_3, b36_0, b36_1, b36_2, b4188, b420 =>
  if decide (s88 < s87) = true then if (0 : Int) <= s8 then if s8 < b4188.length then if (0 : Int) <= s8 then if s8 < b4188.length then if (0 : Int) <= s88 then if s88 < (b4188.getD s8.toNat []).length then if (0 : Int) <= s1 then if s1 < b4188.length then if (0 : Int) <= s88 then if s88 < (b4188.getD s1.toNat []).length then
  (z2o fuel (b36_0, (b36_1, b36_2)) (((b4188.getD s1.toNat []).getD s88.toNat (false, ([], []))).1, (((b4188.getD s1.toNat []).getD s88.toNat (false, ([], []))).2))).bind fun r1 =>
  (z48 fuel (((b4188.getD s8.toNat []).getD s88.toNat (false, ([], []))).1, (((b4188.getD s8.toNat []).getD s88.toNat (false, ([], []))).2)) r1).bind fun r2 =>
  if (0 : Int) <= s88 then if s88 < (b4188.getD s8.toNat []).length then
  z0j m s1 s8 s87 (IntKind.i64.wrap (s88 + 1)) b4060_2 b4060_3 b36_0 b36_1 b36_2 (b4188.set s8.toNat ((b4188.getD s8.toNat []).set s88.toNat r2)) b420
  else none else none else none else none else none else none else none else none else none else none else none else none
  else
  some (.exit (b4060_2, b4060_3, b36_0, b36_1, b36_2, b4188, b420, ()))
def z2g : LSpec := { h := z49, x := z2h, r := a0, xid := 4, rt := false, pins := [4060, 36, 4188, 420], f := fun k d => z0j k d.1 d.2.1 d.2.2.1 d.2.2.2.1 d.2.2.2.2.1 d.2.2.2.2.2.1 d.2.2.2.2.2.2.1 d.2.2.2.2.2.2.2.1 d.2.2.2.2.2.2.2.2.1 d.2.2.2.2.2.2.2.2.2.1 d.2.2.2.2.2.2.2.2.2.2.1 }
def z08 : Nat -> Int -> Int -> Int -> Int -> Int -> Int -> List (List (Bool × ((List Int) × (List Int)))) -> List Int -> Option (LR z2l a0)
 | 0, _, _, _, _, _, _, _, _ => none
 | m + 1, s1, s2, s58, s59, b4060_2, b4060_3, b4188, b420 =>
  if decide (s59 < s58) = true then if (0 : Int) <= s59 then if s59 < b4188.length then if (0 : Int) <= s2 then if s2 < (b4188.getD s59.toNat []).length then if (s59 == s1) = false then
  (z2n fuel (((b4188.getD s59.toNat []).getD s2.toNat (false, ([], []))).1, (((b4188.getD s59.toNat []).getD s2.toNat (false, ([], []))).2))).bind fun r1 =>
  if (r1 == 0) = true then
  z08 m s1 s2 s58 (IntKind.i64.wrap (s59 + 1)) b4060_2 b4060_3 b4188 b420
  else
  if (0 : Int) <= s59 then if s59 < b4188.length then
  match z0j m s1 s59 ((b4188.getD s59.toNat []).length : Int) 0 b4060_2 b4060_3 (((b4188.getD s59.toNat []).getD s2.toNat (false, ([], []))).1) ((((b4188.getD s59.toNat []).getD s2.toNat (false, ([], []))).2).1) ((((b4188.getD s59.toNat []).getD s2.toNat (false, ([], []))).2).2) b4188 b420 with
  | none => none
  | some (.exit d2) =>
   z08 m s1 s2 s58 (IntKind.i64.wrap (s59 + 1)) d2.1 d2.2.1 d2.2.2.2.2.2.1 d2.2.2.2.2.2.2.1
  | some (.ret d2) =>
   none
  else none else none
  else
  z08 m s1 s2 s58 (IntKind.i64.wrap (s59 + 1)) b4060_2 b4060_3 b4188 b420
  else none else none else none else none
  else
  some (.exit (b4060_2, b4060_3, b4188, b420, ()))
def z2k : LSpec := { h := z4f, x := z2l, r := a0, xid := 2, rt := false, pins := [4060, 4188, 420], f := fun k d => z08 k d.1 d.2.1 d.2.2.1 d.2.2.2.1 d.2.2.2.2.1 d.2.2.2.2.2.1 d.2.2.2.2.2.2.1 d.2.2.2.2.2.2.2.1 }
def z12 : Nat -> Int -> Int -> Int -> List (List (Bool × ((List Int) × (List Int)))) -> List Int -> Option (LR a0 z4y)
 | 0, _, _, _, _, _ => none
 | m + 1, s1, b4060_2, b4060_3, b4188, b420 =>
  match z1e m s1 0 b4060_2 b4060_3 b4188 b420 with
  | none => none
  | some (.exit d1) =>
   if (d1.1 == s1) = true then
   some (.ret ((-1), d1.2.1, d1.2.2.1, d1.2.2.2.1, d1.2.2.2.2.1, ()))
   else
   (z37 fuel (d1.2.2.2.1, (d1.2.2.2.2.1, (d1.2.1, d1.2.2.1))) d1.1).bind fun r2 =>
   if decide (r2 < 0) = true then
   some (.ret (d1.1, d1.2.1, d1.2.2.1, d1.2.2.2.1, d1.2.2.2.2.1, ()))
   else
   if (0 : Int) <= r2 then if r2 < d1.2.2.2.1.length then if (0 : Int) <= d1.1 then if d1.1 < (d1.2.2.2.1.getD r2.toNat []).length then if (0 : Int) <= r2 then if r2 < d1.2.2.2.1.length then
   match z0m m r2 ((d1.2.2.2.1.getD r2.toNat []).length : Int) 0 d1.2.1 d1.2.2.1 (((d1.2.2.2.1.getD r2.toNat []).getD d1.1.toNat (false, ([], []))).1) ((((d1.2.2.2.1.getD r2.toNat []).getD d1.1.toNat (false, ([], []))).2).1) ((((d1.2.2.2.1.getD r2.toNat []).getD d1.1.toNat (false, ([], []))).2).2) d1.2.2.2.1 d1.2.2.2.2.1 with
   | none => none
   | some (.exit d3) =>
    match z08 m r2 d1.1 (d3.2.2.2.2.2.1.length : Int) 0 d3.1 d3.2.1 d3.2.2.2.2.2.1 d3.2.2.2.2.2.2.1 with
    | none => none
    | some (.exit d4) =>
     if (0 : Int) <= r2 then if r2 < d4.2.2.2.1.length then
     z12 m s1 d4.1 d4.2.1 d4.2.2.1 (d4.2.2.2.1.set r2.toNat d1.1)
     else none else none
    | some (.ret d4) =>
     none
   | some (.ret d3) =>
    none
   else none else none else none else none else none else none
  | some (.ret d1) =>
   none
def z4x : LSpec := { h := z9d, x := a0, r := z4y, xid := 0, rt := true, pins := [4060, 4188, 420], f := fun k d => z12 k d.1 d.2.1 d.2.2.1 d.2.2.2.1 d.2.2.2.2.1 }
def z0l : Nat -> Int -> Int -> Int -> Int -> List (Bool × ((List Int) × (List Int))) -> List Int -> List (List (Bool × ((List Int) × (List Int)))) -> Option (LR z42 a0)
 | 0, _, _, _, _, _, _, _ => none
 | m + 1, s15, s16, b4060_2, b4060_3, b4040, b420, b4188 =>
  if decide (s16 < s15) = true then if (0 : Int) <= s16 then if s16 < b420.length then if decide (b420.getD s16.toNat 0 < b4060_2) = true then if (0 : Int) <= s16 then if s16 < b4188.length then
  (z1n fuel (b4188, (b420, (b4060_2, b4060_3)))).bind fun r1 =>
  if (0 : Int) <= r1 then if r1 < (b4188.getD s16.toNat []).length then if (0 : Int) <= b420.getD s16.toNat 0 then if b420.getD s16.toNat 0 < b4040.length then
  z0l m s15 (IntKind.i64.wrap (s16 + 1)) b4060_2 b4060_3 (b4040.set ((b420.getD s16.toNat 0).toNat) (((b4188.getD s16.toNat []).getD r1.toNat (false, ([], []))).1, (((b4188.getD s16.toNat []).getD r1.toNat (false, ([], []))).2))) b420 b4188
  else none else none else none else none else none else none
  else
  z0l m s15 (IntKind.i64.wrap (s16 + 1)) b4060_2 b4060_3 b4040 b420 b4188
  else none else none
  else
  some (.exit (b4040, b4060_2, b4060_3, b420, b4188, ()))
def z41 : LSpec := { h := z78, x := z42, r := a0, xid := 0, rt := false, pins := [4060, 4040, 420, 4188], f := fun k d => z0l k d.1 d.2.1 d.2.2.1 d.2.2.2.1 d.2.2.2.2.1 d.2.2.2.2.2.1 d.2.2.2.2.2.2.1 }
def z1k : Nat -> Int -> Int -> Int -> Int -> Int -> List (Bool × ((List Int) × (List Int))) -> List Int -> List (List (Bool × ((List Int) × (List Int)))) -> Option (LR zr7 a0)
 | 0, _, _, _, _, _, _, _, _ => none
 | m + 1, s6, s131, s132, b4060_2, b4060_3, b464, b420, b4188 =>
  if decide (s132 < s131) = true then if (0 : Int) <= s132 then if s132 < b420.length then if decide (b420.getD s132.toNat 0 < b4060_2) = true then if (0 : Int) <= s132 then if s132 < b4188.length then if (0 : Int) <= s6 then if s6 < (b4188.getD s132.toNat []).length then
  (z9x fuel (((b4188.getD s132.toNat []).getD s6.toNat (false, ([], []))).1, (((b4188.getD s132.toNat []).getD s6.toNat (false, ([], []))).2))).bind fun r1 =>
  if (0 : Int) <= b420.getD s132.toNat 0 then if b420.getD s132.toNat 0 < b464.length then
  z1k m s6 s131 (IntKind.i64.wrap (s132 + 1)) b4060_2 b4060_3 (b464.set ((b420.getD s132.toNat 0).toNat) r1) b420 b4188
  else none else none else none else none else none else none
  else
  z1k m s6 s131 (IntKind.i64.wrap (s132 + 1)) b4060_2 b4060_3 b464 b420 b4188
  else none else none
  else
  some (.exit (b464, b4060_2, b4060_3, b420, b4188, ()))
def zr6 : LSpec := { h := y5q, x := zr7, r := a0, xid := 0, rt := false, pins := [4060, 464, 420, 4188], f := fun k d => z1k k d.1 d.2.1 d.2.2.1 d.2.2.2.1 d.2.2.2.2.1 d.2.2.2.2.2.1 d.2.2.2.2.2.2.1 d.2.2.2.2.2.2.2.1 }
def z0f : Nat -> Int -> Int -> List (Bool × ((List Int) × (List Int))) -> List (Bool × ((List Int) × (List Int))) -> Option (LR z28 a0)
 | 0, _, _, _, _ => none
 | m + 1, s23, s24, b8084, b4268 =>
  if decide (s24 < s23) = true then if (0 : Int) <= s24 then if s24 < b4268.length then
  (z9x fuel ((b4268.getD s24.toNat (false, ([], []))).1, ((b4268.getD s24.toNat (false, ([], []))).2))).bind fun r1 =>
  if (0 : Int) <= s24 then if s24 < b8084.length then
  z0f m s23 (IntKind.i64.wrap (s24 + 1)) (b8084.set s24.toNat r1) b4268
  else none else none else none else none
  else
  some (.exit (b8084, b4268, ()))
def z27 : LSpec := { h := z3v, x := z28, r := a0, xid := 0, rt := false, pins := [8084, 4268], f := fun k d => z0f k d.1 d.2.1 d.2.2.1 d.2.2.2.1 }
def z0e : Nat -> Nat -> Int -> Int -> Int -> Int -> Int -> List (List (Bool × ((List Int) × (List Int)))) -> Bool -> List Int -> List Int -> List Int -> Option (LR z21 a0)
 | 0, _, _, _, _, _, _, _, _, _, _, _ => none
 | m + 1, s4, s7, s68, s69, b4060_2, b4060_3, b8188, b36_0, b36_1, b36_2, b420 =>
  if decide (s69 < s68) = true then if (0 : Int) <= s69 then if s69 < (b8188.getD s4 []).length then if (0 : Int) <= s7 then if s7 < b8188.length then if (0 : Int) <= s69 then if s69 < (b8188.getD s7.toNat []).length then
  (z2o fuel (b36_0, (b36_1, b36_2)) (((b8188.getD s7.toNat []).getD s69.toNat (false, ([], []))).1, (((b8188.getD s7.toNat []).getD s69.toNat (false, ([], []))).2))).bind fun r1 =>
  (z48 fuel (((b8188.getD s4 []).getD s69.toNat (false, ([], []))).1, (((b8188.getD s4 []).getD s69.toNat (false, ([], []))).2)) r1).bind fun r2 =>
  if (0 : Int) <= s69 then if s69 < (b8188.getD s4 []).length then
  z0e m s4 s7 s68 (IntKind.i64.wrap (s69 + 1)) b4060_2 b4060_3 (b8188.set s4 ((b8188.getD s4 []).set s69.toNat r2)) b36_0 b36_1 b36_2 b420
  else none else none else none else none else none else none else none else none
  else
  some (.exit (s4, b4060_2, b4060_3, b8188, b36_0, b36_1, b36_2, b420, ()))
def z20 : LSpec := { h := z3q, x := z21, r := a0, xid := 4, rt := false, pins := [4060, 8188, 36, 420], f := fun k d => z0e k d.1 d.2.1 d.2.2.1 d.2.2.2.1 d.2.2.2.2.1 d.2.2.2.2.2.1 d.2.2.2.2.2.2.1 d.2.2.2.2.2.2.2.1 d.2.2.2.2.2.2.2.2.1 d.2.2.2.2.2.2.2.2.2.1 d.2.2.2.2.2.2.2.2.2.2.1 }
def z0a : Nat -> Nat -> Int -> Int -> Int -> Int -> List (List (Bool × ((List Int) × (List Int)))) -> List Int -> Option (LR z2a a0)
 | 0, _, _, _, _, _, _, _ => none
 | m + 1, s4, s54, s55, b4060_2, b4060_3, b8188, b420 =>
  if decide (s55 < s54) = true then if (0 : Int) <= s55 then if s55 < b420.length then if (0 : Int) <= b420.getD s55.toNat 0 then if b420.getD s55.toNat 0 < (b8188.getD s4 []).length then
  (z2n fuel (((b8188.getD s4 []).getD ((b420.getD s55.toNat 0).toNat) (false, ([], []))).1, (((b8188.getD s4 []).getD ((b420.getD s55.toNat 0).toNat) (false, ([], []))).2))).bind fun r1 =>
  if (r1 == 0) = true then
  z0a m s4 s54 (IntKind.i64.wrap (s55 + 1)) b4060_2 b4060_3 b8188 b420
  else
  match z0e m s4 s55 ((b8188.getD s4 []).length : Int) 0 b4060_2 b4060_3 b8188 (((b8188.getD s4 []).getD ((b420.getD s55.toNat 0).toNat) (false, ([], []))).1) ((((b8188.getD s4 []).getD ((b420.getD s55.toNat 0).toNat) (false, ([], []))).2).1) ((((b8188.getD s4 []).getD ((b420.getD s55.toNat 0).toNat) (false, ([], []))).2).2) b420 with
  | none => none
  | some (.exit d2) =>
   z0a m d2.1 s54 (IntKind.i64.wrap (s55 + 1)) d2.2.1 d2.2.2.1 d2.2.2.2.1 d2.2.2.2.2.2.2.2.1
  | some (.ret d2) =>
   none
  else none else none else none else none
  else
  some (.exit (b4060_2, b4060_3, b8188, b420, ()))
def z29 : LSpec := { h := z3w, x := z2a, r := a0, xid := 2, rt := false, pins := [4060, 8188, 420], f := fun k d => z0a k d.1 d.2.1 d.2.2.1 d.2.2.2.1 d.2.2.2.2.1 d.2.2.2.2.2.1 d.2.2.2.2.2.2.1 }
def z09 : Nat -> Int -> Int -> Int -> Int -> Int -> Bool -> List Int -> List Int -> List (List (Bool × ((List Int) × (List Int)))) -> List Int -> Option (LR z23 a0)
 | 0, _, _, _, _, _, _, _, _, _, _ => none
 | m + 1, s1, s28, s29, b4060_2, b4060_3, b8024_0, b8024_1, b8024_2, b8188, b420 =>
  if decide (s29 < s28) = true then if (0 : Int) <= s1 then if s1 < b8188.length then if (0 : Int) <= s1 then if s1 < b8188.length then if (0 : Int) <= s29 then if s29 < (b8188.getD s1.toNat []).length then
  (z5k fuel (((b8188.getD s1.toNat []).getD s29.toNat (false, ([], []))).1, (((b8188.getD s1.toNat []).getD s29.toNat (false, ([], []))).2)) (b8024_0, (b8024_1, b8024_2))).bind fun r1 =>
  if (0 : Int) <= s29 then if s29 < (b8188.getD s1.toNat []).length then
  z09 m s1 s28 (IntKind.i64.wrap (s29 + 1)) b4060_2 b4060_3 b8024_0 b8024_1 b8024_2 (b8188.set s1.toNat ((b8188.getD s1.toNat []).set s29.toNat r1)) b420
  else none else none else none else none else none else none else none else none
  else
  some (.exit (b4060_2, b4060_3, b8024_0, b8024_1, b8024_2, b8188, b420, ()))
def z22 : LSpec := { h := z3r, x := z23, r := a0, xid := 0, rt := false, pins := [4060, 8024, 8188, 420], f := fun k d => z09 k d.1 d.2.1 d.2.2.1 d.2.2.2.1 d.2.2.2.2.1 d.2.2.2.2.2.1 d.2.2.2.2.2.2.1 d.2.2.2.2.2.2.2.1 d.2.2.2.2.2.2.2.2.1 d.2.2.2.2.2.2.2.2.2.1 }
def z0b : Nat -> Int -> Int -> Int -> Int -> Int -> Int -> Bool -> List Int -> List Int -> List (List (Bool × ((List Int) × (List Int)))) -> List Int -> Option (LR z1y a0)
 | 0, _, _, _, _, _, _, _, _, _, _, _ => none
 | m + 1, s1, s8, s87, s88, b4060_2, b4060_3, b36_0, b36_1, b36_2, b8188, b420 =>
  if decide (s88 < s87) = true then if (0 : Int) <= s8 then if s8 < b8188.length then if (0 : Int) <= s8 then if s8 < b8188.length then if (0 : Int) <= s88 then if s88 < (b8188.getD s8.toNat []).length then if (0 : Int) <= s1 then if s1 < b8188.length then if (0 : Int) <= s88 then if s88 < (b8188.getD s1.toNat []).length then
  (z2o fuel (b36_0, (b36_1, b36_2)) (((b8188.getD s1.toNat []).getD s88.toNat (false, ([], []))).1, (((b8188.getD s1.toNat []).getD s88.toNat (false, ([], []))).2))).bind fun r1 =>
  (z48 fuel (((b8188.getD s8.toNat []).getD s88.toNat (false, ([], []))).1, (((b8188.getD s8.toNat []).getD s88.toNat (false, ([], []))).2)) r1).bind fun r2 =>
  if (0 : Int) <= s88 then if s88 < (b8188.getD s8.toNat []).length then
  z0b m s1 s8 s87 (IntKind.i64.wrap (s88 + 1)) b4060_2 b4060_3 b36_0 b36_1 b36_2 (b8188.set s8.toNat ((b8188.getD s8.toNat []).set s88.toNat r2)) b420
  else none else none else none else none else none else none else none else none else none else none else none else none
  else
  some (.exit (b4060_2, b4060_3, b36_0, b36_1, b36_2, b8188, b420, ()))
def z1x : LSpec := { h := z3j, x := z1y, r := a0, xid := 4, rt := false, pins := [4060, 36, 8188, 420], f := fun k d => z0b k d.1 d.2.1 d.2.2.1 d.2.2.2.1 d.2.2.2.2.1 d.2.2.2.2.2.1 d.2.2.2.2.2.2.1 d.2.2.2.2.2.2.2.1 d.2.2.2.2.2.2.2.2.1 d.2.2.2.2.2.2.2.2.2.1 d.2.2.2.2.2.2.2.2.2.2.1 }
def z04 : Nat -> Int -> Int -> Int -> Int -> Int -> Int -> List (List (Bool × ((List Int) × (List Int)))) -> List Int -> Option (LR z25 a0)
 | 0, _, _, _, _, _, _, _, _ => none
 | m + 1, s1, s2, s58, s59, b4060_2, b4060_3, b8188, b420 =>
  if decide (s59 < s58) = true then if (0 : Int) <= s59 then if s59 < b8188.length then if (0 : Int) <= s2 then if s2 < (b8188.getD s59.toNat []).length then if (s59 == s1) = false then
  (z2n fuel (((b8188.getD s59.toNat []).getD s2.toNat (false, ([], []))).1, (((b8188.getD s59.toNat []).getD s2.toNat (false, ([], []))).2))).bind fun r1 =>
  if (r1 == 0) = true then
  z04 m s1 s2 s58 (IntKind.i64.wrap (s59 + 1)) b4060_2 b4060_3 b8188 b420
  else
  if (0 : Int) <= s59 then if s59 < b8188.length then
  match z0b m s1 s59 ((b8188.getD s59.toNat []).length : Int) 0 b4060_2 b4060_3 (((b8188.getD s59.toNat []).getD s2.toNat (false, ([], []))).1) ((((b8188.getD s59.toNat []).getD s2.toNat (false, ([], []))).2).1) ((((b8188.getD s59.toNat []).getD s2.toNat (false, ([], []))).2).2) b8188 b420 with
  | none => none
  | some (.exit d2) =>
   z04 m s1 s2 s58 (IntKind.i64.wrap (s59 + 1)) d2.1 d2.2.1 d2.2.2.2.2.2.1 d2.2.2.2.2.2.2.1
  | some (.ret d2) =>
   none
  else none else none
  else
  z04 m s1 s2 s58 (IntKind.i64.wrap (s59 + 1)) b4060_2 b4060_3 b8188 b420
  else none else none else none else none
  else
  some (.exit (b4060_2, b4060_3, b8188, b420, ()))
def z24 : LSpec := { h := z3s, x := z25, r := a0, xid := 2, rt := false, pins := [4060, 8188, 420], f := fun k d => z04 k d.1 d.2.1 d.2.2.1 d.2.2.2.1 d.2.2.2.2.1 d.2.2.2.2.2.1 d.2.2.2.2.2.2.1 d.2.2.2.2.2.2.2.1 }
def z0g : Nat -> Int -> Int -> Int -> Int -> List (List (Bool × ((List Int) × (List Int)))) -> List Int -> Option (LR z2f a0)
 | 0, _, _, _, _, _, _ => none
 | m + 1, s1, s5, b4060_2, b4060_3, b8188, b420 =>
  if decide (s5 < s1) = true then if (0 : Int) <= b4060_3 then if b4060_3 < b8188.length then if (0 : Int) <= s5 then if s5 < (b8188.getD b4060_3.toNat []).length then
  (z2n fuel (((b8188.getD b4060_3.toNat []).getD s5.toNat (false, ([], []))).1, (((b8188.getD b4060_3.toNat []).getD s5.toNat (false, ([], []))).2))).bind fun r1 =>
  if decide (r1 >= 0) = true then
  z0g m s1 (IntKind.i64.wrap (s5 + 1)) b4060_2 b4060_3 b8188 b420
  else
  some (.exit (s5, b4060_2, b4060_3, b8188, b420, ()))
  else none else none else none else none
  else
  some (.exit (s5, b4060_2, b4060_3, b8188, b420, ()))
def z2e : LSpec := { h := z45, x := z2f, r := a0, xid := 2, rt := false, pins := [4060, 8188, 420], f := fun k d => z0g k d.1 d.2.1 d.2.2.1 d.2.2.2.1 d.2.2.2.2.1 d.2.2.2.2.2.1 }
def z06 : Nat -> Int -> Int -> Int -> Int -> Int -> Bool -> List Int -> List Int -> List (List (Bool × ((List Int) × (List Int)))) -> List Int -> Option (LR z1a a0)
 | 0, _, _, _, _, _, _, _, _, _, _ => none
 | m + 1, s1, s28, s29, b4060_2, b4060_3, b4024_0, b4024_1, b4024_2, b8188, b420 =>
  if decide (s29 < s28) = true then if (0 : Int) <= s1 then if s1 < b8188.length then if (0 : Int) <= s1 then if s1 < b8188.length then if (0 : Int) <= s29 then if s29 < (b8188.getD s1.toNat []).length then
  (z5k fuel (((b8188.getD s1.toNat []).getD s29.toNat (false, ([], []))).1, (((b8188.getD s1.toNat []).getD s29.toNat (false, ([], []))).2)) (b4024_0, (b4024_1, b4024_2))).bind fun r1 =>
  if (0 : Int) <= s29 then if s29 < (b8188.getD s1.toNat []).length then
  z06 m s1 s28 (IntKind.i64.wrap (s29 + 1)) b4060_2 b4060_3 b4024_0 b4024_1 b4024_2 (b8188.set s1.toNat ((b8188.getD s1.toNat []).set s29.toNat r1)) b420
  else none else none else none else none else none else none else none else none
  else
  some (.exit (b4060_2, b4060_3, b4024_0, b4024_1, b4024_2, b8188, b420, ()))
def z19 : LSpec := { h := z2t, x := z1a, r := a0, xid := 0, rt := false, pins := [4060, 4024, 8188, 420], f := fun k d => z06 k d.1 d.2.1 d.2.2.1 d.2.2.2.1 d.2.2.2.2.1 d.2.2.2.2.2.1 d.2.2.2.2.2.2.1 d.2.2.2.2.2.2.2.1 d.2.2.2.2.2.2.2.2.1 d.2.2.2.2.2.2.2.2.2.1 }
def z05 : Nat -> Int -> Int -> Int -> Int -> Int -> Int -> Bool -> List Int -> List Int -> List (List (Bool × ((List Int) × (List Int)))) -> List Int -> Option (LR z18 a0)
 | 0, _, _, _, _, _, _, _, _, _, _, _ => none
 | m + 1, s1, s8, s87, s88, b4060_2, b4060_3, b36_0, b36_1, b36_2, b8188, b420 =>
  if decide (s88 < s87) = true then if (0 : Int) <= s8 then if s8 < b8188.length then if (0 : Int) <= s8 then if s8 < b8188.length then if (0 : Int) <= s88 then if s88 < (b8188.getD s8.toNat []).length then if (0 : Int) <= s1 then if s1 < b8188.length then if (0 : Int) <= s88 then if s88 < (b8188.getD s1.toNat []).length then
  (z2o fuel (b36_0, (b36_1, b36_2)) (((b8188.getD s1.toNat []).getD s88.toNat (false, ([], []))).1, (((b8188.getD s1.toNat []).getD s88.toNat (false, ([], []))).2))).bind fun r1 =>
  (z48 fuel (((b8188.getD s8.toNat []).getD s88.toNat (false, ([], []))).1, (((b8188.getD s8.toNat []).getD s88.toNat (false, ([], []))).2)) r1).bind fun r2 =>
  if (0 : Int) <= s88 then if s88 < (b8188.getD s8.toNat []).length then
  z05 m s1 s8 s87 (IntKind.i64.wrap (s88 + 1)) b4060_2 b4060_3 b36_0 b36_1 b36_2 (b8188.set s8.toNat ((b8188.getD s8.toNat []).set s88.toNat r2)) b420
  else none else none else none else none else none else none else none else none else none else none else none else none
  else
  some (.exit (b4060_2, b4060_3, b36_0, b36_1, b36_2, b8188, b420, ()))
def z17 : LSpec := { h := z2q, x := z18, r := a0, xid := 4, rt := false, pins := [4060, 36, 8188, 420], f := fun k d => z05 k d.1 d.2.1 d.2.2.1 d.2.2.2.1 d.2.2.2.2.1 d.2.2.2.2.2.1 d.2.2.2.2.2.2.1 d.2.2.2.2.2.2.2.1 d.2.2.2.2.2.2.2.2.1 d.2.2.2.2.2.2.2.2.2.1 d.2.2.2.2.2.2.2.2.2.2.1 }
def z02 : Nat -> Int -> Int -> Int -> Int -> Int -> Int -> List (List (Bool × ((List Int) × (List Int)))) -> List Int -> Option (LR z1c a0)
 | 0, _, _, _, _, _, _, _, _ => none
 | m + 1, s1, s2, s58, s59, b4060_2, b4060_3, b8188, b420 =>
  if decide (s59 < s58) = true then if (0 : Int) <= s59 then if s59 < b8188.length then if (0 : Int) <= s2 then if s2 < (b8188.getD s59.toNat []).length then if (s59 == s1) = false then
  (z2n fuel (((b8188.getD s59.toNat []).getD s2.toNat (false, ([], []))).1, (((b8188.getD s59.toNat []).getD s2.toNat (false, ([], []))).2))).bind fun r1 =>
  if (r1 == 0) = true then
  z02 m s1 s2 s58 (IntKind.i64.wrap (s59 + 1)) b4060_2 b4060_3 b8188 b420
  else
  if (0 : Int) <= s59 then if s59 < b8188.length then
  match z05 m s1 s59 ((b8188.getD s59.toNat []).length : Int) 0 b4060_2 b4060_3 (((b8188.getD s59.toNat []).getD s2.toNat (false, ([], []))).1) ((((b8188.getD s59.toNat []).getD s2.toNat (false, ([], []))).2).1) ((((b8188.getD s59.toNat []).getD s2.toNat (false, ([], []))).2).2) b8188 b420 with
  | none => none
  | some (.exit d2) =>
   z02 m s1 s2 s58 (IntKind.i64.wrap (s59 + 1)) d2.1 d2.2.1 d2.2.2.2.2.2.1 d2.2.2.2.2.2.2.1
  | some (.ret d2) =>
   none
  else none else none
  else
  z02 m s1 s2 s58 (IntKind.i64.wrap (s59 + 1)) b4060_2 b4060_3 b8188 b420
  else none else none else none else none
  else
  some (.exit (b4060_2, b4060_3, b8188, b420, ()))
def z1b : LSpec := { h := z2u, x := z1c, r := a0, xid := 2, rt := false, pins := [4060, 8188, 420], f := fun k d => z02 k d.1 d.2.1 d.2.2.1 d.2.2.2.1 d.2.2.2.2.1 d.2.2.2.2.2.1 d.2.2.2.2.2.2.1 d.2.2.2.2.2.2.2.1 }
def z0p : Nat -> Int -> Int -> Int -> List (List (Bool × ((List Int) × (List Int)))) -> List Int -> Option (LR a0 z2d)
 | 0, _, _, _, _, _ => none
 | m + 1, s1, b4060_2, b4060_3, b8188, b420 =>
  match z0g m s1 0 b4060_2 b4060_3 b8188 b420 with
  | none => none
  | some (.exit d1) =>
   if (d1.1 == s1) = true then
   some (.ret ((-1), d1.2.1, d1.2.2.1, d1.2.2.2.1, d1.2.2.2.2.1, ()))
   else
   (z37 fuel (d1.2.2.2.1, (d1.2.2.2.2.1, (d1.2.1, d1.2.2.1))) d1.1).bind fun r2 =>
   if decide (r2 < 0) = true then
   some (.ret (d1.1, d1.2.1, d1.2.2.1, d1.2.2.2.1, d1.2.2.2.2.1, ()))
   else
   if (0 : Int) <= r2 then if r2 < d1.2.2.2.1.length then if (0 : Int) <= d1.1 then if d1.1 < (d1.2.2.2.1.getD r2.toNat []).length then if (0 : Int) <= r2 then if r2 < d1.2.2.2.1.length then
   match z06 m r2 ((d1.2.2.2.1.getD r2.toNat []).length : Int) 0 d1.2.1 d1.2.2.1 (((d1.2.2.2.1.getD r2.toNat []).getD d1.1.toNat (false, ([], []))).1) ((((d1.2.2.2.1.getD r2.toNat []).getD d1.1.toNat (false, ([], []))).2).1) ((((d1.2.2.2.1.getD r2.toNat []).getD d1.1.toNat (false, ([], []))).2).2) d1.2.2.2.1 d1.2.2.2.2.1 with
   | none => none
   | some (.exit d3) =>
    match z02 m r2 d1.1 (d3.2.2.2.2.2.1.length : Int) 0 d3.1 d3.2.1 d3.2.2.2.2.2.1 d3.2.2.2.2.2.2.1 with
    | none => none
    | some (.exit d4) =>
     if (0 : Int) <= r2 then if r2 < d4.2.2.2.1.length then
     z0p m s1 d4.1 d4.2.1 d4.2.2.1 (d4.2.2.2.1.set r2.toNat d1.1)
     else none else none
    | some (.ret d4) =>
     none
   | some (.ret d3) =>
    none
   else none else none else none else none else none else none
  | some (.ret d1) =>
   none
def z2c : LSpec := { h := z44, x := a0, r := z2d, xid := 0, rt := true, pins := [4060, 8188, 420], f := fun k d => z0p k d.1 d.2.1 d.2.2.1 d.2.2.2.1 d.2.2.2.2.1 }
def z10 : Nat -> Int -> Int -> Int -> Int -> Int -> List (List (Bool × ((List Int) × (List Int)))) -> List Int -> Option (LR z3p a0)
 | 0, _, _, _, _, _, _, _ => none
 | m + 1, s8, s112, s113, b4060_2, b4060_3, b8188, b420 =>
  if decide (s113 < s112) = true then if (0 : Int) <= s8 then if s8 < b8188.length then if (0 : Int) <= s113 then if s113 < (b8188.getD s8.toNat []).length then
  (z2n fuel (((b8188.getD s8.toNat []).getD s113.toNat (false, ([], []))).1, (((b8188.getD s8.toNat []).getD s113.toNat (false, ([], []))).2))).bind fun r1 =>
  if (r1 != 0) = true then if (0 : Int) <= s8 then if s8 < b8188.length then if (0 : Int) <= s113 then if s113 < (b8188.getD s8.toNat []).length then if (0 : Int) <= s8 then if s8 < b8188.length then
  match z09 m s8 ((b8188.getD s8.toNat []).length : Int) 0 b4060_2 b4060_3 (((b8188.getD s8.toNat []).getD s113.toNat (false, ([], []))).1) ((((b8188.getD s8.toNat []).getD s113.toNat (false, ([], []))).2).1) ((((b8188.getD s8.toNat []).getD s113.toNat (false, ([], []))).2).2) b8188 b420 with
  | none => none
  | some (.exit d2) =>
   match z04 m s8 s113 (d2.2.2.2.2.2.1.length : Int) 0 d2.1 d2.2.1 d2.2.2.2.2.2.1 d2.2.2.2.2.2.2.1 with
   | none => none
   | some (.exit d3) =>
    if (0 : Int) <= s8 then if s8 < d3.2.2.2.1.length then
    some (.exit (d3.1, d3.2.1, d3.2.2.1, d3.2.2.2.1.set s8.toNat s113, ()))
    else none else none
   | some (.ret d3) =>
    none
  | some (.ret d2) =>
   none
  else none else none else none else none else none else none
  else
  z10 m s8 s112 (IntKind.i64.wrap (s113 + 1)) b4060_2 b4060_3 b8188 b420
  else none else none else none else none
  else
  some (.exit (b4060_2, b4060_3, b8188, b420, ()))
def z3o : LSpec := { h := z6z, x := z3p, r := a0, xid := 4, rt := false, pins := [4060, 8188, 420], f := fun k d => z10 k d.1 d.2.1 d.2.2.1 d.2.2.2.1 d.2.2.2.2.1 d.2.2.2.2.2.1 d.2.2.2.2.2.2.1 }
def z0s : Nat -> Int -> Int -> Int -> Int -> Int -> List Int -> List (List (Bool × ((List Int) × (List Int)))) -> Option (LR z3n a0)
 | 0, _, _, _, _, _, _, _ => none
 | m + 1, s4, s103, s104, b4060_2, b4060_3, b420, b8188 =>
  if decide (s104 < s103) = true then if (0 : Int) <= s104 then if s104 < b420.length then if (b420.getD s104.toNat 0 != s4) = true then
  z0s m s4 s103 (IntKind.i64.wrap (s104 + 1)) b4060_2 b4060_3 b420 b8188
  else
  match z10 m s104 s4 0 b4060_2 b4060_3 b8188 b420 with
  | none => none
  | some (.exit d1) =>
   z0s m s4 s103 (IntKind.i64.wrap (s104 + 1)) d1.1 d1.2.1 d1.2.2.2.1 d1.2.2.1
  | some (.ret d1) =>
   none
  else none else none
  else
  some (.exit (b4060_2, b4060_3, b420, b8188, ()))
def z3m : LSpec := { h := z6y, x := z3n, r := a0, xid := 2, rt := false, pins := [4060, 420, 8188], f := fun k d => z0s k d.1 d.2.1 d.2.2.1 d.2.2.2.1 d.2.2.2.2.1 d.2.2.2.2.2.1 d.2.2.2.2.2.2.1 }
def ya9 : z1u := [([79, 49], [(4, z62)]), ([80, 49], [(3, z3z), (19, z3m), (23, z3o)]), ([82, 49], [(2, z4n), (8, z4p), (13, z4j)]), ([83, 49], [(1, z4x), (2, z4z)]), ([99, 83, 49], [(2, z2i), (7, z2k), (12, z2g)]), ([84, 49], [(3, z41)]), ([49], [(16, zr6)]), ([82, 80, 49], [(2, z27), (8, z29), (13, z20)]), ([99, 80, 49], [(2, z22), (7, z24), (12, z1x)]), ([83, 80, 49], [(1, z2c), (2, z2e)]), ([99, 83, 80, 49], [(2, z19), (7, z1b), (12, z17)])]
def zd8 (k : Nat) (a0 : (List (List ByteArray)) × ((List ByteArray) × (List ByteArray))) : Option ((Int × ((List ByteArray) × ((List ByteArray) × ((List ByteArray) × ByteArray)))) × Int) :=
 (z6m fuel a0).bind fun r1 =>
 if (r1 != 0) = true then
 some ((0, ([], ([], ([], ByteArray.empty)))), r1)
 else
 (z67 fuel a0.1).bind fun r2 =>
 (z2m fuel a0.2.1).bind fun r3 =>
 match z1s k (a0.1.length : Int) 0 (a0.2.2.length : Int) (a0.1.length : Int) r2 r3 [] [] with
 | none => none
 | some (.exit d4) =>
  match z0k k (-1) d4.2.1 0 d4.1 d4.2.1 d4.2.2.2.2.1 d4.2.2.2.2.2.1 with
  | none => none
  | some (.exit d5) =>
   if decide (d5.1 < 0) = true then
   (z2m fuel a0.2.2).bind fun r6 =>
   if (0 : Int) <= IntKind.i64.wrap ((IntKind.i64.wrap (d5.2.1 + d5.2.2.1)) + 2) then if IntKind.i64.wrap ((IntKind.i64.wrap (d5.2.1 + d5.2.2.1)) + 2) <= IntKind.i64.wrap ((IntKind.i64.wrap (d5.2.1 + d5.2.2.1)) + 2) then if (IntKind.i64.wrap ((IntKind.i64.wrap (d5.2.1 + d5.2.2.1)) + 2)) * 56 <= 281474976710656 then
   match z0t k (r6.length : Int) 0 (List.replicate ((IntKind.i64.wrap ((IntKind.i64.wrap (d5.2.1 + d5.2.2.1)) + 2)).toNat) ((false, ([], [])) : Bool × ((List Int) × (List Int)))) r6 with
   | none => none
   | some (.exit d7) =>
    if (0 : Int) <= d5.2.2.1 then if d5.2.2.1 <= d5.2.2.2.1.length then if ((d5.2.2.2.1.take d5.2.2.1.toNat).length + 1) * 24 <= 140737488355328 then
    match z0q k ((d5.2.2.2.1.take d5.2.2.1.toNat).length) (d5.2.2.2.2.1.length : Int) 0 d5.2.1 d5.2.2.1 ((d5.2.2.2.1.take d5.2.2.1.toNat) ++ [d7.1]) d5.2.2.2.2.1 with
    | none => none
    | some (.exit d8) =>
     match z12 k (IntKind.i64.wrap (d8.1 + d8.2.1)) d8.1 d8.2.1 d8.2.2.1 d8.2.2.2.1 with
     | none => none
     | some (.exit d9) =>
      none
     | some (.ret d9) =>
      if (0 : Int) <= d9.2.1 then if d9.2.1 <= d9.2.1 then if d9.2.1 * 56 <= 281474976710656 then
      match z0l k (d9.2.2.2.2.1.length : Int) 0 d9.2.1 d9.2.2.1 (List.replicate d9.2.1.toNat ((false, ([], [])) : Bool × ((List Int) × (List Int)))) d9.2.2.2.2.1 d9.2.2.2.1 with
      | none => none
      | some (.exit d10) =>
       if decide (d9.1 < 0) = true then if (0 : Int) <= d10.2.2.1 then if d10.2.2.1 < d10.2.2.2.2.1.length then if (0 : Int) <= IntKind.i64.wrap (d10.2.1 + d10.2.2.1) then if IntKind.i64.wrap (d10.2.1 + d10.2.2.1) <= (d10.2.2.2.2.1.getD d10.2.2.1.toNat []).length then if (0 : Int) <= d10.2.1 then if d10.2.1 <= IntKind.i64.wrap (d10.2.1 + d10.2.2.1) then if (0 : Int) <= d10.2.2.1 then if d10.2.2.1 < d10.2.2.2.2.1.length then
       (z1n fuel (d10.2.2.2.2.1, (d10.2.2.2.1, (d10.2.1, d10.2.2.1)))).bind fun r11 =>
       if (0 : Int) <= r11 then if r11 < (d10.2.2.2.2.1.getD d10.2.2.1.toNat []).length then
       (z14 fuel 0 d10.1 (((d10.2.2.2.2.1.getD d10.2.2.1.toNat []).take (IntKind.i64.wrap (d10.2.1 + d10.2.2.1)).toNat).drop d10.2.1.toNat) [] (((d10.2.2.2.2.1.getD d10.2.2.1.toNat []).getD r11.toNat (false, ([], []))).1, (((d10.2.2.2.2.1.getD d10.2.2.1.toNat []).getD r11.toNat (false, ([], []))).2))).bind fun r12 =>
       some (r12.1, r12.2)
       else none else none else none else none else none else none else none else none else none else none
       else
       if (0 : Int) <= d10.2.1 then if d10.2.1 <= d10.2.1 then if d10.2.1 * 56 <= 281474976710656 then if decide (d9.1 < d10.2.1) = true then
       (z6k fuel 1).bind fun r13 =>
       if (0 : Int) <= d9.1 then if d9.1 < (List.replicate d10.2.1.toNat ((false, ([], [])) : Bool × ((List Int) × (List Int)))).length then
       match z1k k d9.1 (d10.2.2.2.1.length : Int) 0 d10.2.1 d10.2.2.1 ((List.replicate d10.2.1.toNat ((false, ([], [])) : Bool × ((List Int) × (List Int)))).set d9.1.toNat r13) d10.2.2.2.1 d10.2.2.2.2.1 with
       | none => none
       | some (.exit d14) =>
        (z14 fuel 2 d10.1 [] d14.1 (false, ([], []))).bind fun r15 =>
        some (r15.1, r15.2)
       | some (.ret d14) =>
        none
       else none else none
       else
       match z1k k d9.1 (d10.2.2.2.1.length : Int) 0 d10.2.1 d10.2.2.1 (List.replicate d10.2.1.toNat ((false, ([], [])) : Bool × ((List Int) × (List Int)))) d10.2.2.2.1 d10.2.2.2.2.1 with
       | none => none
       | some (.exit d16) =>
        (z14 fuel 2 d10.1 [] d16.1 (false, ([], []))).bind fun r17 =>
        some (r17.1, r17.2)
       | some (.ret d16) =>
        none
       else none else none else none
      | some (.ret d10) =>
       none
      else none else none else none
    | some (.ret d8) =>
     none
    else none else none else none
   | some (.ret d7) =>
    none
   else none else none else none
   else
   if (0 : Int) <= IntKind.i64.wrap ((IntKind.i64.wrap (d4.1 + d4.2.1)) + 1) then if IntKind.i64.wrap ((IntKind.i64.wrap (d4.1 + d4.2.1)) + 1) <= IntKind.i64.wrap ((IntKind.i64.wrap (d4.1 + d4.2.1)) + 1) then if (IntKind.i64.wrap ((IntKind.i64.wrap (d4.1 + d4.2.1)) + 1)) * 56 <= 281474976710656 then
   (z6k fuel (-1)).bind fun r18 =>
   if (0 : Int) <= IntKind.i64.wrap (d4.1 + d4.2.1) then if IntKind.i64.wrap (d4.1 + d4.2.1) < (List.replicate ((IntKind.i64.wrap ((IntKind.i64.wrap (d4.1 + d4.2.1)) + 1)).toNat) ((false, ([], [])) : Bool × ((List Int) × (List Int)))).length then if (0 : Int) <= IntKind.i64.wrap ((IntKind.i64.wrap (d5.2.1 + d5.2.2.1)) + 2) then if IntKind.i64.wrap ((IntKind.i64.wrap (d5.2.1 + d5.2.2.1)) + 2) <= IntKind.i64.wrap ((IntKind.i64.wrap (d5.2.1 + d5.2.2.1)) + 2) then if (IntKind.i64.wrap ((IntKind.i64.wrap (d5.2.1 + d5.2.2.1)) + 2)) * 56 <= 281474976710656 then
   match z0f k (((List.replicate ((IntKind.i64.wrap ((IntKind.i64.wrap (d4.1 + d4.2.1)) + 1)).toNat) ((false, ([], [])) : Bool × ((List Int) × (List Int)))).set ((IntKind.i64.wrap (d4.1 + d4.2.1)).toNat) r18).length : Int) 0 (List.replicate ((IntKind.i64.wrap ((IntKind.i64.wrap (d5.2.1 + d5.2.2.1)) + 2)).toNat) ((false, ([], [])) : Bool × ((List Int) × (List Int)))) ((List.replicate ((IntKind.i64.wrap ((IntKind.i64.wrap (d4.1 + d4.2.1)) + 1)).toNat) ((false, ([], [])) : Bool × ((List Int) × (List Int)))).set ((IntKind.i64.wrap (d4.1 + d4.2.1)).toNat) r18) with
   | none => none
   | some (.exit d19) =>
    if (0 : Int) <= d5.2.2.1 then if d5.2.2.1 <= d5.2.2.2.1.length then if ((d5.2.2.2.1.take d5.2.2.1.toNat).length + 1) * 24 <= 140737488355328 then
    match z0a k ((d5.2.2.2.1.take d5.2.2.1.toNat).length) (d5.2.2.2.2.1.length : Int) 0 d5.2.1 d5.2.2.1 ((d5.2.2.2.1.take d5.2.2.1.toNat) ++ [d19.1]) d5.2.2.2.2.1 with
    | none => none
    | some (.exit d20) =>
     if (0 : Int) <= d5.1 then if d5.1 < d20.2.2.1.length then if (0 : Int) <= IntKind.i64.wrap (d4.1 + d4.2.1) then if IntKind.i64.wrap (d4.1 + d4.2.1) < (d20.2.2.1.getD d5.1.toNat []).length then if (0 : Int) <= d5.1 then if d5.1 < d20.2.2.1.length then
     match z09 k d5.1 ((d20.2.2.1.getD d5.1.toNat []).length : Int) 0 d20.1 d20.2.1 (((d20.2.2.1.getD d5.1.toNat []).getD ((IntKind.i64.wrap (d4.1 + d4.2.1)).toNat) (false, ([], []))).1) ((((d20.2.2.1.getD d5.1.toNat []).getD ((IntKind.i64.wrap (d4.1 + d4.2.1)).toNat) (false, ([], []))).2).1) ((((d20.2.2.1.getD d5.1.toNat []).getD ((IntKind.i64.wrap (d4.1 + d4.2.1)).toNat) (false, ([], []))).2).2) d20.2.2.1 d20.2.2.2.1 with
     | none => none
     | some (.exit d21) =>
      match z04 k d5.1 (IntKind.i64.wrap (d4.1 + d4.2.1)) (d21.2.2.2.2.2.1.length : Int) 0 d21.1 d21.2.1 d21.2.2.2.2.2.1 d21.2.2.2.2.2.2.1 with
      | none => none
      | some (.exit d22) =>
       if (0 : Int) <= d5.1 then if d5.1 < d22.2.2.2.1.length then
       match z0p k (IntKind.i64.wrap ((IntKind.i64.wrap (d4.1 + d4.2.1)) + 1)) d22.1 d22.2.1 d22.2.2.1 (d22.2.2.2.1.set d5.1.toNat (IntKind.i64.wrap (d4.1 + d4.2.1))) with
       | none => none
       | some (.exit d23) =>
        none
       | some (.ret d23) =>
        if (0 : Int) <= d23.2.2.1 then if d23.2.2.1 < d23.2.2.2.1.length then
        (z1n fuel (d23.2.2.2.1, (d23.2.2.2.2.1, (d23.2.1, d23.2.2.1)))).bind fun r24 =>
        if (0 : Int) <= r24 then if r24 < (d23.2.2.2.1.getD d23.2.2.1.toNat []).length then
        (z2n fuel (((d23.2.2.2.1.getD d23.2.2.1.toNat []).getD r24.toNat (false, ([], []))).1, (((d23.2.2.2.1.getD d23.2.2.1.toNat []).getD r24.toNat (false, ([], []))).2))).bind fun r25 =>
        if decide (r25 < 0) = true then if (0 : Int) <= d23.2.2.1 then if d23.2.2.1 < d23.2.2.2.1.length then if (0 : Int) <= IntKind.i64.wrap (d23.2.1 + d23.2.2.1) then if IntKind.i64.wrap (d23.2.1 + d23.2.2.1) <= (d23.2.2.2.1.getD d23.2.2.1.toNat []).length then if (0 : Int) <= d23.2.1 then if d23.2.1 <= IntKind.i64.wrap (d23.2.1 + d23.2.2.1) then
        (z14 fuel 1 [] (((d23.2.2.2.1.getD d23.2.2.1.toNat []).take (IntKind.i64.wrap (d23.2.1 + d23.2.2.1)).toNat).drop d23.2.1.toNat) [] (false, ([], []))).bind fun r26 =>
        some (r26.1, r26.2)
        else none else none else none else none else none else none
        else
        match z0s k (IntKind.i64.wrap (d4.1 + d4.2.1)) (d23.2.2.2.2.1.length : Int) 0 d23.2.1 d23.2.2.1 d23.2.2.2.2.1 d23.2.2.2.1 with
        | none => none
        | some (.exit d27) =>
         (z2m fuel a0.2.2).bind fun r28 =>
         if (0 : Int) <= IntKind.i64.wrap ((IntKind.i64.wrap (d27.1 + d27.2.1)) + 2) then if IntKind.i64.wrap ((IntKind.i64.wrap (d27.1 + d27.2.1)) + 2) <= IntKind.i64.wrap ((IntKind.i64.wrap (d27.1 + d27.2.1)) + 2) then if (IntKind.i64.wrap ((IntKind.i64.wrap (d27.1 + d27.2.1)) + 2)) * 56 <= 281474976710656 then
         match z0t k (r28.length : Int) 0 (List.replicate ((IntKind.i64.wrap ((IntKind.i64.wrap (d27.1 + d27.2.1)) + 2)).toNat) ((false, ([], [])) : Bool × ((List Int) × (List Int)))) r28 with
         | none => none
         | some (.exit d29) =>
          if (0 : Int) <= d27.2.1 then if d27.2.1 <= d27.2.2.2.1.length then if ((d27.2.2.2.1.take d27.2.1.toNat).length + 1) * 24 <= 140737488355328 then
          match z0q k ((d27.2.2.2.1.take d27.2.1.toNat).length) (d27.2.2.1.length : Int) 0 d27.1 d27.2.1 ((d27.2.2.2.1.take d27.2.1.toNat) ++ [d29.1]) d27.2.2.1 with
          | none => none
          | some (.exit d30) =>
           match z12 k (IntKind.i64.wrap (d30.1 + d30.2.1)) d30.1 d30.2.1 d30.2.2.1 d30.2.2.2.1 with
           | none => none
           | some (.exit d31) =>
            none
           | some (.ret d31) =>
            if (0 : Int) <= d31.2.1 then if d31.2.1 <= d31.2.1 then if d31.2.1 * 56 <= 281474976710656 then
            match z0l k (d31.2.2.2.2.1.length : Int) 0 d31.2.1 d31.2.2.1 (List.replicate d31.2.1.toNat ((false, ([], [])) : Bool × ((List Int) × (List Int)))) d31.2.2.2.2.1 d31.2.2.2.1 with
            | none => none
            | some (.exit d32) =>
             if decide (d31.1 < 0) = true then if (0 : Int) <= d32.2.2.1 then if d32.2.2.1 < d32.2.2.2.2.1.length then if (0 : Int) <= IntKind.i64.wrap (d32.2.1 + d32.2.2.1) then if IntKind.i64.wrap (d32.2.1 + d32.2.2.1) <= (d32.2.2.2.2.1.getD d32.2.2.1.toNat []).length then if (0 : Int) <= d32.2.1 then if d32.2.1 <= IntKind.i64.wrap (d32.2.1 + d32.2.2.1) then if (0 : Int) <= d32.2.2.1 then if d32.2.2.1 < d32.2.2.2.2.1.length then
             (z1n fuel (d32.2.2.2.2.1, (d32.2.2.2.1, (d32.2.1, d32.2.2.1)))).bind fun r33 =>
             if (0 : Int) <= r33 then if r33 < (d32.2.2.2.2.1.getD d32.2.2.1.toNat []).length then
             (z14 fuel 0 d32.1 (((d32.2.2.2.2.1.getD d32.2.2.1.toNat []).take (IntKind.i64.wrap (d32.2.1 + d32.2.2.1)).toNat).drop d32.2.1.toNat) [] (((d32.2.2.2.2.1.getD d32.2.2.1.toNat []).getD r33.toNat (false, ([], []))).1, (((d32.2.2.2.2.1.getD d32.2.2.1.toNat []).getD r33.toNat (false, ([], []))).2))).bind fun r34 =>
             some (r34.1, r34.2)
             else none else none else none else none else none else none else none else none else none else none
             else
             if (0 : Int) <= d32.2.1 then if d32.2.1 <= d32.2.1 then if d32.2.1 * 56 <= 281474976710656 then if decide (d31.1 < d32.2.1) = true then
             (z6k fuel 1).bind fun r35 =>
             if (0 : Int) <= d31.1 then if d31.1 < (List.replicate d32.2.1.toNat ((false, ([], [])) : Bool × ((List Int) × (List Int)))).length then
             match z1k k d31.1 (d32.2.2.2.1.length : Int) 0 d32.2.1 d32.2.2.1 ((List.replicate d32.2.1.toNat ((false, ([], [])) : Bool × ((List Int) × (List Int)))).set d31.1.toNat r35) d32.2.2.2.1 d32.2.2.2.2.1 with
             | none => none
             | some (.exit d36) =>
              (z14 fuel 2 d32.1 [] d36.1 (false, ([], []))).bind fun r37 =>
              some (r37.1, r37.2)
             | some (.ret d36) =>
              none
             else none else none
             else
             match z1k k d31.1 (d32.2.2.2.1.length : Int) 0 d32.2.1 d32.2.2.1 (List.replicate d32.2.1.toNat ((false, ([], [])) : Bool × ((List Int) × (List Int)))) d32.2.2.2.1 d32.2.2.2.2.1 with
             | none => none
             | some (.exit d38) =>
              (z14 fuel 2 d32.1 [] d38.1 (false, ([], []))).bind fun r39 =>
              some (r39.1, r39.2)
             | some (.ret d38) =>
              none
             else none else none else none
            | some (.ret d32) =>
             none
            else none else none else none
          | some (.ret d30) =>
           none
          else none else none else none
         | some (.ret d29) =>
          none
         else none else none else none
        | some (.ret d27) =>
         none
        else none else none else none else none else none else none
      | some (.ret d22) =>
       none
     | some (.ret d21) =>
      none
     else none else none else none else none else none else none
    | some (.ret d20) =>
     none
    else none else none else none
   | some (.ret d19) =>
    none
   else none else none else none else none else none else none else none else none
  | some (.ret d5) =>
   none
 | some (.ret d4) =>
  none
def y1a (k : Nat) : Vm.Spec := { ps := [.pair (.slice (.slice .str)) (.pair (.slice .str) (.slice .str))], rs := [.imm (.pair (.int .i64) (.pair (.slice .str) (.pair (.slice .str) (.pair (.slice .str) .str)))), .imm (.int .i64)], f := fun x => zd8 k x }
noncomputable def y21 : Vm.Spec := y1a fuel
theorem y2g : Vm.Spec.holds Tryz.prog 49 y21 := z0u (E := yd8) (L := ya9) (fn := Tryz.f49) (Z := y1a) (z1g ok) (z0o (by exact ⟨⟨by kernel_rfl, z5v⟩, ⟨by kernel_rfl, z6i⟩, ⟨by kernel_rfl, y2d⟩, ⟨by kernel_rfl, zg6⟩, ⟨by kernel_rfl, zg5⟩, ⟨by kernel_rfl, z6l⟩, ⟨by kernel_rfl, z5f⟩, ⟨by kernel_rfl, zz2⟩, ⟨by kernel_rfl, z4l⟩, ⟨by kernel_rfl, y2f⟩, ⟨by kernel_rfl, y1q⟩, ⟨by kernel_rfl, z8p⟩, ⟨by kernel_rfl, zk6⟩, trivial⟩)) z0v (z7p (by exact ⟨by kernel_rfl, by kernel_rfl, by kernel_rfl, by kernel_rfl, by kernel_rfl, by kernel_rfl, by kernel_rfl, by kernel_rfl, by kernel_rfl, by kernel_rfl, by kernel_rfl, by kernel_rfl, trivial⟩)) (z3b (by exact ⟨(z26 [[49]] (by exact ⟨z0h (ls := [(4, z62)]) rfl rfl ⟨by kernel_rfl, fun _ => rfl, fun _ _ => by kernel_rfl, z0i (by kernel_rfl)⟩,  trivial⟩) rfl), (z26 [[49]] (by exact ⟨z0h (ls := [(3, z3z), (19, z3m), (23, z3o)]) rfl rfl ⟨by kernel_rfl, fun _ => rfl, fun _ _ => by kernel_rfl, by kernel_rfl, fun _ => rfl, fun _ _ => by kernel_rfl, by kernel_rfl, fun _ => rfl, fun _ _ => by kernel_rfl, z0i (by kernel_rfl)⟩,  trivial⟩) rfl), (z26 [[49], [80, 49]] (by exact ⟨z0h (ls := [(2, z4n), (8, z4p), (13, z4j)]) rfl rfl ⟨by kernel_rfl, fun _ => rfl, fun _ _ => by kernel_rfl, by kernel_rfl, fun _ => rfl, fun _ _ => by kernel_rfl, by kernel_rfl, fun _ => rfl, fun _ _ => by kernel_rfl, z0i (by kernel_rfl)⟩, z0h (ls := [(2, z27), (8, z29), (13, z20)]) rfl rfl ⟨by kernel_rfl, fun _ => rfl, fun _ _ => by kernel_rfl, by kernel_rfl, fun _ => rfl, fun _ _ => by kernel_rfl, by kernel_rfl, fun _ => rfl, fun _ _ => by kernel_rfl, z0i (by kernel_rfl)⟩,  trivial⟩) rfl), (z26 [[49], [80, 49]] (by exact ⟨z0h (ls := [(1, z4x), (2, z4z)]) rfl rfl ⟨by kernel_rfl, fun _ => rfl, fun _ _ => by kernel_rfl, by kernel_rfl, fun _ => rfl, fun _ _ => by kernel_rfl, z0i (by kernel_rfl)⟩, z0h (ls := [(1, z2c), (2, z2e)]) rfl rfl ⟨by kernel_rfl, fun _ => rfl, fun _ _ => by kernel_rfl, by kernel_rfl, fun _ => rfl, fun _ _ => by kernel_rfl, z0i (by kernel_rfl)⟩,  trivial⟩) rfl), (z26 [[49]] (by exact ⟨z0h (ls := [(3, z41)]) rfl rfl ⟨by kernel_rfl, fun _ => rfl, fun _ _ => by kernel_rfl, z0i (by kernel_rfl)⟩,  trivial⟩) rfl), (z26 [[83, 49], [80, 49], [83, 80, 49]] (by exact ⟨z0h (ls := [(2, z2i), (7, z2k), (12, z2g)]) rfl rfl ⟨by kernel_rfl, fun _ => rfl, fun _ _ => by kernel_rfl, by kernel_rfl, fun _ => rfl, fun _ _ => by kernel_rfl, by kernel_rfl, fun _ => rfl, fun _ _ => by kernel_rfl, z0i (by kernel_rfl)⟩, z0h (ls := [(2, z22), (7, z24), (12, z1x)]) rfl rfl ⟨by kernel_rfl, fun _ => rfl, fun _ _ => by kernel_rfl, by kernel_rfl, fun _ => rfl, fun _ _ => by kernel_rfl, by kernel_rfl, fun _ => rfl, fun _ _ => by kernel_rfl, z0i (by kernel_rfl)⟩, z0h (ls := [(2, z19), (7, z1b), (12, z17)]) rfl rfl ⟨by kernel_rfl, fun _ => rfl, fun _ _ => by kernel_rfl, by kernel_rfl, fun _ => rfl, fun _ _ => by kernel_rfl, by kernel_rfl, fun _ => rfl, fun _ _ => by kernel_rfl, z0i (by kernel_rfl)⟩,  trivial⟩) rfl),  trivial⟩)) (by kernel_rfl) (by kernel_rfl) (z0h (ls := [(16, zr6)]) rfl rfl ⟨by kernel_rfl, fun _ => rfl, fun _ _ => by kernel_rfl, z0i (by kernel_rfl)⟩) fun k x => by kernel_rfl
noncomputable def w7h : Env := { te := te, spec := [(59, zp0), (86, zn8)], body := [] }
def w3j : z1u := []
def z8a (k : Nat) (a0 : Bool × ((List Int) × (List Int))) : Option (ByteArray × Int) :=
 (z88 fuel a0).bind fun r1 =>
 if (r1 != 0) = true then
 some ((⟨#[]⟩ : ByteArray), r1)
 else
 (z7t fuel a0).bind fun r2 =>
 some (r2, 0)
def yf3 (k : Nat) : Vm.Spec := { ps := [qT], rs := [.imm .str, .imm (.int .i64)], f := fun x => z8a k x }
noncomputable def zy1 : Vm.Spec := yf3 fuel
theorem z9q : Vm.Spec.holds Tryz.prog 54 zy1 := z0u (E := w7h) (L := w3j) (fn := Tryz.f54) (Z := yf3) (z1g ok) (z0o (by exact ⟨⟨by kernel_rfl, z89⟩, ⟨by kernel_rfl, z73⟩, trivial⟩)) z0v (z07 rfl) (z01 rfl) (by kernel_rfl) (by kernel_rfl) (z0n rfl) fun k x => by kernel_rfl
noncomputable def yd5 : Env := { te := te, spec := [(9, z5h), (25, zn2), (43, ye7), (44, y0m), (46, z9s), (47, y1x), (48, zp1), (49, y21), (50, y0l), (52, zg3), (53, zi3), (54, zy1), (57, z9t), (63, z7o)], body := [(42, Tryz.f42), (45, Tryz.f45), (51, Tryz.f51)], rows := true }
def zl0 : Ann := { slots := [(3, .one (.grd 64 qT)), (6, .one (.val (.slice (.slice .str)))), (7, .one (.val (.int .i64))), (8, .one (.val (.int .i64)))], objs := [(64, .mat qT)] }
def z76 : Ann := { slots := [(3, .one (.grd 64 qT))], objs := [(64, .mat qT)] }
def z7l : List (Nat × OSh) := [(4012, .box [.val .bool, .val (.slice (.int .u32)), .val (.slice (.int .u32))]), (64, .mat qT)]
def ze8 : Ann := { slots := [(3, .one (.fix (.pbox 4012 0))), (19, .one (.row 64 qT)), (20, .one (.val (.int .i64))), (21, .one (.val (.int .i64)))], objs := z7l }
def z60 : Ann := { slots := [(3, .one (.fix (.pbox 4012 0)))], objs := z7l }
def ze7 : Ann := { slots := [(3, .one (.fix (.pbox 4012 0))), (13, .one (.grd 64 qT)), (14, .one (.val (.int .i64))), (15, .one (.val (.int .i64)))], objs := z7l }
def z5y : Ann := { slots := [(3, .one (.fix (.pbox 4012 0)))], objs := z7l }
def z7m : List (Nat × OSh) := [(64, .mat qT), (28, .box [.val .bool, .val (.slice (.int .u32)), .val (.slice (.int .u32))])]
def y5n : Ann := { slots := [(6, .one (.grd 64 qT)), (7, .one (.fix (.pbox 28 0))), (8, .one (.val (.int .i64))), (38, .one (.val (.int .i64))), (39, .one (.val (.int .i64)))], objs := z7m }
def zr0 : Ann := { slots := [(6, .one (.grd 64 qT)), (7, .one (.fix (.pbox 28 0)))], objs := z7m }
def y70 : Ann := { slots := [(6, .one (.grd 64 qT)), (7, .one (.fix (.pbox 28 0))), (30, .one (.val (.int .i64))), (31, .one (.val (.int .i64)))], objs := z7m }
def zv1 : Ann := { slots := [(6, .one (.grd 64 qT)), (7, .one (.fix (.pbox 28 0)))], objs := z7m }
def y7c : List (Nat × OSh) := [(56, .box [.val .bool, .val (.slice (.int .u32)), .val (.slice (.int .u32))]), (80, .buf qT)]
def z9z : Ann := { slots := [(1, .one (.fix (.pbox 56 0))), (5, .one (.own 80 qT)), (8, .one (.val (.slice .str))), (9, .one (.val (.int .i64))), (10, .one (.val (.int .i64)))], objs := y7c }
def y7d : List (Nat × OSh) := [(80, .buf qT), (56, .box [.val .bool, .val (.slice (.int .u32)), .val (.slice (.int .u32))])]
def z5m : Ann := { slots := [(5, .one (.own 80 qT))], objs := y7d }
def z2b : Nat -> List (List ByteArray) -> Int -> Int -> List (List (Bool × ((List Int) × (List Int)))) -> Option (LR z76 a0)
 | 0, _, _, _, _ => none
 | m + 1, s6, s7, s8, b64 =>
  if decide (s8 < s7) = true then if (0 : Int) <= s8 then if s8 < s6.length then
  (z2m fuel (s6.getD s8.toNat [])).bind fun r1 =>
  if (b64.length + 1) * 24 <= 140737488355328 then
  z2b m s6 s7 (IntKind.i64.wrap (s8 + 1)) (b64 ++ [r1])
  else none else none else none
  else
  some (.exit (b64, ()))
def z75 : LSpec := { h := zl0, x := z76, r := a0, xid := 0, rt := false, pins := [], f := fun k d => z2b k d.1 d.2.1 d.2.2.1 d.2.2.2.1 }
def z1d : Nat -> Nat -> Int -> Int -> Bool -> List Int -> List Int -> List (List (Bool × ((List Int) × (List Int)))) -> Option (LR z60 a0)
 | 0, _, _, _, _, _, _, _ => none
 | m + 1, s19, s20, s21, b4012_0, b4012_1, b4012_2, b64 =>
  if decide (s21 < s20) = true then if (0 : Int) <= s21 then if s21 < (b64.getD s19 []).length then
  (z4u fuel (((b64.getD s19 []).getD s21.toNat (false, ([], []))).1, (((b64.getD s19 []).getD s21.toNat (false, ([], []))).2)) (b4012_0, (b4012_1, b4012_2))).bind fun r1 =>
  if decide (r1 < 0) = true then
  z1d m s19 s20 (IntKind.i64.wrap (s21 + 1)) (((b64.getD s19 []).getD s21.toNat (false, ([], []))).1) ((((b64.getD s19 []).getD s21.toNat (false, ([], []))).2).1) ((((b64.getD s19 []).getD s21.toNat (false, ([], []))).2).2) b64
  else
  z1d m s19 s20 (IntKind.i64.wrap (s21 + 1)) b4012_0 b4012_1 b4012_2 b64
  else none else none
  else
  some (.exit (b4012_0, b4012_1, b4012_2, b64, ()))
def z5z : LSpec := { h := ze8, x := z60, r := a0, xid := 2, rt := false, pins := [4012, 64], f := fun k d => z1d k d.1 d.2.1 d.2.2.1 d.2.2.2.1 d.2.2.2.2.1 d.2.2.2.2.2.1 d.2.2.2.2.2.2.1 }
def z1r : Nat -> Int -> Int -> Bool -> List Int -> List Int -> List (List (Bool × ((List Int) × (List Int)))) -> Option (LR z5y a0)
 | 0, _, _, _, _, _, _ => none
 | m + 1, s14, s15, b4012_0, b4012_1, b4012_2, b64 =>
  if decide (s15 < s14) = true then if (0 : Int) <= s15 then if s15 < b64.length then
  match z1d m s15.toNat ((b64.getD s15.toNat []).length : Int) 0 b4012_0 b4012_1 b4012_2 b64 with
  | none => none
  | some (.exit d1) =>
   z1r m s14 (IntKind.i64.wrap (s15 + 1)) d1.1 d1.2.1 d1.2.2.1 d1.2.2.2.1
  | some (.ret d1) =>
   none
  else none else none
  else
  some (.exit (b4012_0, b4012_1, b4012_2, b64, ()))
def z5x : LSpec := { h := ze7, x := z5y, r := a0, xid := 0, rt := false, pins := [4012, 64], f := fun k d => z1r k d.1 d.2.1 d.2.2.1 d.2.2.2.1 d.2.2.2.2.1 d.2.2.2.2.2.1 }
def z4m : Nat -> Int -> Int -> Int -> List (List (Bool × ((List Int) × (List Int)))) -> Bool -> List Int -> List Int -> Option (LR zr0 a0)
 | 0, _, _, _, _, _, _, _ => none
 | m + 1, s8, s38, s39, b64, b28_0, b28_1, b28_2 =>
  if decide (s39 < s38) = true then if (0 : Int) <= s8 then if s8 < b64.length then if (0 : Int) <= s8 then if s8 < b64.length then if (0 : Int) <= s39 then if s39 < (b64.getD s8.toNat []).length then
  (z5j fuel (((b64.getD s8.toNat []).getD s39.toNat (false, ([], []))).1, (((b64.getD s8.toNat []).getD s39.toNat (false, ([], []))).2)) (b28_0, (b28_1, b28_2))).bind fun r1 =>
  if (0 : Int) <= s39 then if s39 < (b64.getD s8.toNat []).length then
  z4m m s8 s38 (IntKind.i64.wrap (s39 + 1)) (b64.set s8.toNat ((b64.getD s8.toNat []).set s39.toNat r1)) b28_0 b28_1 b28_2
  else none else none else none else none else none else none else none else none
  else
  some (.exit (b64, b28_0, b28_1, b28_2, ()))
def zq9 : LSpec := { h := y5n, x := zr0, r := a0, xid := 2, rt := false, pins := [64, 28], f := fun k d => z4m k d.1 d.2.1 d.2.2.1 d.2.2.2.1 d.2.2.2.2.1 d.2.2.2.2.2.1 d.2.2.2.2.2.2.1 }
def z5g : Nat -> Int -> Int -> List (List (Bool × ((List Int) × (List Int)))) -> Bool -> List Int -> List Int -> Option (LR zv1 a0)
 | 0, _, _, _, _, _, _ => none
 | m + 1, s30, s31, b64, b28_0, b28_1, b28_2 =>
  if decide (s31 < s30) = true then if (0 : Int) <= s31 then if s31 < b64.length then
  match z4m m s31 ((b64.getD s31.toNat []).length : Int) 0 b64 b28_0 b28_1 b28_2 with
  | none => none
  | some (.exit d1) =>
   z5g m s30 (IntKind.i64.wrap (s31 + 1)) d1.1 d1.2.1 d1.2.2.1 d1.2.2.2.1
  | some (.ret d1) =>
   none
  else none else none
  else
  some (.exit (b64, b28_0, b28_1, b28_2, ()))
def zv0 : LSpec := { h := y70, x := zv1, r := a0, xid := 0, rt := false, pins := [64, 28], f := fun k d => z5g k d.1 d.2.1 d.2.2.1 d.2.2.2.1 d.2.2.2.2.1 d.2.2.2.2.2.1 }
def z0y : Nat -> List ByteArray -> Int -> Int -> Bool -> List Int -> List Int -> List (Bool × ((List Int) × (List Int))) -> Option (LR z5m a0)
 | 0, _, _, _, _, _, _, _ => none
 | m + 1, s8, s9, s10, b56_0, b56_1, b56_2, b80 =>
  if decide (s10 < s9) = true then if (0 : Int) <= s10 then if s10 < s8.length then
  (z7j fuel (s8.getD s10.toNat ByteArray.empty)).bind fun r1 =>
  (z2o fuel r1 (b56_0, (b56_1, b56_2))).bind fun r2 =>
  if (b80.length + 1) * 56 <= 140737488355328 then
  z0y m s8 s9 (IntKind.i64.wrap (s10 + 1)) b56_0 b56_1 b56_2 (b80 ++ [r2])
  else none else none else none
  else
  some (.exit (b80, b56_0, b56_1, b56_2, ()))
def z5l : LSpec := { h := z9z, x := z5m, r := a0, xid := 0, rt := false, pins := [56], f := fun k d => z0y k d.1 d.2.1 d.2.2.1 d.2.2.2.1 d.2.2.2.2.1 d.2.2.2.2.2.1 d.2.2.2.2.2.2.1 }
def ya6 : z1u := [([42, 12], [(3, z75)]), ([45, 12], [(3, z5x), (6, z5z)]), ([12], [(8, zv0), (11, zq9)]), ([51, 12], [(3, z5l)])]
def z6h (k : Nat) (a0 : List (List ByteArray)) : Option ((ByteArray × ((List ByteArray) × (List ByteArray))) × Int) :=
 (z1z fuel a0).bind fun r1 =>
 if (r1 != 0) = true then
 some ((ByteArray.empty, ([], [])), r1)
 else
 match z2b k a0 (a0.length : Int) 0 [] with
 | none => none
 | some (.exit d2) =>
  (z6k fuel 1).bind fun r3 =>
  if (0 : Int) < d2.1.length then if (0 : Int) < (d2.1.getD 0 []).length then
  match z1r k (d2.1.length : Int) 0 (((d2.1.getD 0 []).getD 0 (false, ([], []))).1) ((((d2.1.getD 0 []).getD 0 (false, ([], []))).2).1) ((((d2.1.getD 0 []).getD 0 (false, ([], []))).2).2) d2.1 with
  | none => none
  | some (.exit d4) =>
   (z48 fuel r3 (d4.1, (d4.2.1, d4.2.2.1))).bind fun r5 =>
   match z5g k (d4.2.2.2.1.length : Int) 0 d4.2.2.2.1 r5.1 r5.2.1 r5.2.2 with
   | none => none
   | some (.exit d6) =>
    (z6j fuel d6.1).bind fun r7 =>
    if (r7.2 != 0) = true then
    some ((ByteArray.empty, ([], [])), r7.2)
    else
    if (0 : Int) < a0.length then
    (z1w fuel [(⟨#[49]⟩ : ByteArray)] (a0.length : Int)).bind fun r8 =>
    (z1w fuel [(⟨#[49]⟩ : ByteArray)] ((a0.getD 0 []).length : Int)).bind fun r9 =>
    (zd8 fuel (r7.1, (r8, r9))).bind fun r10 =>
    if (r10.2 != 0) = true then
    some ((ByteArray.empty, ([], [])), r10.2)
    else
    (z6k fuel 1).bind fun r11 =>
    (z7j fuel r10.1.2.2.2.2).bind fun r12 =>
    (z5k fuel r11 r12).bind fun r13 =>
    match z0y k r10.1.2.2.1 (r10.1.2.2.1.length : Int) 0 r13.1 r13.2.1 r13.2.2 [] with
    | none => none
    | some (.exit d14) =>
     (z3h fuel d14.1).bind fun r15 =>
     if (r15.2 != 0) = true then
     some ((ByteArray.empty, ([], [])), r15.2)
     else
     match z0y k r10.1.2.1 (r10.1.2.1.length : Int) 0 d14.2.1 d14.2.2.1 d14.2.2.2.1 [] with
     | none => none
     | some (.exit d16) =>
      (z3h fuel d16.1).bind fun r17 =>
      if (r17.2 != 0) = true then
      some ((ByteArray.empty, ([], [])), r17.2)
      else
      (z48 fuel (d16.2.1, (d16.2.2.1, d16.2.2.2.1)) (d6.2.1, (d6.2.2.1, d6.2.2.2.1))).bind fun r18 =>
      (z8a fuel r18).bind fun r19 =>
      if (r19.2 != 0) = true then
      some ((ByteArray.empty, ([], [])), r19.2)
      else
      some ((r19.1, (r15.1, r17.1)), 0)
     | some (.ret d16) =>
      none
    | some (.ret d14) =>
     none
    else none
   | some (.ret d6) =>
    none
  | some (.ret d4) =>
   none
  else none else none
 | some (.ret d2) =>
  none
def y17 (k : Nat) : Vm.Spec := { ps := [.slice (.slice .str)], rs := [.imm (.pair .str (.pair (.slice .str) (.slice .str))), .imm (.int .i64)], f := fun x => z6h k x }
noncomputable def zo6 : Vm.Spec := y17 fuel
theorem zi9 : Vm.Spec.holds Tryz.prog 12 zo6 := z0u (E := yd5) (L := ya6) (fn := Tryz.f12) (Z := y17) (z1g ok) (z0o (by exact ⟨⟨by kernel_rfl, z3g⟩, ⟨by kernel_rfl, z59⟩, ⟨by kernel_rfl, y2d⟩, ⟨by kernel_rfl, zg6⟩, ⟨by kernel_rfl, z5e⟩, ⟨by kernel_rfl, y2b⟩, ⟨by kernel_rfl, zx0⟩, ⟨by kernel_rfl, y2g⟩, ⟨by kernel_rfl, zg5⟩, ⟨by kernel_rfl, z6l⟩, ⟨by kernel_rfl, z7i⟩, ⟨by kernel_rfl, z9q⟩, ⟨by kernel_rfl, z5f⟩, ⟨by kernel_rfl, z4l⟩, trivial⟩)) z0v (z7p (by exact ⟨by kernel_rfl, by kernel_rfl, by kernel_rfl, by kernel_rfl, by kernel_rfl, by kernel_rfl, trivial⟩)) (z3b (by exact ⟨(z26 [[12]] (by exact ⟨z0h (ls := [(3, z75)]) rfl rfl ⟨by kernel_rfl, fun _ => rfl, fun _ _ => by kernel_rfl, z0i (by kernel_rfl)⟩,  trivial⟩) rfl), (z26 [[12]] (by exact ⟨z0h (ls := [(3, z5x), (6, z5z)]) rfl rfl ⟨by kernel_rfl, fun _ => rfl, fun _ _ => by kernel_rfl, by kernel_rfl, fun _ => rfl, fun _ _ => by kernel_rfl, z0i (by kernel_rfl)⟩,  trivial⟩) rfl), (z26 [[12]] (by exact ⟨z0h (ls := [(3, z5l)]) rfl rfl ⟨by kernel_rfl, fun _ => rfl, fun _ _ => by kernel_rfl, z0i (by kernel_rfl)⟩,  trivial⟩) rfl),  trivial⟩)) (by kernel_rfl) (by kernel_rfl) (z0h (ls := [(8, zv0), (11, zq9)]) rfl rfl ⟨by kernel_rfl, fun _ => rfl, fun _ _ => by kernel_rfl, by kernel_rfl, fun _ => rfl, fun _ _ => by kernel_rfl, z0i (by kernel_rfl)⟩) fun k x => by kernel_rfl
noncomputable def y3p : Env := { te := te, spec := [], body := [(55, Tryz.f55), (56, Tryz.f56), (87, Tryz.f87)] }
def z35 : Ann := { slots := [(0, .one (.val (.slice (.int .i64)))), (1, .one (.fix (.func 56))), (7, .one (.val (.int .i64))), (8, .one (.val (.int .i64)))], objs := [] }
def z1j : Ann := { slots := [(4, .one (.val (.int .i64)))], objs := [] }
def z0x : Nat -> List Int -> Int -> Int -> Option (LR a0 z1j)
 | 0, _, _, _ => none
 | m + 1, s0, s7, s8 =>
  if decide (s8 < s7) = true then if (0 : Int) <= s8 then if s8 < s0.length then if (s0.getD s8.toNat 0 != 0) = true then
  some (.ret (s8, ()))
  else
  z0x m s0 s7 (IntKind.i64.wrap (s8 + 1))
  else none else none
  else
  some (.exit ())
def z1i : LSpec := { h := z35, x := a0, r := z1j, xid := 0, rt := true, pins := [], f := fun k d => z0x k d.1 d.2.1 d.2.2.1 }
def y1u : z1u := [([87, 55, 13], [(2, z1i)])]
def z4w (k : Nat) (a0 : List Int) : Option (Bool) :=
 match z0x k a0 (a0.length : Int) 0 with
 | none => none
 | some (.exit d1) =>
  some true
 | some (.ret d1) =>
  some (!(decide (d1.1 >= 0)))
def zi4 (k : Nat) : Vm.Spec := { ps := [.slice (.int .i64)], rs := [.imm .bool], f := fun x => z4w k x }
noncomputable def z6c : Vm.Spec := zi4 fuel
theorem z5r : Vm.Spec.holds Tryz.prog 13 z6c := z0u (E := y3p) (L := y1u) (fn := Tryz.f13) (Z := zi4) (z1g ok) (z0o (by exact trivial)) z0v (z7p (by exact ⟨by kernel_rfl, by kernel_rfl, by kernel_rfl, by kernel_rfl, by kernel_rfl, by kernel_rfl, trivial⟩)) (z3b (by exact ⟨(fun _ => z5d (by kernel_rfl)), (fun _ => z5d (by kernel_rfl)), (z26 [[55, 13]] (by exact ⟨z0h (ls := [(2, z1i)]) rfl rfl ⟨by kernel_rfl, fun _ => rfl, fun _ _ => by kernel_rfl, z0i (by kernel_rfl)⟩,  trivial⟩) rfl),  trivial⟩)) (by kernel_rfl) (by kernel_rfl) (z0n rfl) fun k x => by kernel_rfl
noncomputable def y53 : Env := { te := te, spec := [(9, z5h), (42, zg2), (57, z9t)], body := [] }
def y0x : Ann := { slots := [(10, .one (.val (.slice qT))), (11, .one (.val .bool)), (34, .one (.val (.slice qT))), (35, .one (.val (.int .i64))), (36, .one (.val (.int .i64)))], objs := [] }
def ze4 : Ann := { slots := [(11, .one (.val .bool))], objs := [] }
def y0w : Ann := { slots := [(6, .one (.own 224 (.int .i64))), (7, .one (.val (.int .i64))), (8, .one (.val (.slice qT))), (28, .one (.own 80 (.slice qT))), (29, .one (.val (.int .i64))), (30, .one (.val (.int .i64)))], objs := [(224, .buf (.int .i64)), (80, .buf (.slice qT))] }
def ze2 : Ann := { slots := [(6, .one (.own 224 (.int .i64)))], objs := [(224, .buf (.int .i64)), (80, .buf (.slice qT))] }
def y1r : Ann := { slots := [(5, .one (.own 80 (.slice qT))), (6, .one (.own 224 (.int .i64))), (21, .one (.own 80 (.slice qT))), (22, .one (.val (.int .i64))), (23, .one (.val (.int .i64)))], objs := [(80, .buf (.slice qT)), (224, .buf (.int .i64))] }
def zf8 : Ann := { slots := [(6, .one (.own 224 (.int .i64)))], objs := [(224, .buf (.int .i64)), (80, .buf (.slice qT))] }
def z5q : Nat -> List (Bool × ((List Int) × (List Int))) -> Bool -> List (Bool × ((List Int) × (List Int))) -> Int -> Int -> Option (LR ze4 a0)
 | 0, _, _, _, _, _ => none
 | m + 1, s10, s11, s34, s35, s36 =>
  if decide (s36 < s35) = true then if (0 : Int) <= s36 then if s36 < s34.length then if s11 = true then if (0 : Int) <= s36 then if s36 < s10.length then
  (z4u fuel ((s34.getD s36.toNat (false, ([], []))).1, ((s34.getD s36.toNat (false, ([], []))).2)) ((s10.getD s36.toNat (false, ([], []))).1, ((s10.getD s36.toNat (false, ([], []))).2))).bind fun r1 =>
  z5q m s10 (decide (r1 < 0)) s34 s35 (IntKind.i64.wrap (s36 + 1))
  else none else none
  else
  z5q m s10 false s34 s35 (IntKind.i64.wrap (s36 + 1))
  else none else none
  else
  some (.exit (s11, ()))
def ze3 : LSpec := { h := y0x, x := ze4, r := a0, xid := 4, rt := false, pins := [], f := fun k d => z5q k d.1 d.2.1 d.2.2.1 d.2.2.2.1 d.2.2.2.2.1 }
def z7g : Nat -> Int -> List (Bool × ((List Int) × (List Int))) -> Int -> Int -> List Int -> List (List (Bool × ((List Int) × (List Int)))) -> Option (LR ze2 a0)
 | 0, _, _, _, _, _, _ => none
 | m + 1, s7, s8, s29, s30, b224, b80 =>
  if decide (s30 < s29) = true then if (0 : Int) <= s30 then if s30 < b80.length then
  match z5q m (b80.getD s30.toNat []) true s8 (s8.length : Int) 0 with
  | none => none
  | some (.exit d1) =>
   if d1.1 = true then if (b224.length + 1) * 8 <= 140737488355328 then
   some (.exit (b224 ++ [s7], b80, ()))
   else none
   else
   z7g m s7 s8 s29 (IntKind.i64.wrap (s30 + 1)) b224 b80
  | some (.ret d1) =>
   none
  else none else none
  else
  some (.exit (b224, b80, ()))
def ze1 : LSpec := { h := y0w, x := ze2, r := a0, xid := 2, rt := false, pins := [80], f := fun k d => z7g k d.1 d.2.1 d.2.2.1 d.2.2.2.1 d.2.2.2.2.1 d.2.2.2.2.2.1 }
def z7v : Nat -> Int -> Int -> List (List (Bool × ((List Int) × (List Int)))) -> List Int -> Option (LR zf8 a0)
 | 0, _, _, _, _ => none
 | m + 1, s22, s23, b80, b224 =>
  if decide (s23 < s22) = true then if (0 : Int) <= s23 then if s23 < b80.length then
  match z7g m s23 (b80.getD s23.toNat []) (b80.length : Int) 0 b224 b80 with
  | none => none
  | some (.exit d1) =>
   z7v m s22 (IntKind.i64.wrap (s23 + 1)) d1.2.1 d1.1
  | some (.ret d1) =>
   none
  else none else none
  else
  some (.exit (b224, b80, ()))
def zf7 : LSpec := { h := y1r, x := zf8, r := a0, xid := 0, rt := false, pins := [80], f := fun k d => z7v k d.1 d.2.1 d.2.2.1 d.2.2.2.1 }
def y3s : z1u := [([14], [(7, zf7), (10, ze1), (14, ze3)])]
def zp8 (k : Nat) (a0 : List (List ByteArray)) : Option (List Int × Int) :=
 (z1z fuel a0).bind fun r1 =>
 if (r1 != 0) = true then
 some ([], r1)
 else
 (z67 fuel a0).bind fun r2 =>
 match z7v k (r2.length : Int) 0 r2 [] with
 | none => none
 | some (.exit d3) =>
  some (d3.1, 0)
 | some (.ret d3) =>
  none
def zl3 (k : Nat) : Vm.Spec := { ps := [.slice (.slice .str)], rs := [.fresh (.int .i64), .imm (.int .i64)], f := fun x => zp8 k x }
noncomputable def zo5 : Vm.Spec := zl3 fuel
theorem zw9 : Vm.Spec.holds Tryz.prog 14 zo5 := z0u (E := y53) (L := y3s) (fn := Tryz.f14) (Z := zl3) (z1g ok) (z0o (by exact ⟨⟨by kernel_rfl, z3g⟩, ⟨by kernel_rfl, z6i⟩, ⟨by kernel_rfl, z5f⟩, trivial⟩)) z0v (z07 rfl) (z01 rfl) (by kernel_rfl) (by kernel_rfl) (z0h (ls := [(7, zf7), (10, ze1), (14, ze3)]) rfl rfl ⟨by kernel_rfl, fun _ => rfl, fun _ _ => by kernel_rfl, by kernel_rfl, fun _ => rfl, fun _ _ => by kernel_rfl, by kernel_rfl, fun _ => rfl, fun _ _ => by kernel_rfl, z0i (by kernel_rfl)⟩) fun k x => by kernel_rfl
noncomputable def y0d : Env := { te := te, spec := [], body := [] }
def zx6 : z1u := []
def z3k (k : Nat) : Option (List (List ByteArray)) :=
 some [[(⟨#[49]⟩ : ByteArray), (⟨#[45, 49]⟩ : ByteArray)], [(⟨#[45, 49]⟩ : ByteArray), (⟨#[49]⟩ : ByteArray)]]
def zb1 (k : Nat) : Vm.Spec := { ps := [], rs := [.fresh (.slice .str)], f := fun x => z3k k }
noncomputable def zc7 : Vm.Spec := zb1 fuel
theorem zk2 : Vm.Spec.holds Tryz.prog 19 zc7 := z0u (E := y0d) (L := zx6) (fn := Tryz.f19) (Z := zb1) (z1g ok) (z0o (by exact trivial)) z0v (z07 rfl) (z01 rfl) (by kernel_rfl) (by kernel_rfl) (z0n rfl) fun k x => by kernel_rfl
noncomputable def w92 : Env := { te := te, spec := [(25, zn2), (46, z9s), (54, zy1), (86, zn8), (91, z9h)], body := [] }
def y30 : List (Nat × OSh) := [(20, .box [.val .bool, .val (.slice (.int .u32)), .val (.slice (.int .u32))])]
def w1h : Ann := { slots := [(5, .one (.fix (.pbox 20 0))), (16, .one (.val (.slice .str))), (17, .one (.val (.int .i64))), (18, .one (.val (.int .i64)))], objs := y30 }
def y9v : Ann := { slots := [(5, .one (.fix (.pbox 20 0)))], objs := y30 }
def y9u : Ann := { slots := [(2, .one (.val .str)), (3, .one (.val (.int .i64)))], objs := y30 }
def y5p : Nat -> List ByteArray -> Int -> Int -> Bool -> List Int -> List Int -> Option (LR y9v y9u)
 | 0, _, _, _, _, _, _ => none
 | m + 1, s16, s17, s18, b20_0, b20_1, b20_2 =>
  if decide (s18 < s17) = true then if (0 : Int) <= s18 then if s18 < s16.length then
  (z7j fuel (s16.getD s18.toNat ByteArray.empty)).bind fun r1 =>
  (z5j fuel (b20_0, (b20_1, b20_2)) r1).bind fun r2 =>
  (z88 fuel r2).bind fun r3 =>
  if (r3 != 0) = true then
  some (.ret ((⟨#[]⟩ : ByteArray), 2, r2.1, r2.2.1, r2.2.2, ()))
  else
  y5p m s16 s17 (IntKind.i64.wrap (s18 + 1)) r2.1 r2.2.1 r2.2.2
  else none else none
  else
  some (.exit (b20_0, b20_1, b20_2, ()))
def y9t : LSpec := { h := w1h, x := y9v, r := y9u, xid := 0, rt := true, pins := [20], f := fun k d => y5p k d.1 d.2.1 d.2.2.1 d.2.2.2.1 d.2.2.2.2.1 d.2.2.2.2.2.1 }
def w7l : z1u := [([103], [(8, y9t)])]
def w19 (k : Nat) (a0 : List ByteArray) : Option (ByteArray × Int) :=
 if decide ((a0.length : Int) > 256) = true then
 some ((⟨#[]⟩ : ByteArray), 2)
 else
 (z3c fuel a0).bind fun r1 =>
 if (r1 != 0) = true then
 some ((⟨#[]⟩ : ByteArray), r1)
 else
 match y5p k a0 (a0.length : Int) 0 false [] [] with
 | none => none
 | some (.exit d2) =>
  (z8a fuel (d2.1, (d2.2.1, d2.2.2.1))).bind fun r3 =>
  some (r3.1, r3.2)
 | some (.ret d2) =>
  some (d2.1, d2.2.1)
def yq0 (k : Nat) : Vm.Spec := { ps := [.slice .str], rs := [.imm .str, .imm (.int .i64)], f := fun x => w19 k x }
noncomputable def w0i : Vm.Spec := yq0 fuel
theorem yh3 : Vm.Spec.holds Tryz.prog 103 w0i := z0u (E := w92) (L := w7l) (fn := Tryz.f103) (Z := yq0) (z1g ok) (z0o (by exact ⟨⟨by kernel_rfl, z59⟩, ⟨by kernel_rfl, z5e⟩, ⟨by kernel_rfl, z9q⟩, ⟨by kernel_rfl, z73⟩, ⟨by kernel_rfl, z6e⟩, trivial⟩)) z0v (z07 rfl) (z01 rfl) (by kernel_rfl) (by kernel_rfl) (z0h (ls := [(8, y9t)]) rfl rfl ⟨by kernel_rfl, fun _ => rfl, fun _ _ => by kernel_rfl, z0i (by kernel_rfl)⟩) fun k x => by kernel_rfl
noncomputable def w7f : Env := { te := te, spec := [(25, zn2), (26, zb0), (103, w0i)], body := [] }
def yw8 : Ann := { slots := [(15, .one (.val (.slice .str))), (16, .one (.val (.int .i64))), (17, .one (.val (.int .i64)))], objs := [] }
def y78 : Ann := { slots := [(2, .one (.val (.int .i64)))], objs := [] }
def y2w : Nat -> List ByteArray -> Int -> Int -> Option (LR a0 y78)
 | 0, _, _, _ => none
 | m + 1, s15, s16, s17 =>
  if decide (s17 < s16) = true then if (0 : Int) <= s17 then if s17 < s15.length then
  (z7j fuel (s15.getD s17.toNat ByteArray.empty)).bind fun r1 =>
  (z2n fuel r1).bind fun r2 =>
  if decide (r2 < 0) = true then
  some (.ret (4, ()))
  else
  y2w m s15 s16 (IntKind.i64.wrap (s17 + 1))
  else none else none
  else
  some (.exit ())
def y77 : LSpec := { h := yw8, x := a0, r := y78, xid := 0, rt := true, pins := [], f := fun k d => y2w k d.1 d.2.1 d.2.2.1 }
def w3h : z1u := [([89], [(5, y77)])]
def y8f (k : Nat) (a0 : List ByteArray) : Option (Int) :=
 (w19 fuel a0).bind fun r1 =>
 if (r1.2 != 0) = true then
 some r1.2
 else
 match y2w k a0 (a0.length : Int) 0 with
 | none => none
 | some (.exit d2) =>
  if (!(r1.1.toList == (⟨#[49]⟩ : ByteArray).toList)) = true then
  some 3
  else
  some 0
 | some (.ret d2) =>
  some d2.1
def yf1 (k : Nat) : Vm.Spec := { ps := [.slice .str], rs := [.imm (.int .i64)], f := fun x => y8f k x }
noncomputable def yp5 : Vm.Spec := yf1 fuel
theorem yb5 : Vm.Spec.holds Tryz.prog 89 yp5 := z0u (E := w7f) (L := w3h) (fn := Tryz.f89) (Z := yf1) (z1g ok) (z0o (by exact ⟨⟨by kernel_rfl, z59⟩, ⟨by kernel_rfl, z5v⟩, ⟨by kernel_rfl, yh3⟩, trivial⟩)) z0v (z07 rfl) (z01 rfl) (by kernel_rfl) (by kernel_rfl) (z0h (ls := [(5, y77)]) rfl rfl ⟨by kernel_rfl, fun _ => rfl, fun _ _ => by kernel_rfl, z0i (by kernel_rfl)⟩) fun k x => by kernel_rfl
noncomputable def y3q : Env := { te := te, spec := [(9, z5h), (89, yp5)], body := [] }
def y1v : z1u := []
def z97 (k : Nat) (a0 : List (List ByteArray)) (a1 : List ByteArray) (a2 : List ByteArray) : Option (Int) :=
 (z1z fuel a0).bind fun r1 =>
 if (r1 != 0) = true then
 some r1
 else
 if ((a1.length : Int) != (a0.length : Int)) = false then if (0 : Int) < a0.length then if ((a2.length : Int) != ((a0.getD 0 []).length : Int)) = true then
 some 3
 else
 (y8f fuel a1).bind fun r2 =>
 if (r2 != 0) = true then
 some r2
 else
 (y8f fuel a2).bind fun r3 =>
 some r3
 else none
 else
 some 3
def zi5 (k : Nat) : Vm.Spec := { ps := [.slice (.slice .str), .slice .str, .slice .str], rs := [.imm (.int .i64)], f := fun x => z97 k x.1 x.2.1 x.2.2 }
noncomputable def z95 : Vm.Spec := zi5 fuel
theorem z8o : Vm.Spec.holds Tryz.prog 60 z95 := z0u (E := y3q) (L := y1v) (fn := Tryz.f60) (Z := zi5) (z1g ok) (z0o (by exact ⟨⟨by kernel_rfl, z3g⟩, ⟨by kernel_rfl, yb5⟩, trivial⟩)) z0v (z07 rfl) (z01 rfl) (by kernel_rfl) (by kernel_rfl) (z0n rfl) fun k x => by kernel_rfl
noncomputable def ya3 : Env := { te := te, spec := [(46, z9s), (52, zg3)], body := [] }
def zs2 : List (Nat × OSh) := [(20, .box [.val .bool, .val (.slice (.int .u32)), .val (.slice (.int .u32))])]
def y5o : Ann := { slots := [(1, .one (.val (.slice qT))), (5, .one (.fix (.pbox 20 0))), (8, .one (.val (.slice qT))), (9, .one (.val (.int .i64))), (10, .one (.val (.int .i64)))], objs := zs2 }
def zr2 : Ann := { slots := [(5, .one (.fix (.pbox 20 0)))], objs := zs2 }
def ze9 : Nat -> List (Bool × ((List Int) × (List Int))) -> List (Bool × ((List Int) × (List Int))) -> Int -> Int -> Bool -> List Int -> List Int -> Option (LR zr2 a0)
 | 0, _, _, _, _, _, _, _ => none
 | m + 1, s1, s8, s9, s10, b20_0, b20_1, b20_2 =>
  if decide (s10 < s9) = true then if (0 : Int) <= s10 then if s10 < s8.length then if (0 : Int) <= s10 then if s10 < s1.length then
  (z2o fuel ((s8.getD s10.toNat (false, ([], []))).1, ((s8.getD s10.toNat (false, ([], []))).2)) ((s1.getD s10.toNat (false, ([], []))).1, ((s1.getD s10.toNat (false, ([], []))).2))).bind fun r1 =>
  (z5j fuel (b20_0, (b20_1, b20_2)) r1).bind fun r2 =>
  ze9 m s1 s8 s9 (IntKind.i64.wrap (s10 + 1)) r2.1 r2.2.1 r2.2.2
  else none else none else none else none
  else
  some (.exit (b20_0, b20_1, b20_2, ()))
def zr1 : LSpec := { h := y5o, x := zr2, r := a0, xid := 0, rt := false, pins := [20], f := fun k d => ze9 k d.1 d.2.1 d.2.2.1 d.2.2.2.1 d.2.2.2.2.1 d.2.2.2.2.2.1 d.2.2.2.2.2.2.1 }
def y80 : z1u := [([90], [(3, zr1)])]
def zk5 (k : Nat) (a0 : List (Bool × ((List Int) × (List Int)))) (a1 : List (Bool × ((List Int) × (List Int)))) : Option (Bool × ((List Int) × (List Int))) :=
 match ze9 k a1 a0 (a0.length : Int) 0 false [] [] with
 | none => none
 | some (.exit d1) =>
  some (d1.1, (d1.2.1, d1.2.2.1))
 | some (.ret d1) =>
  none
def zy5 (k : Nat) : Vm.Spec := { ps := [.slice qT, .slice qT], rs := [.imm qT], f := fun x => zk5 k x.1 x.2 }
noncomputable def zk0 : Vm.Spec := zy5 fuel
theorem zf6 : Vm.Spec.holds Tryz.prog 90 zk0 := z0u (E := ya3) (L := y80) (fn := Tryz.f90) (Z := zy5) (z1g ok) (z0o (by exact ⟨⟨by kernel_rfl, z5e⟩, ⟨by kernel_rfl, z6l⟩, trivial⟩)) z0v (z07 rfl) (z01 rfl) (by kernel_rfl) (by kernel_rfl) (z0h (ls := [(3, zr1)]) rfl rfl ⟨by kernel_rfl, fun _ => rfl, fun _ _ => by kernel_rfl, z0i (by kernel_rfl)⟩) fun k x => by kernel_rfl
noncomputable def ym1 : Env := { te := te, spec := [(31, zh6), (32, zh7), (42, zg2), (53, zi3), (63, z7o), (66, z6f), (90, zk0)], body := [] }
def y71 : Ann := { slots := [(8, .one (.own 184 qT)), (9, .one (.val (.slice qT))), (35, .one (.own 140 (.slice qT))), (36, .one (.val (.int .i64))), (37, .one (.val (.int .i64)))], objs := [(184, .buf qT), (140, .buf (.slice qT))] }
def zv3 : Ann := { slots := [(8, .one (.own 184 qT))], objs := [(184, .buf qT), (140, .buf (.slice qT))] }
def z8c : Nat -> List (Bool × ((List Int) × (List Int))) -> Int -> Int -> List (Bool × ((List Int) × (List Int))) -> List (List (Bool × ((List Int) × (List Int)))) -> Option (LR zv3 a0)
 | 0, _, _, _, _, _ => none
 | m + 1, s9, s36, s37, b184, b140 =>
  if decide (s37 < s36) = true then if (0 : Int) <= s37 then if s37 < b140.length then
  (zk5 fuel (b140.getD s37.toNat []) s9).bind fun r1 =>
  if (b184.length + 1) * 56 <= 140737488355328 then
  z8c m s9 s36 (IntKind.i64.wrap (s37 + 1)) (b184 ++ [r1]) b140
  else none else none else none
  else
  some (.exit (b184, b140, ()))
def zv2 : LSpec := { h := y71, x := zv3, r := a0, xid := 0, rt := false, pins := [140], f := fun k d => z8c k d.1 d.2.1 d.2.2.1 d.2.2.2.1 d.2.2.2.2.1 }
def yd9 : z1u := [([61], [(12, zv2)])]
def y4g (k : Nat) (a0 : List (List ByteArray)) (a1 : List ByteArray) : Option (List ByteArray × Int) :=
 (z4b fuel a0).bind fun r1 =>
 if (r1 != 0) = true then
 some ([], r1)
 else
 (z1v fuel a1).bind fun r2 =>
 if (r2 != 0) = true then
 some ([], r2)
 else
 (z68 fuel a0).bind fun r3 =>
 if (r3 != (a1.length : Int)) = true then if decide ((a0.length : Int) > 0) = true then
 some ([], 3)
 else
 (z2m fuel a1).bind fun r4 =>
 (z67 fuel a0).bind fun r5 =>
 match z8c k r4 (r5.length : Int) 0 [] r5 with
 | none => none
 | some (.exit d6) =>
  (z3h fuel d6.1).bind fun r7 =>
  some (r7.1, r7.2)
 | some (.ret d6) =>
  none
 else
 (z2m fuel a1).bind fun r8 =>
 (z67 fuel a0).bind fun r9 =>
 match z8c k r8 (r9.length : Int) 0 [] r9 with
 | none => none
 | some (.exit d10) =>
  (z3h fuel d10.1).bind fun r11 =>
  some (r11.1, r11.2)
 | some (.ret d10) =>
  none
def y22 (k : Nat) : Vm.Spec := { ps := [.slice (.slice .str), .slice .str], rs := [.fresh .str, .imm (.int .i64)], f := fun x => y4g k x.1 x.2 }
noncomputable def y45 : Vm.Spec := y22 fuel
theorem y3v : Vm.Spec.holds Tryz.prog 61 y45 := z0u (E := ym1) (L := yd9) (fn := Tryz.f61) (Z := y22) (z1g ok) (z0o (by exact ⟨⟨by kernel_rfl, z98⟩, ⟨by kernel_rfl, z99⟩, ⟨by kernel_rfl, z6i⟩, ⟨by kernel_rfl, z7i⟩, ⟨by kernel_rfl, z4l⟩, ⟨by kernel_rfl, z54⟩, ⟨by kernel_rfl, zf6⟩, trivial⟩)) z0v (z07 rfl) (z01 rfl) (by kernel_rfl) (by kernel_rfl) (z0h (ls := [(12, zv2)]) rfl rfl ⟨by kernel_rfl, fun _ => rfl, fun _ _ => by kernel_rfl, z0i (by kernel_rfl)⟩) fun k x => by kernel_rfl
noncomputable def yz3 : Env := { te := te, spec := [(59, zp0), (63, z7o), (66, z6f), (86, zn8), (90, zk0)], body := [] }
def yt8 : z1u := []
def y9q (k : Nat) (a0 : List ByteArray) (a1 : List ByteArray) : Option (ByteArray × Int) :=
 (z1v fuel a0).bind fun r1 =>
 if (r1 != 0) = true then
 some ((⟨#[]⟩ : ByteArray), r1)
 else
 (z1v fuel a1).bind fun r2 =>
 if (r2 != 0) = true then
 some ((⟨#[]⟩ : ByteArray), r2)
 else
 if ((a0.length : Int) != (a1.length : Int)) = true then
 some ((⟨#[]⟩ : ByteArray), 3)
 else
 (z2m fuel a0).bind fun r3 =>
 (z2m fuel a1).bind fun r4 =>
 (zk5 fuel r3 r4).bind fun r5 =>
 (z88 fuel r5).bind fun r6 =>
 if (r6 != 0) = true then
 some ((⟨#[]⟩ : ByteArray), r6)
 else
 (z7t fuel r5).bind fun r7 =>
 some (r7, 0)
def y6d (k : Nat) : Vm.Spec := { ps := [.slice .str, .slice .str], rs := [.imm .str, .imm (.int .i64)], f := fun x => y9q k x.1 x.2 }
noncomputable def y93 : Vm.Spec := y6d fuel
theorem y6v : Vm.Spec.holds Tryz.prog 62 y93 := z0u (E := yz3) (L := yt8) (fn := Tryz.f62) (Z := y6d) (z1g ok) (z0o (by exact ⟨⟨by kernel_rfl, z89⟩, ⟨by kernel_rfl, z4l⟩, ⟨by kernel_rfl, z54⟩, ⟨by kernel_rfl, z73⟩, ⟨by kernel_rfl, zf6⟩, trivial⟩)) z0v (z07 rfl) (z01 rfl) (by kernel_rfl) (by kernel_rfl) (z0n rfl) fun k x => by kernel_rfl
noncomputable def yt3 : Env := { te := te, spec := [(60, z95), (61, y45), (62, y93)], body := [] }
def ym6 : z1u := []
def y6u (k : Nat) (a0 : List (List ByteArray)) (a1 : List ByteArray) (a2 : List ByteArray) : Option (ByteArray × Int) :=
 (z97 fuel a0 a1 a2).bind fun r1 =>
 if (r1 != 0) = true then
 some ((⟨#[]⟩ : ByteArray), r1)
 else
 (y4g fuel a0 a2).bind fun r2 =>
 if (r2.2 != 0) = true then
 some ((⟨#[]⟩ : ByteArray), r2.2)
 else
 (y9q fuel a1 r2.1).bind fun r3 =>
 some (r3.1, r3.2)
def y47 (k : Nat) : Vm.Spec := { ps := [.slice (.slice .str), .slice .str, .slice .str], rs := [.imm .str, .imm (.int .i64)], f := fun x => y6u k x.1 x.2.1 x.2.2 }
noncomputable def y69 : Vm.Spec := y47 fuel
theorem y5h : Vm.Spec.holds Tryz.prog 20 y69 := z0u (E := yt3) (L := ym6) (fn := Tryz.f20) (Z := y47) (z1g ok) (z0o (by exact ⟨⟨by kernel_rfl, z8o⟩, ⟨by kernel_rfl, y3v⟩, ⟨by kernel_rfl, y6v⟩, trivial⟩)) z0v (z07 rfl) (z01 rfl) (by kernel_rfl) (by kernel_rfl) (z0n rfl) fun k x => by kernel_rfl
noncomputable def ya1 : Env := { te := te, spec := [(9, z5h), (42, zg2), (57, z9t)], body := [] }
def zr8 : List (Nat × OSh) := [(40, .box [.val .bool, .val (.slice (.int .u32)), .val (.slice (.int .u32))])]
def y3y : Ann := { slots := [(10, .one (.fix (.pbox 40 0))), (11, .one (.val .bool)), (37, .one (.val (.slice qT))), (38, .one (.val (.int .i64))), (39, .one (.val (.int .i64)))], objs := zr8 }
def zl7 : Ann := { slots := [(10, .one (.fix (.pbox 40 0))), (11, .one (.val .bool))], objs := zr8 }
def zr9 : List (Nat × OSh) := [(40, .box [.val .bool, .val (.slice (.int .u32)), .val (.slice (.int .u32))]), (88, .buf (.slice qT))]
def y3z : Ann := { slots := [(9, .one (.val (.int .i64))), (10, .one (.fix (.pbox 40 0))), (11, .one (.val .bool)), (51, .one (.own 88 (.slice qT))), (52, .one (.val (.int .i64))), (53, .one (.val (.int .i64)))], objs := zr9 }
def zl9 : Ann := { slots := [(11, .one (.val .bool))], objs := zr9 }
def y5m : Ann := { slots := [(6, .one (.own 88 (.slice qT))), (7, .one (.val (.int .i64))), (8, .one (.val (.slice qT))), (30, .one (.val (.slice qT))), (31, .one (.val (.int .i64))), (32, .one (.val (.int .i64)))], objs := [(88, .buf (.slice qT))] }
def zq8 : Ann := { slots := [(6, .one (.own 88 (.slice qT)))], objs := [(88, .buf (.slice qT))] }
def zq7 : Ann := { slots := [(2, .one (.val (.int .i64))), (3, .one (.val (.int .i64))), (4, .one (.val (.int .i64)))], objs := [(88, .buf (.slice qT))] }
def y5l : Ann := { slots := [(6, .one (.own 88 (.slice qT))), (23, .one (.own 88 (.slice qT))), (24, .one (.val (.int .i64))), (25, .one (.val (.int .i64)))], objs := [(88, .buf (.slice qT))] }
def zq5 : Ann := { slots := [], objs := [(88, .buf (.slice qT))] }
def zq4 : Ann := { slots := [(2, .one (.val (.int .i64))), (3, .one (.val (.int .i64))), (4, .one (.val (.int .i64)))], objs := [(88, .buf (.slice qT))] }
def z6v : Nat -> Bool -> List (Bool × ((List Int) × (List Int))) -> Int -> Int -> Bool -> List Int -> List Int -> Option (LR zl7 a0)
 | 0, _, _, _, _, _, _, _ => none
 | m + 1, s11, s37, s38, s39, b40_0, b40_1, b40_2 =>
  if decide (s39 < s38) = true then if (0 : Int) <= s39 then if s39 < s37.length then if s11 = true then
  (z4u fuel ((s37.getD s39.toNat (false, ([], []))).1, ((s37.getD s39.toNat (false, ([], []))).2)) (b40_0, (b40_1, b40_2))).bind fun r1 =>
  z6v m (decide (r1 >= 0)) s37 s38 (IntKind.i64.wrap (s39 + 1)) b40_0 b40_1 b40_2
  else
  z6v m false s37 s38 (IntKind.i64.wrap (s39 + 1)) b40_0 b40_1 b40_2
  else none else none
  else
  some (.exit (s11, b40_0, b40_1, b40_2, ()))
def zl6 : LSpec := { h := y3y, x := zl7, r := a0, xid := 4, rt := false, pins := [40], f := fun k d => z6v k d.1 d.2.1 d.2.2.1 d.2.2.2.1 d.2.2.2.2.1 d.2.2.2.2.2.1 d.2.2.2.2.2.2.1 }
def z6w : Nat -> Int -> Bool -> Int -> Int -> Bool -> List Int -> List Int -> List (List (Bool × ((List Int) × (List Int)))) -> Option (LR zl9 a0)
 | 0, _, _, _, _, _, _, _, _ => none
 | m + 1, s9, s11, s52, s53, b40_0, b40_1, b40_2, b88 =>
  if decide (s53 < s52) = true then if (0 : Int) <= s53 then if s53 < b88.length then if s11 = true then if (0 : Int) <= s9 then if s9 < (b88.getD s53.toNat []).length then
  (z4u fuel (((b88.getD s53.toNat []).getD s9.toNat (false, ([], []))).1, (((b88.getD s53.toNat []).getD s9.toNat (false, ([], []))).2)) (b40_0, (b40_1, b40_2))).bind fun r1 =>
  z6w m s9 (decide (r1 <= 0)) s52 (IntKind.i64.wrap (s53 + 1)) b40_0 b40_1 b40_2 b88
  else none else none
  else
  z6w m s9 false s52 (IntKind.i64.wrap (s53 + 1)) b40_0 b40_1 b40_2 b88
  else none else none
  else
  some (.exit (s11, b40_0, b40_1, b40_2, b88, ()))
def zl8 : LSpec := { h := y3z, x := zl9, r := a0, xid := 6, rt := false, pins := [40, 88], f := fun k d => z6w k d.1 d.2.1 d.2.2.1 d.2.2.2.1 d.2.2.2.2.1 d.2.2.2.2.2.1 d.2.2.2.2.2.2.1 d.2.2.2.2.2.2.2.1 }
def ze6 : Nat -> Int -> List (Bool × ((List Int) × (List Int))) -> List (Bool × ((List Int) × (List Int))) -> Int -> Int -> List (List (Bool × ((List Int) × (List Int)))) -> Option (LR zq8 zq7)
 | 0, _, _, _, _, _, _ => none
 | m + 1, s7, s8, s30, s31, s32, b88 =>
  if decide (s32 < s31) = true then if (0 : Int) <= s32 then if s32 < s30.length then
  match z6v m true s8 (s8.length : Int) 0 ((s30.getD s32.toNat (false, ([], []))).1) (((s30.getD s32.toNat (false, ([], []))).2).1) (((s30.getD s32.toNat (false, ([], []))).2).2) with
  | none => none
  | some (.exit d1) =>
   match z6w m s32 d1.1 (b88.length : Int) 0 d1.2.1 d1.2.2.1 d1.2.2.2.1 b88 with
   | none => none
   | some (.exit d2) =>
    if d2.1 = true then
    some (.ret (s7, s32, 0, d2.2.2.2.2.1, ()))
    else
    ze6 m s7 s8 s30 s31 (IntKind.i64.wrap (s32 + 1)) d2.2.2.2.2.1
   | some (.ret d2) =>
    none
  | some (.ret d1) =>
   none
  else none else none
  else
  some (.exit (b88, ()))
def zq6 : LSpec := { h := y5m, x := zq8, r := zq7, xid := 2, rt := true, pins := [88], f := fun k d => ze6 k d.1 d.2.1 d.2.2.1 d.2.2.2.1 d.2.2.2.2.1 d.2.2.2.2.2.1 }
def ze5 : Nat -> Int -> Int -> List (List (Bool × ((List Int) × (List Int)))) -> Option (LR zq5 zq4)
 | 0, _, _, _ => none
 | m + 1, s24, s25, b88 =>
  if decide (s25 < s24) = true then if (0 : Int) <= s25 then if s25 < b88.length then
  match ze6 m s25 (b88.getD s25.toNat []) (b88.getD s25.toNat []) ((b88.getD s25.toNat []).length : Int) 0 b88 with
  | none => none
  | some (.exit d1) =>
   ze5 m s24 (IntKind.i64.wrap (s25 + 1)) d1.1
  | some (.ret d1) =>
   some (.ret (d1.1, d1.2.1, d1.2.2.1, d1.2.2.2.1, ()))
  else none else none
  else
  some (.exit (b88, ()))
def zq3 : LSpec := { h := y5l, x := zq5, r := zq4, xid := 0, rt := true, pins := [88], f := fun k d => ze5 k d.1 d.2.1 d.2.2.1 }
def y7y : z1u := [([21], [(6, zq3), (9, zq6), (13, zl6), (18, zl8)])]
def y1c (k : Nat) (a0 : List (List ByteArray)) : Option (Int × Int × Int) :=
 (z1z fuel a0).bind fun r1 =>
 if (r1 != 0) = true then
 some (0, 0, r1)
 else
 (z67 fuel a0).bind fun r2 =>
 match ze5 k (r2.length : Int) 0 r2 with
 | none => none
 | some (.exit d3) =>
  some (0, 0, 8)
 | some (.ret d3) =>
  some (d3.1, d3.2.1, d3.2.2.1)
def zy3 (k : Nat) : Vm.Spec := { ps := [.slice (.slice .str)], rs := [.imm (.int .i64), .imm (.int .i64), .imm (.int .i64)], f := fun x => y1c k x }
noncomputable def y13 : Vm.Spec := zy3 fuel
theorem y1o : Vm.Spec.holds Tryz.prog 21 y13 := z0u (E := ya1) (L := y7y) (fn := Tryz.f21) (Z := zy3) (z1g ok) (z0o (by exact ⟨⟨by kernel_rfl, z3g⟩, ⟨by kernel_rfl, z6i⟩, ⟨by kernel_rfl, z5f⟩, trivial⟩)) z0v (z07 rfl) (z01 rfl) (by kernel_rfl) (by kernel_rfl) (z0h (ls := [(6, zq3), (9, zq6), (13, zl6), (18, zl8)]) rfl rfl ⟨by kernel_rfl, fun _ => rfl, fun _ _ => by kernel_rfl, by kernel_rfl, fun _ => rfl, fun _ _ => by kernel_rfl, by kernel_rfl, fun _ => rfl, fun _ _ => by kernel_rfl, by kernel_rfl, fun _ => rfl, fun _ _ => by kernel_rfl, z0i (by kernel_rfl)⟩) fun k x => by kernel_rfl
noncomputable def y63 : Env := { te := te, spec := [], body := [] }
def y2x : Ann := { slots := [(0, .one (.val (.slice .str))), (1, .one (.val (.slice .str))), (12, .one (.val (.int .i64))), (13, .one (.val (.int .i64)))], objs := [] }
def zj3 : Ann := { slots := [(4, .one (.val .bool))], objs := [] }
def z9f : Nat -> List ByteArray -> List ByteArray -> Int -> Int -> Option (LR a0 zj3)
 | 0, _, _, _, _ => none
 | m + 1, s0, s1, s12, s13 =>
  if decide (s13 < s12) = true then if (0 : Int) <= s13 then if s13 < s0.length then if (0 : Int) <= s13 then if s13 < s1.length then if (!((s0.getD s13.toNat ByteArray.empty).toList == (s1.getD s13.toNat ByteArray.empty).toList)) = true then
  some (.ret (false, ()))
  else
  z9f m s0 s1 s12 (IntKind.i64.wrap (s13 + 1))
  else none else none else none else none
  else
  some (.exit ())
def zj2 : LSpec := { h := y2x, x := a0, r := zj3, xid := 0, rt := true, pins := [], f := fun k d => z9f k d.1 d.2.1 d.2.2.1 d.2.2.2.1 }
def y56 : z1u := [([22], [(4, zj2)])]
def zu8 (k : Nat) (a0 : List ByteArray) (a1 : List ByteArray) : Option (Bool) :=
 if ((a0.length : Int) != (a1.length : Int)) = true then
 some false
 else
 match z9f k a0 a1 (a0.length : Int) 0 with
 | none => none
 | some (.exit d1) =>
  some true
 | some (.ret d1) =>
  some d1.1
def zp2 (k : Nat) : Vm.Spec := { ps := [.slice .str, .slice .str], rs := [.imm .bool], f := fun x => zu8 k x.1 x.2 }
noncomputable def zu0 : Vm.Spec := zp2 fuel
theorem zz3 : Vm.Spec.holds Tryz.prog 22 zu0 := z0u (E := y63) (L := y56) (fn := Tryz.f22) (Z := zp2) (z1g ok) (z0o (by exact trivial)) z0v (z07 rfl) (z01 rfl) (by kernel_rfl) (by kernel_rfl) (z0h (ls := [(4, zj2)]) rfl rfl ⟨by kernel_rfl, fun _ => rfl, fun _ _ => by kernel_rfl, z0i (by kernel_rfl)⟩) fun k x => by kernel_rfl
noncomputable def y64 : Env := { te := te, spec := [], body := [] }
def y2y : Ann := { slots := [(0, .one (.val (.slice (.int .i64)))), (1, .one (.val (.slice (.int .i64)))), (12, .one (.val (.int .i64))), (13, .one (.val (.int .i64)))], objs := [] }
def zj5 : Ann := { slots := [(4, .one (.val .bool))], objs := [] }
def z9g : Nat -> List Int -> List Int -> Int -> Int -> Option (LR a0 zj5)
 | 0, _, _, _, _ => none
 | m + 1, s0, s1, s12, s13 =>
  if decide (s13 < s12) = true then if (0 : Int) <= s13 then if s13 < s0.length then if (0 : Int) <= s13 then if s13 < s1.length then if (s0.getD s13.toNat 0 != s1.getD s13.toNat 0) = true then
  some (.ret (false, ()))
  else
  z9g m s0 s1 s12 (IntKind.i64.wrap (s13 + 1))
  else none else none else none else none
  else
  some (.exit ())
def zj4 : LSpec := { h := y2y, x := a0, r := zj5, xid := 0, rt := true, pins := [], f := fun k d => z9g k d.1 d.2.1 d.2.2.1 d.2.2.2.1 }
def y57 : z1u := [([23], [(4, zj4)])]
def zu9 (k : Nat) (a0 : List Int) (a1 : List Int) : Option (Bool) :=
 if ((a0.length : Int) != (a1.length : Int)) = true then
 some false
 else
 match z9g k a0 a1 (a0.length : Int) 0 with
 | none => none
 | some (.exit d1) =>
  some true
 | some (.ret d1) =>
  some d1.1
def zp3 (k : Nat) : Vm.Spec := { ps := [.slice (.int .i64), .slice (.int .i64)], rs := [.imm .bool], f := fun x => zu9 k x.1 x.2 }
noncomputable def zu1 : Vm.Spec := zp3 fuel
theorem zz4 : Vm.Spec.holds Tryz.prog 23 zu1 := z0u (E := y64) (L := y57) (fn := Tryz.f23) (Z := zp3) (z1g ok) (z0o (by exact trivial)) z0v (z07 rfl) (z01 rfl) (by kernel_rfl) (by kernel_rfl) (z0h (ls := [(4, zj4)]) rfl rfl ⟨by kernel_rfl, fun _ => rfl, fun _ _ => by kernel_rfl, z0i (by kernel_rfl)⟩) fun k x => by kernel_rfl
noncomputable def ya2 : Env := { te := te, spec := [(10, zo9), (25, zn2), (42, zg2), (46, z9s), (52, zg3), (57, z9t), (60, z95), (63, z7o)], body := [] }
def zs0 : List (Nat × OSh) := [(172, .buf qT), (52, .box [.val .bool, .val (.slice (.int .u32)), .val (.slice (.int .u32))])]
def y41 : Ann := { slots := [(9, .one (.own 172 qT)), (13, .one (.fix (.pbox 52 0))), (52, .one (.val (.slice qT))), (53, .one (.val (.int .i64))), (54, .one (.val (.int .i64)))], objs := zs0 }
def zm4 : Ann := { slots := [(9, .one (.own 172 qT)), (13, .one (.fix (.pbox 52 0)))], objs := zs0 }
def za4 : List (Nat × OSh) := [(28, .box [.val .bool, .val (.slice (.int .u32)), .val (.slice (.int .u32))]), (172, .buf qT), (180, .buf (.slice qT))]
def y40 : Ann := { slots := [(7, .one (.fix (.pbox 28 0))), (9, .one (.own 172 qT)), (46, .one (.own 180 (.slice qT))), (47, .one (.val (.int .i64))), (48, .one (.val (.int .i64)))], objs := za4 }
def zm2 : Ann := { slots := [(7, .one (.fix (.pbox 28 0))), (9, .one (.own 172 qT))], objs := za4 }
def zm1 : Ann := { slots := [(4, .one (.val (.int .i64)))], objs := za4 }
def zs1 : List (Nat × OSh) := [(160, .buf qT), (68, .box [.val .bool, .val (.slice (.int .u32)), .val (.slice (.int .u32))]), (180, .buf (.slice qT))]
def y43 : Ann := { slots := [(8, .one (.own 160 qT)), (16, .one (.val (.int .i64))), (17, .one (.fix (.pbox 68 0))), (78, .one (.own 180 (.slice qT))), (79, .one (.val (.int .i64))), (80, .one (.val (.int .i64)))], objs := zs1 }
def zm9 : Ann := { slots := [(8, .one (.own 160 qT)), (17, .one (.fix (.pbox 68 0)))], objs := zs1 }
def za5 : List (Nat × OSh) := [(28, .box [.val .bool, .val (.slice (.int .u32)), .val (.slice (.int .u32))]), (160, .buf qT), (180, .buf (.slice qT))]
def y42 : Ann := { slots := [(7, .one (.fix (.pbox 28 0))), (8, .one (.own 160 qT)), (10, .one (.own 180 (.slice qT))), (74, .one (.val (.int .i64))), (75, .one (.val (.int .i64)))], objs := za5 }
def zm7 : Ann := { slots := [], objs := za5 }
def zm6 : Ann := { slots := [(4, .one (.val (.int .i64)))], objs := za5 }
def za1 : Nat -> List (Bool × ((List Int) × (List Int))) -> Int -> Int -> List (Bool × ((List Int) × (List Int))) -> Bool -> List Int -> List Int -> Option (LR zm4 a0)
 | 0, _, _, _, _, _, _, _ => none
 | m + 1, s52, s53, s54, b172, b52_0, b52_1, b52_2 =>
  if decide (s54 < s53) = true then if (0 : Int) <= s54 then if s54 < s52.length then if (0 : Int) <= s54 then if s54 < b172.length then
  (z2o fuel ((s52.getD s54.toNat (false, ([], []))).1, ((s52.getD s54.toNat (false, ([], []))).2)) ((b172.getD s54.toNat (false, ([], []))).1, ((b172.getD s54.toNat (false, ([], []))).2))).bind fun r1 =>
  (z5j fuel (b52_0, (b52_1, b52_2)) r1).bind fun r2 =>
  za1 m s52 s53 (IntKind.i64.wrap (s54 + 1)) b172 r2.1 r2.2.1 r2.2.2
  else none else none else none else none
  else
  some (.exit (b172, b52_0, b52_1, b52_2, ()))
def zm3 : LSpec := { h := y41, x := zm4, r := a0, xid := 2, rt := false, pins := [172, 52], f := fun k d => za1 k d.1 d.2.1 d.2.2.1 d.2.2.2.1 d.2.2.2.2.1 d.2.2.2.2.2.1 d.2.2.2.2.2.2.1 }
def za0 : Nat -> Int -> Int -> Bool -> List Int -> List Int -> List (Bool × ((List Int) × (List Int))) -> List (List (Bool × ((List Int) × (List Int)))) -> Option (LR zm2 zm1)
 | 0, _, _, _, _, _, _, _ => none
 | m + 1, s47, s48, b28_0, b28_1, b28_2, b172, b180 =>
  if decide (s48 < s47) = true then if (0 : Int) <= s48 then if s48 < b180.length then
  match za1 m (b180.getD s48.toNat []) ((b180.getD s48.toNat []).length : Int) 0 b172 false [] [] with
  | none => none
  | some (.exit d1) =>
   (z4u fuel (d1.2.1, (d1.2.2.1, d1.2.2.2.1)) (b28_0, (b28_1, b28_2))).bind fun r2 =>
   if decide (r2 > 0) = true then
   some (.ret (16, b28_0, b28_1, b28_2, d1.1, b180, ()))
   else
   za0 m s47 (IntKind.i64.wrap (s48 + 1)) b28_0 b28_1 b28_2 d1.1 b180
  | some (.ret d1) =>
   none
  else none else none
  else
  some (.exit (b28_0, b28_1, b28_2, b172, b180, ()))
def zm0 : LSpec := { h := y40, x := zm2, r := zm1, xid := 0, rt := true, pins := [28, 172, 180], f := fun k d => za0 k d.1 d.2.1 d.2.2.1 d.2.2.2.1 d.2.2.2.2.1 d.2.2.2.2.2.1 d.2.2.2.2.2.2.1 }
def za3 : Nat -> Int -> Int -> Int -> List (Bool × ((List Int) × (List Int))) -> Bool -> List Int -> List Int -> List (List (Bool × ((List Int) × (List Int)))) -> Option (LR zm9 a0)
 | 0, _, _, _, _, _, _, _, _ => none
 | m + 1, s16, s79, s80, b160, b68_0, b68_1, b68_2, b180 =>
  if decide (s80 < s79) = true then if (0 : Int) <= s80 then if s80 < b180.length then if (0 : Int) <= s16 then if s16 < (b180.getD s80.toNat []).length then if (0 : Int) <= s80 then if s80 < b160.length then
  (z2o fuel (((b180.getD s80.toNat []).getD s16.toNat (false, ([], []))).1, (((b180.getD s80.toNat []).getD s16.toNat (false, ([], []))).2)) ((b160.getD s80.toNat (false, ([], []))).1, ((b160.getD s80.toNat (false, ([], []))).2))).bind fun r1 =>
  (z5j fuel (b68_0, (b68_1, b68_2)) r1).bind fun r2 =>
  za3 m s16 s79 (IntKind.i64.wrap (s80 + 1)) b160 r2.1 r2.2.1 r2.2.2 b180
  else none else none else none else none else none else none
  else
  some (.exit (b160, b68_0, b68_1, b68_2, b180, ()))
def zm8 : LSpec := { h := y43, x := zm9, r := a0, xid := 6, rt := false, pins := [160, 68, 180], f := fun k d => za3 k d.1 d.2.1 d.2.2.1 d.2.2.2.1 d.2.2.2.2.1 d.2.2.2.2.2.1 d.2.2.2.2.2.2.1 d.2.2.2.2.2.2.2.1 }
def za2 : Nat -> Int -> Int -> Bool -> List Int -> List Int -> List (Bool × ((List Int) × (List Int))) -> List (List (Bool × ((List Int) × (List Int)))) -> Option (LR zm7 zm6)
 | 0, _, _, _, _, _, _, _ => none
 | m + 1, s74, s75, b28_0, b28_1, b28_2, b160, b180 =>
  if decide (s75 < s74) = true then
  match za3 m s75 (b180.length : Int) 0 b160 false [] [] b180 with
  | none => none
  | some (.exit d1) =>
   (z4u fuel (d1.2.1, (d1.2.2.1, d1.2.2.2.1)) (b28_0, (b28_1, b28_2))).bind fun r2 =>
   if decide (r2 < 0) = true then
   some (.ret (16, b28_0, b28_1, b28_2, d1.1, d1.2.2.2.2.1, ()))
   else
   za2 m s74 (IntKind.i64.wrap (s75 + 1)) b28_0 b28_1 b28_2 d1.1 d1.2.2.2.2.1
  | some (.ret d1) =>
   none
  else
  some (.exit (b28_0, b28_1, b28_2, b160, b180, ()))
def zm5 : LSpec := { h := y42, x := zm7, r := zm6, xid := 4, rt := true, pins := [28, 160, 180], f := fun k d => za2 k d.1 d.2.1 d.2.2.1 d.2.2.2.1 d.2.2.2.2.1 d.2.2.2.2.2.1 d.2.2.2.2.2.2.1 }
def y7z : z1u := [([24], [(11, zm0), (15, zm3), (23, zm5), (27, zm8)])]
def zk4 (k : Nat) (a0 : List (List ByteArray)) (a1 : ByteArray × ((List ByteArray) × (List ByteArray))) : Option (Int) :=
 (z97 fuel a0 a1.2.1 a1.2.2).bind fun r1 =>
 if (r1 != 0) = true then
 some r1
 else
 (z6r fuel a1.1).bind fun r2 =>
 if (r2 != 0) = true then
 some r2
 else
 (z7j fuel a1.1).bind fun r3 =>
 (z2m fuel a1.2.1).bind fun r4 =>
 (z2m fuel a1.2.2).bind fun r5 =>
 (z67 fuel a0).bind fun r6 =>
 match za0 k (r6.length : Int) 0 r3.1 r3.2.1 r3.2.2 r5 r6 with
 | none => none
 | some (.exit d7) =>
  match za2 k (d7.2.2.2.1.length : Int) 0 d7.1 d7.2.1 d7.2.2.1 r4 d7.2.2.2.2.1 with
  | none => none
  | some (.exit d8) =>
   some 0
  | some (.ret d8) =>
   some d8.1
 | some (.ret d7) =>
  some d7.1
def zy4 (k : Nat) : Vm.Spec := { ps := [.slice (.slice .str), .pair .str (.pair (.slice .str) (.slice .str))], rs := [.imm (.int .i64)], f := fun x => zk4 k x.1 x.2 }
noncomputable def y14 : Vm.Spec := zy4 fuel
theorem y1p : Vm.Spec.holds Tryz.prog 24 y14 := z0u (E := ya2) (L := y7z) (fn := Tryz.f24) (Z := zy4) (z1g ok) (z0o (by exact ⟨⟨by kernel_rfl, z87⟩, ⟨by kernel_rfl, z59⟩, ⟨by kernel_rfl, z6i⟩, ⟨by kernel_rfl, z5e⟩, ⟨by kernel_rfl, z6l⟩, ⟨by kernel_rfl, z5f⟩, ⟨by kernel_rfl, z8o⟩, ⟨by kernel_rfl, z4l⟩, trivial⟩)) z0v (z07 rfl) (z01 rfl) (by kernel_rfl) (by kernel_rfl) (z0h (ls := [(11, zm0), (15, zm3), (23, zm5), (27, zm8)]) rfl rfl ⟨by kernel_rfl, fun _ => rfl, fun _ _ => by kernel_rfl, by kernel_rfl, fun _ => rfl, fun _ _ => by kernel_rfl, by kernel_rfl, fun _ => rfl, fun _ _ => by kernel_rfl, by kernel_rfl, fun _ => rfl, fun _ _ => by kernel_rfl, z0i (by kernel_rfl)⟩) fun k x => by kernel_rfl
noncomputable def zo4 : Env := { te := te, spec := [(9, z5h), (12, zo6), (13, z6c), (14, zo5), (19, zc7), (20, y69), (21, y13), (22, zu0), (23, zu1), (24, y14)], body := [] }
def zn1 : z1u := []
def z5i (k : Nat) : Option (Bool) :=
 (z3k fuel).bind fun r1 =>
 (z6h fuel r1).bind fun r2 =>
 (z3k fuel).bind fun r3 =>
 (y6u fuel r3 [(⟨#[49]⟩ : ByteArray), (⟨#[48]⟩ : ByteArray)] [(⟨#[49]⟩ : ByteArray), (⟨#[48]⟩ : ByteArray)]).bind fun r4 =>
 (y1c fuel [[(⟨#[50]⟩ : ByteArray), (⟨#[51]⟩ : ByteArray)], [(⟨#[49]⟩ : ByteArray), (⟨#[48]⟩ : ByteArray)]]).bind fun r5 =>
 (zp8 fuel [[(⟨#[50]⟩ : ByteArray), (⟨#[51]⟩ : ByteArray)], [(⟨#[49]⟩ : ByteArray), (⟨#[48]⟩ : ByteArray)]]).bind fun r6 =>
 (z4w fuel [r2.2, r4.2, r5.2.2, r6.2]).bind fun r7 =>
 if r7 = true then if ((r2.1.1.toList == (⟨#[48]⟩ : ByteArray).toList)) = true then
 (zu8 fuel r2.1.2.1 [(⟨#[49, 47, 50]⟩ : ByteArray), (⟨#[49, 47, 50]⟩ : ByteArray)]).bind fun r8 =>
 if r8 = true then if ((r4.1.toList == (⟨#[49]⟩ : ByteArray).toList)) = true then if (r5.1 == 0) = true then if (r5.2.1 == 0) = true then
 (zu9 fuel r6.1 [1]).bind fun r9 =>
 if r9 = true then
 (z3k fuel).bind fun r10 =>
 (zk4 fuel r10 r2.1).bind fun r11 =>
 if (r11 == 0) = true then
 (z3k fuel).bind fun r12 =>
 (zk4 fuel r12 ((⟨#[49]⟩ : ByteArray), r2.1.2)).bind fun r13 =>
 if (r13 == 16) = true then
 (z1z fuel []).bind fun r14 =>
 some (r14 == 8)
 else
 some false
 else
 some false
 else
 some false
 else
 some false
 else
 some false
 else
 some false
 else
 some false
 else
 some false
 else
 some false
def z7h (k : Nat) : Vm.Spec := { ps := [], rs := [.imm .bool], f := fun x => z5i k }
noncomputable def z7n : Vm.Spec := z7h fuel
theorem zd6 : Vm.Spec.holds Tryz.prog 6 z7n := z0u (E := zo4) (L := zn1) (fn := Tryz.f6) (Z := z7h) (z1g ok) (z0o (by exact ⟨⟨by kernel_rfl, z3g⟩, ⟨by kernel_rfl, zi9⟩, ⟨by kernel_rfl, z5r⟩, ⟨by kernel_rfl, zw9⟩, ⟨by kernel_rfl, zk2⟩, ⟨by kernel_rfl, y5h⟩, ⟨by kernel_rfl, y1o⟩, ⟨by kernel_rfl, zz3⟩, ⟨by kernel_rfl, zz4⟩, ⟨by kernel_rfl, y1p⟩, trivial⟩)) z0v (z07 rfl) (z01 rfl) (by kernel_rfl) (by kernel_rfl) (z0n rfl) fun k x => by kernel_rfl
noncomputable def w7g : Env := { te := te, spec := [(10, zo9), (25, zn2), (26, zb0)], body := [] }
def w3i : z1u := []
def zg7 (k : Nat) (a0 : ByteArray) : Option (Int × Int) :=
 (z6r fuel a0).bind fun r1 =>
 if (r1 != 0) = true then
 some (0, r1)
 else
 (z7j fuel a0).bind fun r2 =>
 (z2n fuel r2).bind fun r3 =>
 some (r3, 0)
def yf2 (k : Nat) : Vm.Spec := { ps := [.str], rs := [.imm (.int .i64), .imm (.int .i64)], f := fun x => zg7 k x }
noncomputable def yp6 : Vm.Spec := yf2 fuel
theorem yb6 : Vm.Spec.holds Tryz.prog 7 yp6 := z0u (E := w7g) (L := w3i) (fn := Tryz.f7) (Z := yf2) (z1g ok) (z0o (by exact ⟨⟨by kernel_rfl, z87⟩, ⟨by kernel_rfl, z59⟩, ⟨by kernel_rfl, z5v⟩, trivial⟩)) z0v (z07 rfl) (z01 rfl) (by kernel_rfl) (by kernel_rfl) (z0n rfl) fun k x => by kernel_rfl
noncomputable def y1t : Env := { te := te, spec := [], body := [(27, Tryz.f27), (28, Tryz.f28), (29, Tryz.f29), (30, Tryz.f30), (64, Tryz.f64), (65, Tryz.f65)] }
def z0z : Ann := { slots := [(0, .one (.val (.slice .str))), (1, .one (.fix (.func 30))), (7, .one (.val (.int .i64))), (8, .one (.val (.int .i64)))], objs := [] }
def z0d : Ann := { slots := [(4, .one (.val (.int .i64)))], objs := [] }
def z6n : List (Nat × OSh) := [(76, .clos 28 [.fix (.pbox 8 0)]), (8, .box [.val (.int .i64)])]
def z39 : Ann := { slots := [(0, .one (.val (.slice (.slice .str)))), (1, .one (.fix (.clos 76))), (7, .one (.val (.int .i64))), (8, .one (.val (.int .i64)))], objs := z6n }
def z1q : Ann := { slots := [], objs := z6n }
def z1p : Ann := { slots := [(4, .one (.val (.int .i64)))], objs := z6n }
def zz8 : Ann := { slots := [(2, .one (.fix (.pbox 8 0))), (7, .one (.val (.slice (.slice (.slice .str))))), (8, .one (.val (.int .i64))), (9, .one (.val (.int .i64)))], objs := [(8, .box [.val (.int .i64)])] }
def zc1 : Ann := { slots := [], objs := [(8, .box [.val (.int .i64)])] }
def zc0 : Ann := { slots := [(4, .one (.val .bool))], objs := [(8, .box [.val (.int .i64)])] }
def z00 : Nat -> List ByteArray -> Int -> Int -> Option (LR a0 z0d)
 | 0, _, _, _ => none
 | m + 1, s0, s7, s8 =>
  if decide (s8 < s7) = true then if (0 : Int) <= s8 then if s8 < s0.length then if decide (((s0.getD s8.toNat ByteArray.empty).size : Int) > 12) = true then
  some (.ret (s8, ()))
  else
  z00 m s0 s7 (IntKind.i64.wrap (s8 + 1))
  else none else none
  else
  some (.exit ())
def z0c : LSpec := { h := z0z, x := a0, r := z0d, xid := 0, rt := true, pins := [], f := fun k d => z00 k d.1 d.2.1 d.2.2.1 }
def z03 : Nat -> List (List ByteArray) -> Int -> Int -> Int -> Option (LR z1q z1p)
 | 0, _, _, _, _ => none
 | m + 1, s0, s7, s8, b8_0 =>
  if decide (s8 < s7) = true then if (0 : Int) <= s8 then if s8 < s0.length then if decide (((s0.getD s8.toNat []).length : Int) > b8_0) = false then
  match z00 m (s0.getD s8.toNat []) ((s0.getD s8.toNat []).length : Int) 0 with
  | none => none
  | some (.exit d1) =>
   z03 m s0 s7 (IntKind.i64.wrap (s8 + 1)) b8_0
  | some (.ret d1) =>
   if decide (d1.1 >= 0) = true then
   some (.ret (s8, b8_0, ()))
   else
   z03 m s0 s7 (IntKind.i64.wrap (s8 + 1)) b8_0
  else
  some (.ret (s8, b8_0, ()))
  else none else none
  else
  some (.exit (b8_0, ()))
def z1o : LSpec := { h := z39, x := z1q, r := z1p, xid := 0, rt := true, pins := [76, 8], f := fun k d => z03 k d.1 d.2.1 d.2.2.1 d.2.2.2.1 }
def z38 : Nat -> List (List (List ByteArray)) -> Int -> Int -> Int -> Option (LR zc1 zc0)
 | 0, _, _, _, _ => none
 | m + 1, s7, s8, s9, b8_0 =>
  if decide (s9 < s8) = true then if (0 : Int) <= s9 then if s9 < s7.length then if decide (((s7.getD s9.toNat []).length : Int) > b8_0) = false then
  match z03 m (s7.getD s9.toNat []) ((s7.getD s9.toNat []).length : Int) 0 b8_0 with
  | none => none
  | some (.exit d1) =>
   z38 m s7 s8 (IntKind.i64.wrap (s9 + 1)) d1.1
  | some (.ret d1) =>
   if decide (d1.1 >= 0) = true then
   some (.ret (false, d1.2.1, ()))
   else
   z38 m s7 s8 (IntKind.i64.wrap (s9 + 1)) d1.2.1
  else
  some (.ret (false, b8_0, ()))
  else none else none
  else
  some (.exit (b8_0, ()))
def zb9 : LSpec := { h := zz8, x := zc1, r := zc0, xid := 0, rt := true, pins := [8], f := fun k d => z38 k d.1 d.2.1 d.2.2.1 d.2.2.2.1 }
def y1m : z1u := [([65, 29, 28, 64, 27, 8], [(2, z0c)]), ([64, 27, 8], [(2, z1o)]), ([8], [(2, zb9)])]
def z4h (k : Nat) (a0 : Int) (a1 : List (List (List ByteArray))) : Option (Bool) :=
 match z38 k a1 (a1.length : Int) 0 a0 with
 | none => none
 | some (.exit d1) =>
  some true
 | some (.ret d1) =>
  some d1.1
def zf5 (k : Nat) : Vm.Spec := { ps := [.int .i64, .slice (.slice (.slice .str))], rs := [.imm .bool], f := fun x => z4h k x.1 x.2 }
noncomputable def zi2 : Vm.Spec := zf5 fuel
theorem zp7 : Vm.Spec.holds Tryz.prog 8 zi2 := z0u (E := y1t) (L := y1m) (fn := Tryz.f8) (Z := zf5) (z1g ok) (z0o (by exact trivial)) z0v (z7p (by exact ⟨by kernel_rfl, by kernel_rfl, by kernel_rfl, by kernel_rfl, by kernel_rfl, by kernel_rfl, by kernel_rfl, by kernel_rfl, by kernel_rfl, by kernel_rfl, by kernel_rfl, by kernel_rfl, trivial⟩)) (z3b (by exact ⟨(fun _ => z5d (by kernel_rfl)), (fun _ => z5d (by kernel_rfl)), (fun _ => z5d (by kernel_rfl)), (fun _ => z5d (by kernel_rfl)), (z26 [[27, 8]] (by exact ⟨z0h (ls := [(2, z1o)]) rfl rfl ⟨by kernel_rfl, fun _ => rfl, fun _ _ => by kernel_rfl, z0i (by kernel_rfl)⟩,  trivial⟩) rfl), (z26 [[29, 28, 64, 27, 8]] (by exact ⟨z0h (ls := [(2, z0c)]) rfl rfl ⟨by kernel_rfl, fun _ => rfl, fun _ _ => by kernel_rfl, z0i (by kernel_rfl)⟩,  trivial⟩) rfl),  trivial⟩)) (by kernel_rfl) (by kernel_rfl) (z0h (ls := [(2, zb9)]) rfl rfl ⟨by kernel_rfl, fun _ => rfl, fun _ _ => by kernel_rfl, z0i (by kernel_rfl)⟩) fun k x => by kernel_rfl
noncomputable def w91 : Env := { te := te, spec := [(25, zn2), (52, zg3), (54, zy1), (91, z9h)], body := [(71, Tryz.f71)] }
def w7k : z1u := []
def y2e (k : Nat) (a0 : ByteArray) (a1 : ByteArray) : Option (ByteArray × Int) :=
 (z3c fuel [a0, a1]).bind fun r1 =>
 if (r1 != 0) = true then
 some ((⟨#[]⟩ : ByteArray), r1)
 else
 (z7j fuel a0).bind fun r2 =>
 (z7j fuel a1).bind fun r3 =>
 (z2o fuel r2 r3).bind fun r4 =>
 (z8a fuel r4).bind fun r5 =>
 some (r5.1, r5.2)
def yp9 (k : Nat) : Vm.Spec := { ps := [.str, .str], rs := [.imm .str, .imm (.int .i64)], f := fun x => y2e k x.1 x.2 }
noncomputable def w0h : Vm.Spec := yp9 fuel
theorem yh2 : Vm.Spec.holds Tryz.prog 40 w0h := z0u (E := w91) (L := w7k) (fn := Tryz.f40) (Z := yp9) (z1g ok) (z0o (by exact ⟨⟨by kernel_rfl, z59⟩, ⟨by kernel_rfl, z6l⟩, ⟨by kernel_rfl, z9q⟩, ⟨by kernel_rfl, z6e⟩, trivial⟩)) z0v (z7p (by exact ⟨by kernel_rfl, by kernel_rfl, trivial⟩)) (z3b (by exact ⟨(fun _ => z5d (by kernel_rfl)),  trivial⟩)) (by kernel_rfl) (by kernel_rfl) (z0n rfl) fun k x => by kernel_rfl
noncomputable def w8z : Env := { te := te, spec := [(25, zn2), (46, z9s), (54, zy1), (91, z9h)], body := [(71, Tryz.f71)] }
def w7i : z1u := []
def y2c (k : Nat) (a0 : ByteArray) (a1 : ByteArray) : Option (ByteArray × Int) :=
 (z3c fuel [a0, a1]).bind fun r1 =>
 if (r1 != 0) = true then
 some ((⟨#[]⟩ : ByteArray), r1)
 else
 (z7j fuel a0).bind fun r2 =>
 (z7j fuel a1).bind fun r3 =>
 (z5j fuel r2 r3).bind fun r4 =>
 (z8a fuel r4).bind fun r5 =>
 some (r5.1, r5.2)
def yp7 (k : Nat) : Vm.Spec := { ps := [.str, .str], rs := [.imm .str, .imm (.int .i64)], f := fun x => y2c k x.1 x.2 }
noncomputable def w0g : Vm.Spec := yp7 fuel
theorem yh1 : Vm.Spec.holds Tryz.prog 41 w0g := z0u (E := w8z) (L := w7i) (fn := Tryz.f41) (Z := yp7) (z1g ok) (z0o (by exact ⟨⟨by kernel_rfl, z59⟩, ⟨by kernel_rfl, z5e⟩, ⟨by kernel_rfl, z9q⟩, ⟨by kernel_rfl, z6e⟩, trivial⟩)) z0v (z7p (by exact ⟨by kernel_rfl, by kernel_rfl, trivial⟩)) (z3b (by exact ⟨(fun _ => z5d (by kernel_rfl)),  trivial⟩)) (by kernel_rfl) (by kernel_rfl) (z0n rfl) fun k x => by kernel_rfl
noncomputable def y0e : Env := { te := te, spec := [(13, z6c), (40, w0h), (41, w0g)], body := [] }
def zt5 : Ann := { slots := [(1, .one (.val .str)), (2, .one (.val .str)), (11, .one (.own 200 .str)), (24, .one (.val (.slice .str))), (25, .one (.val (.int .i64))), (26, .one (.val (.int .i64)))], objs := [(200, .buf .str)] }
def z8v : Ann := { slots := [(11, .one (.own 200 .str))], objs := [(200, .buf .str)] }
def z8u : Ann := { slots := [(6, .one (.fix .nil)), (7, .one (.val .bool))], objs := [] }
def zt4 : Ann := { slots := [(1, .one (.val .str)), (2, .one (.val .str)), (8, .one (.own 220 (.slice .str))), (18, .one (.val (.slice (.slice .str)))), (19, .one (.val (.int .i64))), (20, .one (.val (.int .i64)))], objs := [(220, .buf (.slice .str))] }
def z8s : Ann := { slots := [(8, .one (.own 220 (.slice .str)))], objs := [(220, .buf (.slice .str))] }
def z8r : Ann := { slots := [(6, .one (.fix .nil)), (7, .one (.val .bool))], objs := [] }
def z2z : Nat -> ByteArray -> ByteArray -> List ByteArray -> Int -> Int -> List ByteArray -> Option (LR z8v z8u)
 | 0, _, _, _, _, _, _ => none
 | m + 1, s1, s2, s24, s25, s26, b200 =>
  if decide (s26 < s25) = true then if (0 : Int) <= s26 then if s26 < s24.length then
  (y2e fuel (s24.getD s26.toNat ByteArray.empty) s1).bind fun r1 =>
  (y2c fuel r1.1 s2).bind fun r2 =>
  (z4w fuel [r1.2, r2.2]).bind fun r3 =>
  if (!r3) = true then
  some (.ret (false, ()))
  else
  if (b200.length + 1) * 16 <= 140737488355328 then
  z2z m s1 s2 s24 s25 (IntKind.i64.wrap (s26 + 1)) (b200 ++ [r2.1])
  else none else none else none
  else
  some (.exit (b200, ()))
def z8t : LSpec := { h := zt5, x := z8v, r := z8u, xid := 2, rt := true, pins := [], f := fun k d => z2z k d.1 d.2.1 d.2.2.1 d.2.2.2.1 d.2.2.2.2.1 d.2.2.2.2.2.1 }
def z2y : Nat -> ByteArray -> ByteArray -> List (List ByteArray) -> Int -> Int -> List (List ByteArray) -> Option (LR z8s z8r)
 | 0, _, _, _, _, _, _ => none
 | m + 1, s1, s2, s18, s19, s20, b220 =>
  if decide (s20 < s19) = true then if (0 : Int) <= s20 then if s20 < s18.length then
  match z2z m s1 s2 (s18.getD s20.toNat []) ((s18.getD s20.toNat []).length : Int) 0 [] with
  | none => none
  | some (.exit d1) =>
   if (b220.length + 1) * 24 <= 140737488355328 then
   z2y m s1 s2 s18 s19 (IntKind.i64.wrap (s20 + 1)) (b220 ++ [d1.1])
   else none
  | some (.ret d1) =>
   some (.ret (d1.1, ()))
  else none else none
  else
  some (.exit (b220, ()))
def z8q : LSpec := { h := zt4, x := z8s, r := z8r, xid := 0, rt := true, pins := [], f := fun k d => z2y k d.1 d.2.1 d.2.2.1 d.2.2.2.1 d.2.2.2.2.1 d.2.2.2.2.2.1 }
def zx7 : z1u := [([11], [(3, z8q), (7, z8t)])]
def z3l (k : Nat) (a0 : List (List ByteArray)) (a1 : ByteArray) (a2 : ByteArray) : Option (List (List ByteArray) × Bool) :=
 match z2y k a1 a2 a0 (a0.length : Int) 0 [] with
 | none => none
 | some (.exit d1) =>
  some (d1.1, true)
 | some (.ret d1) =>
  some ([], d1.1)
def zb2 (k : Nat) : Vm.Spec := { ps := [.slice (.slice .str), .str, .str], rs := [.fresh (.slice .str), .imm .bool], f := fun x => z3l k x.1 x.2.1 x.2.2 }
noncomputable def zc8 : Vm.Spec := zb2 fuel
theorem zk3 : Vm.Spec.holds Tryz.prog 11 zc8 := z0u (E := y0e) (L := zx7) (fn := Tryz.f11) (Z := zb2) (z1g ok) (z0o (by exact ⟨⟨by kernel_rfl, z5r⟩, ⟨by kernel_rfl, yh2⟩, ⟨by kernel_rfl, yh1⟩, trivial⟩)) z0v (z07 rfl) (z01 rfl) (by kernel_rfl) (by kernel_rfl) (z0h (ls := [(3, z8q), (7, z8t)]) rfl rfl ⟨by kernel_rfl, fun _ => rfl, fun _ _ => by kernel_rfl, by kernel_rfl, fun _ => rfl, fun _ _ => by kernel_rfl, z0i (by kernel_rfl)⟩) fun k x => by kernel_rfl
noncomputable def zj8 : Env := { te := te, spec := [(6, z7n), (7, yp6), (8, zi2), (9, z5h), (10, zo9), (11, zc8), (12, zo6), (13, z6c)], body := [] }
def zi1 : z1u := []
def z3f (k : Nat) (a0 : List (List ByteArray)) (a1 : ByteArray) (a2 : ByteArray) : Option (Bool) :=
 (z5i fuel).bind fun r1 =>
 if (!r1) = true then
 some false
 else
 (zg7 fuel a1).bind fun r2 =>
 (z4h fuel 4 [a0, [[a1, a2]]]).bind fun r3 =>
 if (!r3) = false then
 (z1z fuel a0).bind fun r4 =>
 if (r4 != 0) = false then if (r2.2 != 0) = false then if decide (r2.1 <= 0) = false then
 (z6r fuel a2).bind fun r5 =>
 if (r5 != 0) = true then
 some true
 else
 (z3l fuel a0 a1 a2).bind fun r6 =>
 (z6h fuel a0).bind fun r7 =>
 (z6h fuel r6.1).bind fun r8 =>
 (z3l fuel [[r7.1.1]] a1 a2).bind fun r9 =>
 if r6.2 = true then if r9.2 = true then
 (z4w fuel [r7.2, r8.2]).bind fun r10 =>
 if r10 = true then if (0 : Int) < r9.1.length then if (0 : Int) < (r9.1.getD 0 []).length then
 some ((((r9.1.getD 0 []).getD 0 ByteArray.empty).toList == r8.1.1.toList))
 else none else none
 else
 some false
 else
 some false
 else
 some false
 else
 some true
 else
 some true
 else
 some true
 else
 some true
def z6o (k : Nat) : Vm.Spec := { ps := [.slice (.slice .str), .str, .str], rs := [.imm .bool], f := fun x => z3f k x.1 x.2.1 x.2.2 }
noncomputable def zj9 : Vm.Spec := z6o fuel
theorem z9w : Vm.Spec.holds Tryz.prog 3 zj9 := z0u (E := zj8) (L := zi1) (fn := Tryz.f3) (Z := z6o) (z1g ok) (z0o (by exact ⟨⟨by kernel_rfl, zd6⟩, ⟨by kernel_rfl, yb6⟩, ⟨by kernel_rfl, zp7⟩, ⟨by kernel_rfl, z3g⟩, ⟨by kernel_rfl, z87⟩, ⟨by kernel_rfl, zk3⟩, ⟨by kernel_rfl, zi9⟩, ⟨by kernel_rfl, z5r⟩, trivial⟩)) z0v (z07 rfl) (z01 rfl) (by kernel_rfl) (by kernel_rfl) (z0n rfl) fun k x => by kernel_rfl
end Go.Proofs.YtcdcoeofhnfjdabGreatDoor
