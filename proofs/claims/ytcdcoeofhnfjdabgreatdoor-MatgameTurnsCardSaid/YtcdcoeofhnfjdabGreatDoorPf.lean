/- Pure functions, printed by a program of this session out of the program. -/
import Derived.Test.YtcdcoeofhnfjdabGreatDoorPe
set_option linter.unusedVariables false
namespace Go.Proofs.YtcdcoeofhnfjdabGreatDoor
open Go Vm Go.Proofs
noncomputable def y42 : Env := { te := te, spec := [], body := [] }
def y27 : z1t := []
def z1n (k : Nat) (a0 : (List (List (Bool × ((List Int) × (List Int))))) × ((List Int) × (Int × Int))) : Option (Int) :=
 some (IntKind.i64.wrap ((IntKind.i64.wrap (a0.2.2.1 + a0.2.2.2)) + 1))
def zj2 (k : Nat) : Vm.Spec := { ps := [.ptr (.pair (.slice (.slice qT)) (.pair (.slice (.int .i64)) (.pair (.int .i64) (.int .i64))))], rs := [.imm (.int .i64)], f := fun x => z1n k x }
noncomputable def z9b : Vm.Spec := zj2 fuel
theorem z8u : Vm.Spec.holds Tryz.prog 85 z9b := z0u (E := y42) (L := y27) (fn := Tryz.f85) (Z := zj2) (z1f ok) (z0m (by exact trivial)) z0v (z07 rfl) (z01 rfl) (by kernel_rfl) (by kernel_rfl) (z0o rfl) fun k x => by kernel_rfl
noncomputable def y0m : Env := { te := te, spec := [(26, zi9), (50, y0u), (57, z9y), (85, z9b)], body := [] }
def z99 : List (Nat × OSh) := [(24, .box [.val .bool, .val (.slice (.int .u32)), .val (.slice (.int .u32))])]
def zu6 : Ann := { slots := [(0, .one (.val (.ptr (.pair (.slice (.slice qT)) (.pair (.slice (.int .i64)) (.pair (.int .i64) (.int .i64))))))), (1, .one (.val (.int .i64))), (5, .one (.val (.int .i64))), (6, .one (.fix (.pbox 24 0))), (13, .one (.val (.int .i64))), (14, .one (.val (.int .i64)))], objs := z99 }
def z98 : Ann := { slots := [(5, .one (.val (.int .i64)))], objs := z99 }
def z11 : Nat -> (List (List (Bool × ((List Int) × (List Int))))) × ((List Int) × (Int × Int)) -> Int -> Int -> Int -> Int -> Bool -> List Int -> List Int -> Option (LR z98 a0)
 | 0, _, _, _, _, _, _, _, _ => none
 | m + 1, s0, s1, s5, s13, s14, b24_0, b24_1, b24_2 =>
  if decide (s14 < s13) = true then if (0 : Int) <= s14 then if s14 < s0.1.length then if (0 : Int) <= s1 then if s1 < (s0.1.getD s14.toNat []).length then
  (z31 fuel (((s0.1.getD s14.toNat []).getD s1.toNat (false, ([], []))).1, (((s0.1.getD s14.toNat []).getD s1.toNat (false, ([], []))).2))).bind fun r1 =>
  if decide (r1 <= 0) = true then
  z11 m s0 s1 s5 s13 (IntKind.i64.wrap (s14 + 1)) b24_0 b24_1 b24_2
  else
  if (0 : Int) <= s14 then if s14 < s0.1.length then if (0 : Int) <= s14 then if s14 < s0.1.length then if (0 : Int) <= s1 then if s1 < (s0.1.getD s14.toNat []).length then
  (z1n fuel s0).bind fun r2 =>
  if (0 : Int) <= r2 then if r2 < (s0.1.getD s14.toNat []).length then
  (z5n fuel (((s0.1.getD s14.toNat []).getD r2.toNat (false, ([], []))).1, (((s0.1.getD s14.toNat []).getD r2.toNat (false, ([], []))).2)) (((s0.1.getD s14.toNat []).getD s1.toNat (false, ([], []))).1, (((s0.1.getD s14.toNat []).getD s1.toNat (false, ([], []))).2))).bind fun r3 =>
  if decide (s5 >= 0) = true then
  (z4w fuel r3 (b24_0, (b24_1, b24_2))).bind fun r4 =>
  if decide (r4 < 0) = false then if (r4 == 0) = true then if (0 : Int) <= s14 then if s14 < s0.2.1.length then if (0 : Int) <= s5 then if s5 < s0.2.1.length then if decide (s0.2.1.getD s14.toNat 0 < s0.2.1.getD s5.toNat 0) = true then
  z11 m s0 s1 s14 s13 (IntKind.i64.wrap (s14 + 1)) r3.1 r3.2.1 r3.2.2
  else
  z11 m s0 s1 s5 s13 (IntKind.i64.wrap (s14 + 1)) b24_0 b24_1 b24_2
  else none else none else none else none
  else
  z11 m s0 s1 s5 s13 (IntKind.i64.wrap (s14 + 1)) b24_0 b24_1 b24_2
  else
  z11 m s0 s1 s14 s13 (IntKind.i64.wrap (s14 + 1)) r3.1 r3.2.1 r3.2.2
  else
  z11 m s0 s1 s14 s13 (IntKind.i64.wrap (s14 + 1)) r3.1 r3.2.1 r3.2.2
  else none else none else none else none else none else none else none else none else none else none else none else none
  else
  some (.exit (s5, b24_0, b24_1, b24_2, ()))
def z97 : LSpec := { h := zu6, x := z98, r := a0, xid := 0, rt := false, pins := [24], f := fun k d => z11 k d.1 d.2.1 d.2.2.1 d.2.2.2.1 d.2.2.2.2.1 d.2.2.2.2.2.1 d.2.2.2.2.2.2.1 d.2.2.2.2.2.2.2.1 }
def zy5 : z1t := [([100], [(4, z97)])]
def z37 (k : Nat) (a0 : (List (List (Bool × ((List Int) × (List Int))))) × ((List Int) × (Int × Int))) (a1 : Int) : Option (Int) :=
 match z11 k a0 a1 (-1) a0.2.2.2 0 false [] [] with
 | none => none
 | some (.exit d1) =>
  some d1.1
 | some (.ret d1) =>
  none
def zb5 (k : Nat) : Vm.Spec := { ps := [.ptr (.pair (.slice (.slice qT)) (.pair (.slice (.int .i64)) (.pair (.int .i64) (.int .i64)))), .int .i64], rs := [.imm (.int .i64)], f := fun x => z37 k x.1 x.2 }
noncomputable def zd3 : Vm.Spec := zb5 fuel
theorem zl3 : Vm.Spec.holds Tryz.prog 100 zd3 := z0u (E := y0m) (L := zy5) (fn := Tryz.f100) (Z := zb5) (z1f ok) (z0m (by exact ⟨⟨by kernel_rfl, z7o⟩, ⟨by kernel_rfl, zh3⟩, ⟨by kernel_rfl, z5i⟩, ⟨by kernel_rfl, z8u⟩, trivial⟩)) z0v (z07 rfl) (z01 rfl) (by kernel_rfl) (by kernel_rfl) (z0h (ls := [(4, z97)]) rfl rfl ⟨by kernel_rfl, fun _ => rfl, fun _ _ => by kernel_rfl, z0i (by kernel_rfl)⟩) fun k x => by kernel_rfl
noncomputable def ye8 : Env := { te := te, spec := [(26, zi9), (42, zg7), (43, yf7), (44, y0v), (50, y0u), (52, zg8), (57, z9y), (58, y0t), (63, z7t), (78, y2b), (81, y1e), (85, z9b), (100, zd3)], body := [(79, Tryz.f79), (80, Tryz.f80), (82, Tryz.f82), (83, Tryz.f83), (84, Tryz.f84), (99, Tryz.f99)], rows := true }
def zw5 : List (Nat × OSh) := [(4060, .box [.grd 360 qT, .own 420 (.int .i64), .val (.int .i64), .val (.int .i64)]), (4072, .buf (.slice qT)), (4084, .buf qT), (360, .mat qT), (420, .buf (.int .i64))]
def zf4 : Ann := { slots := [(3, .one (.fix (.pbox 4060 0))), (4, .one (.own 4072 (.slice qT))), (5, .one (.own 4084 qT)), (25, .one (.val (.int .i64))), (26, .one (.val (.int .i64)))], objs := zw5 }
def z65 : Ann := { slots := [(3, .one (.fix (.pbox 4060 0)))], objs := zw5 }
def zw6 : List (Nat × OSh) := [(4060, .box [.grd 360 qT, .own 420 (.int .i64), .val (.int .i64), .val (.int .i64)]), (360, .mat qT), (420, .buf (.int .i64))]
def z7b : Ann := { slots := [(0, .one (.fix (.pbox 4060 0))), (3, .one (.val (.int .i64))), (23, .one (.val (.int .i64))), (24, .one (.val (.int .i64)))], objs := zw6 }
def z43 : Ann := { slots := [(0, .one (.fix (.pbox 4060 0))), (3, .one (.val (.int .i64)))], objs := zw6 }
def z8o : Ann := { slots := [(4, .one (.own 4084 qT)), (22, .one (.own 212 qT)), (23, .one (.val (.int .i64))), (24, .one (.val (.int .i64)))], objs := [(4084, .buf qT), (212, .buf qT)] }
def z4q : Ann := { slots := [(4, .one (.own 4084 qT))], objs := [(4084, .buf qT), (212, .buf qT)] }
def zw7 : List (Nat × OSh) := [(4060, .box [.grd 4188 qT, .own 420 (.int .i64), .val (.int .i64), .val (.int .i64)]), (4188, .mat qT), (36, .box [.val .bool, .val (.slice (.int .u32)), .val (.slice (.int .u32))]), (420, .buf (.int .i64))]
def z86 : Ann := { slots := [(0, .one (.fix (.pbox 4060 0))), (4, .one (.row 4188 qT)), (7, .one (.val (.int .i64))), (9, .one (.fix (.pbox 36 0))), (68, .one (.val (.int .i64))), (69, .one (.val (.int .i64)))], objs := zw7 }
def z4m : Ann := { slots := [(0, .one (.fix (.pbox 4060 0))), (4, .one (.row 4188 qT))], objs := zw7 }
def z3a : List (Nat × OSh) := [(4060, .box [.grd 4188 qT, .own 420 (.int .i64), .val (.int .i64), .val (.int .i64)]), (4188, .mat qT), (420, .buf (.int .i64))]
def z8p : Ann := { slots := [(0, .one (.fix (.pbox 4060 0))), (4, .one (.row 4188 qT)), (53, .one (.own 420 (.int .i64))), (54, .one (.val (.int .i64))), (55, .one (.val (.int .i64)))], objs := z3a }
def z4s : Ann := { slots := [], objs := z3a }
def z9g : Ann := { slots := [(0, .one (.fix (.pbox 4060 0))), (1, .one (.val (.int .i64))), (5, .one (.val (.int .i64)))], objs := z3a }
def z52 : Ann := { slots := [(0, .one (.fix (.pbox 4060 0))), (5, .one (.val (.int .i64)))], objs := z3a }
def zw8 : List (Nat × OSh) := [(4060, .box [.grd 4188 qT, .own 420 (.int .i64), .val (.int .i64), .val (.int .i64)]), (4024, .box [.val .bool, .val (.slice (.int .u32)), .val (.slice (.int .u32))]), (4188, .mat qT), (420, .buf (.int .i64))]
def z4g : Ann := { slots := [(0, .one (.fix (.pbox 4060 0))), (1, .one (.val (.int .i64))), (6, .one (.fix (.pbox 4024 0))), (28, .one (.val (.int .i64))), (29, .one (.val (.int .i64)))], objs := zw8 }
def z2j : Ann := { slots := [(0, .one (.fix (.pbox 4060 0)))], objs := zw8 }
def zw9 : List (Nat × OSh) := [(4060, .box [.grd 4188 qT, .own 420 (.int .i64), .val (.int .i64), .val (.int .i64)]), (36, .box [.val .bool, .val (.slice (.int .u32)), .val (.slice (.int .u32))]), (4188, .mat qT), (420, .buf (.int .i64))]
def z4c : Ann := { slots := [(0, .one (.fix (.pbox 4060 0))), (1, .one (.val (.int .i64))), (8, .one (.val (.int .i64))), (9, .one (.fix (.pbox 36 0))), (87, .one (.val (.int .i64))), (88, .one (.val (.int .i64)))], objs := zw9 }
def z2h : Ann := { slots := [(0, .one (.fix (.pbox 4060 0)))], objs := zw9 }
def z4h : Ann := { slots := [(0, .one (.fix (.pbox 4060 0))), (1, .one (.val (.int .i64))), (2, .one (.val (.int .i64))), (58, .one (.val (.int .i64))), (59, .one (.val (.int .i64)))], objs := z3a }
def z2l : Ann := { slots := [(0, .one (.fix (.pbox 4060 0)))], objs := z3a }
def z9f : Ann := { slots := [(0, .one (.fix (.pbox 4060 0))), (1, .one (.val (.int .i64)))], objs := z3a }
def z4z : Ann := { slots := [(4, .one (.val (.int .i64)))], objs := z3a }
def y7r : List (Nat × OSh) := [(4060, .box [.grd 4188 qT, .own 420 (.int .i64), .val (.int .i64), .val (.int .i64)]), (4040, .buf qT), (420, .buf (.int .i64)), (4188, .mat qT)]
def z7c : Ann := { slots := [(0, .one (.fix (.pbox 4060 0))), (3, .one (.own 4040 qT)), (14, .one (.own 420 (.int .i64))), (15, .one (.val (.int .i64))), (16, .one (.val (.int .i64)))], objs := y7r }
def y7s : List (Nat × OSh) := [(4040, .buf qT), (4060, .box [.grd 4188 qT, .own 420 (.int .i64), .val (.int .i64), .val (.int .i64)]), (420, .buf (.int .i64)), (4188, .mat qT)]
def z45 : Ann := { slots := [(3, .one (.own 4040 qT))], objs := y7s }
def y7t : List (Nat × OSh) := [(4060, .box [.grd 4188 qT, .own 420 (.int .i64), .val (.int .i64), .val (.int .i64)]), (464, .buf qT), (420, .buf (.int .i64)), (4188, .mat qT)]
def y61 : Ann := { slots := [(5, .one (.fix (.pbox 4060 0))), (6, .one (.val (.int .i64))), (8, .one (.own 464 qT)), (130, .one (.own 420 (.int .i64))), (131, .one (.val (.int .i64))), (132, .one (.val (.int .i64)))], objs := y7t }
def y7u : List (Nat × OSh) := [(464, .buf qT), (4060, .box [.grd 4188 qT, .own 420 (.int .i64), .val (.int .i64), .val (.int .i64)]), (420, .buf (.int .i64)), (4188, .mat qT)]
def zs4 : Ann := { slots := [(8, .one (.own 464 qT))], objs := y7u }
def z3y : Ann := { slots := [(4, .one (.own 8084 qT)), (22, .one (.own 4268 qT)), (23, .one (.val (.int .i64))), (24, .one (.val (.int .i64)))], objs := [(8084, .buf qT), (4268, .buf qT)] }
def z27 : Ann := { slots := [(4, .one (.own 8084 qT))], objs := [(8084, .buf qT), (4268, .buf qT)] }
def zt0 : List (Nat × OSh) := [(4060, .box [.grd 8188 qT, .own 420 (.int .i64), .val (.int .i64), .val (.int .i64)]), (8188, .mat qT), (36, .box [.val .bool, .val (.slice (.int .u32)), .val (.slice (.int .u32))]), (420, .buf (.int .i64))]
def z3r : Ann := { slots := [(0, .one (.fix (.pbox 4060 0))), (4, .one (.row 8188 qT)), (7, .one (.val (.int .i64))), (9, .one (.fix (.pbox 36 0))), (68, .one (.val (.int .i64))), (69, .one (.val (.int .i64)))], objs := zt0 }
def z20 : Ann := { slots := [(0, .one (.fix (.pbox 4060 0))), (4, .one (.row 8188 qT))], objs := zt0 }
def z1l : List (Nat × OSh) := [(4060, .box [.grd 8188 qT, .own 420 (.int .i64), .val (.int .i64), .val (.int .i64)]), (8188, .mat qT), (420, .buf (.int .i64))]
def z3z : Ann := { slots := [(0, .one (.fix (.pbox 4060 0))), (4, .one (.row 8188 qT)), (53, .one (.own 420 (.int .i64))), (54, .one (.val (.int .i64))), (55, .one (.val (.int .i64)))], objs := z1l }
def z29 : Ann := { slots := [], objs := z1l }
def zt1 : List (Nat × OSh) := [(4060, .box [.grd 8188 qT, .own 420 (.int .i64), .val (.int .i64), .val (.int .i64)]), (8024, .box [.val .bool, .val (.slice (.int .u32)), .val (.slice (.int .u32))]), (8188, .mat qT), (420, .buf (.int .i64))]
def z3s : Ann := { slots := [(0, .one (.fix (.pbox 4060 0))), (1, .one (.val (.int .i64))), (6, .one (.fix (.pbox 8024 0))), (28, .one (.val (.int .i64))), (29, .one (.val (.int .i64)))], objs := zt1 }
def z22 : Ann := { slots := [(0, .one (.fix (.pbox 4060 0)))], objs := zt1 }
def z73 : List (Nat × OSh) := [(4060, .box [.grd 8188 qT, .own 420 (.int .i64), .val (.int .i64), .val (.int .i64)]), (36, .box [.val .bool, .val (.slice (.int .u32)), .val (.slice (.int .u32))]), (8188, .mat qT), (420, .buf (.int .i64))]
def z3k : Ann := { slots := [(0, .one (.fix (.pbox 4060 0))), (1, .one (.val (.int .i64))), (8, .one (.val (.int .i64))), (9, .one (.fix (.pbox 36 0))), (87, .one (.val (.int .i64))), (88, .one (.val (.int .i64)))], objs := z73 }
def z1y : Ann := { slots := [(0, .one (.fix (.pbox 4060 0)))], objs := z73 }
def z3t : Ann := { slots := [(0, .one (.fix (.pbox 4060 0))), (1, .one (.val (.int .i64))), (2, .one (.val (.int .i64))), (58, .one (.val (.int .i64))), (59, .one (.val (.int .i64)))], objs := z1l }
def z24 : Ann := { slots := [(0, .one (.fix (.pbox 4060 0)))], objs := z1l }
def z49 : Ann := { slots := [(0, .one (.fix (.pbox 4060 0))), (1, .one (.val (.int .i64))), (5, .one (.val (.int .i64)))], objs := z1l }
def z2e : Ann := { slots := [(0, .one (.fix (.pbox 4060 0))), (5, .one (.val (.int .i64)))], objs := z1l }
def zt2 : List (Nat × OSh) := [(4060, .box [.grd 8188 qT, .own 420 (.int .i64), .val (.int .i64), .val (.int .i64)]), (4024, .box [.val .bool, .val (.slice (.int .u32)), .val (.slice (.int .u32))]), (8188, .mat qT), (420, .buf (.int .i64))]
def z2s : Ann := { slots := [(0, .one (.fix (.pbox 4060 0))), (1, .one (.val (.int .i64))), (6, .one (.fix (.pbox 4024 0))), (28, .one (.val (.int .i64))), (29, .one (.val (.int .i64)))], objs := zt2 }
def z1a : Ann := { slots := [(0, .one (.fix (.pbox 4060 0)))], objs := zt2 }
def z2p : Ann := { slots := [(0, .one (.fix (.pbox 4060 0))), (1, .one (.val (.int .i64))), (8, .one (.val (.int .i64))), (9, .one (.fix (.pbox 36 0))), (87, .one (.val (.int .i64))), (88, .one (.val (.int .i64)))], objs := z73 }
def z18 : Ann := { slots := [(0, .one (.fix (.pbox 4060 0)))], objs := z73 }
def z2t : Ann := { slots := [(0, .one (.fix (.pbox 4060 0))), (1, .one (.val (.int .i64))), (2, .one (.val (.int .i64))), (58, .one (.val (.int .i64))), (59, .one (.val (.int .i64)))], objs := z1l }
def z1c : Ann := { slots := [(0, .one (.fix (.pbox 4060 0)))], objs := z1l }
def z48 : Ann := { slots := [(0, .one (.fix (.pbox 4060 0))), (1, .one (.val (.int .i64)))], objs := z1l }
def z2c : Ann := { slots := [(4, .one (.val (.int .i64)))], objs := z1l }
def z72 : Ann := { slots := [(0, .one (.fix (.pbox 4060 0))), (8, .one (.val (.int .i64))), (112, .one (.val (.int .i64))), (113, .one (.val (.int .i64)))], objs := z1l }
def z3q : Ann := { slots := [(0, .one (.fix (.pbox 4060 0)))], objs := z1l }
def zt3 : List (Nat × OSh) := [(4060, .box [.grd 8188 qT, .own 420 (.int .i64), .val (.int .i64), .val (.int .i64)]), (420, .buf (.int .i64)), (8188, .mat qT)]
def z71 : Ann := { slots := [(0, .one (.fix (.pbox 4060 0))), (4, .one (.val (.int .i64))), (102, .one (.own 420 (.int .i64))), (103, .one (.val (.int .i64))), (104, .one (.val (.int .i64)))], objs := zt3 }
def z3o : Ann := { slots := [], objs := zt3 }
def z1s : Nat -> Int -> Int -> Int -> Int -> List (List (Bool × ((List Int) × (List Int)))) -> List (Bool × ((List Int) × (List Int))) -> List (List (Bool × ((List Int) × (List Int)))) -> List Int -> Option (LR z65 a0)
 | 0, _, _, _, _, _, _, _, _ => none
 | m + 1, s25, s26, b4060_2, b4060_3, b4072, b4084, b360, b420 =>
  if decide (s26 < s25) = true then if (0 : Int) <= IntKind.i64.wrap ((IntKind.i64.wrap (b4060_2 + b4060_3)) + 2) then if IntKind.i64.wrap ((IntKind.i64.wrap (b4060_2 + b4060_3)) + 2) <= IntKind.i64.wrap ((IntKind.i64.wrap (b4060_2 + b4060_3)) + 2) then if (IntKind.i64.wrap ((IntKind.i64.wrap (b4060_2 + b4060_3)) + 2)) * 56 <= 281474976710656 then if (0 : Int) <= s26 then if s26 < b4072.length then
  (z6n fuel 1).bind fun r1 =>
  if (0 : Int) <= IntKind.i64.wrap (b4060_2 + s26) then if IntKind.i64.wrap (b4060_2 + s26) < ((b4072.getD s26.toNat []).take (List.replicate ((IntKind.i64.wrap ((IntKind.i64.wrap (b4060_2 + b4060_3)) + 2)).toNat) ((false, ([], [])) : Bool × ((List Int) × (List Int)))).length ++ (List.replicate ((IntKind.i64.wrap ((IntKind.i64.wrap (b4060_2 + b4060_3)) + 2)).toNat) ((false, ([], [])) : Bool × ((List Int) × (List Int)))).drop (b4072.getD s26.toNat []).length).length then
  (z6n fuel (-1)).bind fun r2 =>
  if (0 : Int) <= IntKind.i64.wrap (b4060_2 + b4060_3) then if IntKind.i64.wrap (b4060_2 + b4060_3) < (((b4072.getD s26.toNat []).take (List.replicate ((IntKind.i64.wrap ((IntKind.i64.wrap (b4060_2 + b4060_3)) + 2)).toNat) ((false, ([], [])) : Bool × ((List Int) × (List Int)))).length ++ (List.replicate ((IntKind.i64.wrap ((IntKind.i64.wrap (b4060_2 + b4060_3)) + 2)).toNat) ((false, ([], [])) : Bool × ((List Int) × (List Int)))).drop (b4072.getD s26.toNat []).length).set ((IntKind.i64.wrap (b4060_2 + s26)).toNat) r1).length then if (0 : Int) <= s26 then if s26 < b4084.length then if (0 : Int) <= IntKind.i64.wrap ((IntKind.i64.wrap (b4060_2 + b4060_3)) + 1) then if IntKind.i64.wrap ((IntKind.i64.wrap (b4060_2 + b4060_3)) + 1) < ((((b4072.getD s26.toNat []).take (List.replicate ((IntKind.i64.wrap ((IntKind.i64.wrap (b4060_2 + b4060_3)) + 2)).toNat) ((false, ([], [])) : Bool × ((List Int) × (List Int)))).length ++ (List.replicate ((IntKind.i64.wrap ((IntKind.i64.wrap (b4060_2 + b4060_3)) + 2)).toNat) ((false, ([], [])) : Bool × ((List Int) × (List Int)))).drop (b4072.getD s26.toNat []).length).set ((IntKind.i64.wrap (b4060_2 + s26)).toNat) r1).set ((IntKind.i64.wrap (b4060_2 + b4060_3)).toNat) r2).length then
  if (b360.length + 1) * 24 <= 140737488355328 then if (b420.length + 1) * 8 <= 140737488355328 then
  z1s m s25 (IntKind.i64.wrap (s26 + 1)) b4060_2 b4060_3 b4072 b4084 (b360 ++ [((((b4072.getD s26.toNat []).take (List.replicate ((IntKind.i64.wrap ((IntKind.i64.wrap (b4060_2 + b4060_3)) + 2)).toNat) ((false, ([], [])) : Bool × ((List Int) × (List Int)))).length ++ (List.replicate ((IntKind.i64.wrap ((IntKind.i64.wrap (b4060_2 + b4060_3)) + 2)).toNat) ((false, ([], [])) : Bool × ((List Int) × (List Int)))).drop (b4072.getD s26.toNat []).length).set ((IntKind.i64.wrap (b4060_2 + s26)).toNat) r1).set ((IntKind.i64.wrap (b4060_2 + b4060_3)).toNat) r2).set ((IntKind.i64.wrap ((IntKind.i64.wrap (b4060_2 + b4060_3)) + 1)).toNat) ((b4084.getD s26.toNat (false, ([], []))).1, ((b4084.getD s26.toNat (false, ([], []))).2))]) (b420 ++ [IntKind.i64.wrap (b4060_2 + s26)])
  else none else none else none else none else none else none else none else none else none else none else none else none else none else none else none
  else
  some (.exit (b4060_2, b4060_3, b4072, b4084, b360, b420, ()))
def z64 : LSpec := { h := zf4, x := z65, r := a0, xid := 0, rt := false, pins := [4060, 4072, 4084], f := fun k d => z1s k d.1 d.2.1 d.2.2.1 d.2.2.2.1 d.2.2.2.2.1 d.2.2.2.2.2.1 d.2.2.2.2.2.2.1 d.2.2.2.2.2.2.2.1 }
def z0k : Nat -> Int -> Int -> Int -> Int -> Int -> List (List (Bool × ((List Int) × (List Int)))) -> List Int -> Option (LR z43 a0)
 | 0, _, _, _, _, _, _, _ => none
 | m + 1, s3, s23, s24, b4060_2, b4060_3, b360, b420 =>
  if decide (s24 < s23) = true then if (0 : Int) <= s24 then if s24 < b360.length then
  (z1n fuel (b360, (b420, (b4060_2, b4060_3)))).bind fun r1 =>
  if (0 : Int) <= r1 then if r1 < (b360.getD s24.toNat []).length then
  (z31 fuel (((b360.getD s24.toNat []).getD r1.toNat (false, ([], []))).1, (((b360.getD s24.toNat []).getD r1.toNat (false, ([], []))).2))).bind fun r2 =>
  if decide (r2 < 0) = true then if decide (s3 < 0) = false then if (0 : Int) <= s3 then if s3 < b360.length then
  (z1n fuel (b360, (b420, (b4060_2, b4060_3)))).bind fun r3 =>
  if (0 : Int) <= r3 then if r3 < (b360.getD s3.toNat []).length then
  (z4w fuel (((b360.getD s24.toNat []).getD r1.toNat (false, ([], []))).1, (((b360.getD s24.toNat []).getD r1.toNat (false, ([], []))).2)) (((b360.getD s3.toNat []).getD r3.toNat (false, ([], []))).1, (((b360.getD s3.toNat []).getD r3.toNat (false, ([], []))).2))).bind fun r4 =>
  if decide (r4 < 0) = true then
  z0k m s24 s23 (IntKind.i64.wrap (s24 + 1)) b4060_2 b4060_3 b360 b420
  else
  z0k m s3 s23 (IntKind.i64.wrap (s24 + 1)) b4060_2 b4060_3 b360 b420
  else none else none else none else none
  else
  z0k m s24 s23 (IntKind.i64.wrap (s24 + 1)) b4060_2 b4060_3 b360 b420
  else
  z0k m s3 s23 (IntKind.i64.wrap (s24 + 1)) b4060_2 b4060_3 b360 b420
  else none else none else none else none
  else
  some (.exit (s3, b4060_2, b4060_3, b360, b420, ()))
def z42 : LSpec := { h := z7b, x := z43, r := a0, xid := 0, rt := false, pins := [4060, 360, 420], f := fun k d => z0k k d.1 d.2.1 d.2.2.1 d.2.2.2.1 d.2.2.2.2.1 d.2.2.2.2.2.1 d.2.2.2.2.2.2.1 }
def z0t : Nat -> Int -> Int -> List (Bool × ((List Int) × (List Int))) -> List (Bool × ((List Int) × (List Int))) -> Option (LR z4q a0)
 | 0, _, _, _, _ => none
 | m + 1, s23, s24, b4084, b212 =>
  if decide (s24 < s23) = true then if (0 : Int) <= s24 then if s24 < b212.length then
  (z80 fuel ((b212.getD s24.toNat (false, ([], []))).1, ((b212.getD s24.toNat (false, ([], []))).2))).bind fun r1 =>
  if (0 : Int) <= s24 then if s24 < b4084.length then
  z0t m s23 (IntKind.i64.wrap (s24 + 1)) (b4084.set s24.toNat r1) b212
  else none else none else none else none
  else
  some (.exit (b4084, b212, ()))
def z4p : LSpec := { h := z8o, x := z4q, r := a0, xid := 0, rt := false, pins := [4084, 212], f := fun k d => z0t k d.1 d.2.1 d.2.2.1 d.2.2.2.1 }
def z15 : Nat -> Nat -> Int -> Int -> Int -> Int -> Int -> List (List (Bool × ((List Int) × (List Int)))) -> Bool -> List Int -> List Int -> List Int -> Option (LR z4m a0)
 | 0, _, _, _, _, _, _, _, _, _, _, _ => none
 | m + 1, s4, s7, s68, s69, b4060_2, b4060_3, b4188, b36_0, b36_1, b36_2, b420 =>
  if decide (s69 < s68) = true then if (0 : Int) <= s69 then if s69 < (b4188.getD s4 []).length then if (0 : Int) <= s7 then if s7 < b4188.length then if (0 : Int) <= s69 then if s69 < (b4188.getD s7.toNat []).length then
  (z2n fuel (b36_0, (b36_1, b36_2)) (((b4188.getD s7.toNat []).getD s69.toNat (false, ([], []))).1, (((b4188.getD s7.toNat []).getD s69.toNat (false, ([], []))).2))).bind fun r1 =>
  (z4b fuel (((b4188.getD s4 []).getD s69.toNat (false, ([], []))).1, (((b4188.getD s4 []).getD s69.toNat (false, ([], []))).2)) r1).bind fun r2 =>
  if (0 : Int) <= s69 then if s69 < (b4188.getD s4 []).length then
  z15 m s4 s7 s68 (IntKind.i64.wrap (s69 + 1)) b4060_2 b4060_3 (b4188.set s4 ((b4188.getD s4 []).set s69.toNat r2)) b36_0 b36_1 b36_2 b420
  else none else none else none else none else none else none else none else none
  else
  some (.exit (s4, b4060_2, b4060_3, b4188, b36_0, b36_1, b36_2, b420, ()))
def z4l : LSpec := { h := z86, x := z4m, r := a0, xid := 4, rt := false, pins := [4060, 4188, 36, 420], f := fun k d => z15 k d.1 d.2.1 d.2.2.1 d.2.2.2.1 d.2.2.2.2.1 d.2.2.2.2.2.1 d.2.2.2.2.2.2.1 d.2.2.2.2.2.2.2.1 d.2.2.2.2.2.2.2.2.1 d.2.2.2.2.2.2.2.2.2.1 d.2.2.2.2.2.2.2.2.2.2.1 }
def z0q : Nat -> Nat -> Int -> Int -> Int -> Int -> List (List (Bool × ((List Int) × (List Int)))) -> List Int -> Option (LR z4s a0)
 | 0, _, _, _, _, _, _, _ => none
 | m + 1, s4, s54, s55, b4060_2, b4060_3, b4188, b420 =>
  if decide (s55 < s54) = true then if (0 : Int) <= s55 then if s55 < b420.length then if (0 : Int) <= b420.getD s55.toNat 0 then if b420.getD s55.toNat 0 < (b4188.getD s4 []).length then
  (z31 fuel (((b4188.getD s4 []).getD ((b420.getD s55.toNat 0).toNat) (false, ([], []))).1, (((b4188.getD s4 []).getD ((b420.getD s55.toNat 0).toNat) (false, ([], []))).2))).bind fun r1 =>
  if (r1 == 0) = true then
  z0q m s4 s54 (IntKind.i64.wrap (s55 + 1)) b4060_2 b4060_3 b4188 b420
  else
  match z15 m s4 s55 ((b4188.getD s4 []).length : Int) 0 b4060_2 b4060_3 b4188 (((b4188.getD s4 []).getD ((b420.getD s55.toNat 0).toNat) (false, ([], []))).1) ((((b4188.getD s4 []).getD ((b420.getD s55.toNat 0).toNat) (false, ([], []))).2).1) ((((b4188.getD s4 []).getD ((b420.getD s55.toNat 0).toNat) (false, ([], []))).2).2) b420 with
  | none => none
  | some (.exit d2) =>
   z0q m d2.1 s54 (IntKind.i64.wrap (s55 + 1)) d2.2.1 d2.2.2.1 d2.2.2.2.1 d2.2.2.2.2.2.2.2.1
  | some (.ret d2) =>
   none
  else none else none else none else none
  else
  some (.exit (b4060_2, b4060_3, b4188, b420, ()))
def z4r : LSpec := { h := z8p, x := z4s, r := a0, xid := 2, rt := false, pins := [4060, 4188, 420], f := fun k d => z0q k d.1 d.2.1 d.2.2.1 d.2.2.2.1 d.2.2.2.2.1 d.2.2.2.2.2.1 d.2.2.2.2.2.2.1 }
def z1e : Nat -> Int -> Int -> Int -> Int -> List (List (Bool × ((List Int) × (List Int)))) -> List Int -> Option (LR z52 a0)
 | 0, _, _, _, _, _, _ => none
 | m + 1, s1, s5, b4060_2, b4060_3, b4188, b420 =>
  if decide (s5 < s1) = true then if (0 : Int) <= b4060_3 then if b4060_3 < b4188.length then if (0 : Int) <= s5 then if s5 < (b4188.getD b4060_3.toNat []).length then
  (z31 fuel (((b4188.getD b4060_3.toNat []).getD s5.toNat (false, ([], []))).1, (((b4188.getD b4060_3.toNat []).getD s5.toNat (false, ([], []))).2))).bind fun r1 =>
  if decide (r1 >= 0) = true then
  z1e m s1 (IntKind.i64.wrap (s5 + 1)) b4060_2 b4060_3 b4188 b420
  else
  some (.exit (s5, b4060_2, b4060_3, b4188, b420, ()))
  else none else none else none else none
  else
  some (.exit (s5, b4060_2, b4060_3, b4188, b420, ()))
def z50 : LSpec := { h := z9g, x := z52, r := a0, xid := 2, rt := false, pins := [4060, 4188, 420], f := fun k d => z1e k d.1 d.2.1 d.2.2.1 d.2.2.2.1 d.2.2.2.2.1 d.2.2.2.2.2.1 }
def z0n : Nat -> Int -> Int -> Int -> Int -> Int -> Bool -> List Int -> List Int -> List (List (Bool × ((List Int) × (List Int)))) -> List Int -> Option (LR z2j a0)
 | 0, _, _, _, _, _, _, _, _, _, _ => none
 | m + 1, s1, s28, s29, b4060_2, b4060_3, b4024_0, b4024_1, b4024_2, b4188, b420 =>
  if decide (s29 < s28) = true then if (0 : Int) <= s1 then if s1 < b4188.length then if (0 : Int) <= s1 then if s1 < b4188.length then if (0 : Int) <= s29 then if s29 < (b4188.getD s1.toNat []).length then
  (z5n fuel (((b4188.getD s1.toNat []).getD s29.toNat (false, ([], []))).1, (((b4188.getD s1.toNat []).getD s29.toNat (false, ([], []))).2)) (b4024_0, (b4024_1, b4024_2))).bind fun r1 =>
  if (0 : Int) <= s29 then if s29 < (b4188.getD s1.toNat []).length then
  z0n m s1 s28 (IntKind.i64.wrap (s29 + 1)) b4060_2 b4060_3 b4024_0 b4024_1 b4024_2 (b4188.set s1.toNat ((b4188.getD s1.toNat []).set s29.toNat r1)) b420
  else none else none else none else none else none else none else none else none
  else
  some (.exit (b4060_2, b4060_3, b4024_0, b4024_1, b4024_2, b4188, b420, ()))
def z2i : LSpec := { h := z4g, x := z2j, r := a0, xid := 0, rt := false, pins := [4060, 4024, 4188, 420], f := fun k d => z0n k d.1 d.2.1 d.2.2.1 d.2.2.2.1 d.2.2.2.2.1 d.2.2.2.2.2.1 d.2.2.2.2.2.2.1 d.2.2.2.2.2.2.2.1 d.2.2.2.2.2.2.2.2.1 d.2.2.2.2.2.2.2.2.2.1 }
def z0j : Nat -> Int -> Int -> Int -> Int -> Int -> Int -> Bool -> List Int -> List Int -> List (List (Bool × ((List Int) × (List Int)))) -> List Int -> Option (LR z2h a0)
 | 0, _, _, _, _, _, _, _, _, _, _, _ => none
 | m + 1, s1, s8, s87, s88, b4060_2, b4060_3, b36_0, b36_1, b36_2, b4188, b420 =>
  if decide (s88 < s87) = true then if (0 : Int) <= s8 then if s8 < b4188.length then if (0 : Int) <= s8 then if s8 < b4188.length then if (0 : Int) <= s88 then if s88 < (b4188.getD s8.toNat []).length then if (0 : Int) <= s1 then if s1 < b4188.length then if (0 : Int) <= s88 then if s88 < (b4188.getD s1.toNat []).length then
  (z2n fuel (b36_0, (b36_1, b36_2)) (((b4188.getD s1.toNat []).getD s88.toNat (false, ([], []))).1, (((b4188.getD s1.toNat []).getD s88.toNat (false, ([], []))).2))).bind fun r1 =>
  (z4b fuel (((b4188.getD s8.toNat []).getD s88.toNat (false, ([], []))).1, (((b4188.getD s8.toNat []).getD s88.toNat (false, ([], []))).2)) r1).bind fun r2 =>
  if (0 : Int) <= s88 then if s88 < (b4188.getD s8.toNat []).length then
  z0j m s1 s8 s87 (IntKind.i64.wrap (s88 + 1)) b4060_2 b4060_3 b36_0 b36_1 b36_2 (b4188.set s8.toNat ((b4188.getD s8.toNat []).set s88.toNat r2)) b420
  else none else none else none else none else none else none else none else none else none else none else none else none
  else
  some (.exit (b4060_2, b4060_3, b36_0, b36_1, b36_2, b4188, b420, ()))
def z2g : LSpec := { h := z4c, x := z2h, r := a0, xid := 4, rt := false, pins := [4060, 36, 4188, 420], f := fun k d => z0j k d.1 d.2.1 d.2.2.1 d.2.2.2.1 d.2.2.2.2.1 d.2.2.2.2.2.1 d.2.2.2.2.2.2.1 d.2.2.2.2.2.2.2.1 d.2.2.2.2.2.2.2.2.1 d.2.2.2.2.2.2.2.2.2.1 d.2.2.2.2.2.2.2.2.2.2.1 }
def z08 : Nat -> Int -> Int -> Int -> Int -> Int -> Int -> List (List (Bool × ((List Int) × (List Int)))) -> List Int -> Option (LR z2l a0)
 | 0, _, _, _, _, _, _, _, _ => none
 | m + 1, s1, s2, s58, s59, b4060_2, b4060_3, b4188, b420 =>
  if decide (s59 < s58) = true then if (0 : Int) <= s59 then if s59 < b4188.length then if (0 : Int) <= s2 then if s2 < (b4188.getD s59.toNat []).length then if (s59 == s1) = false then
  (z31 fuel (((b4188.getD s59.toNat []).getD s2.toNat (false, ([], []))).1, (((b4188.getD s59.toNat []).getD s2.toNat (false, ([], []))).2))).bind fun r1 =>
  if (r1 == 0) = true then
  z08 m s1 s2 s58 (IntKind.i64.wrap (s59 + 1)) b4060_2 b4060_3 b4188 b420
  else
  if (0 : Int) <= s59 then if s59 < b4188.length then
  match z0j m s1 s59 ((b4188.getD s59.toNat []).length : Int) 0 b4060_2 b4060_3 (((b4188.getD s59.toNat []).getD s2.toNat (false, ([], []))).1) ((((b4188.getD s59.toNat []).getD s2.toNat (false, ([], []))).2).1) ((((b4188.getD s59.toNat []).getD s2.toNat (false, ([], []))).2).2) b4188 b420 with
  | none => none
  | some (.exit d2) =>
   z08 m s1 s2 s58 (IntKind.i64.wrap (s59 + 1)) d2.1 d2.2.1 d2.2.2.2.2.2.1 d2.2.2.2.2.2.2.1
  | some (.ret d2) =>
   none
  else none else none
  else
  z08 m s1 s2 s58 (IntKind.i64.wrap (s59 + 1)) b4060_2 b4060_3 b4188 b420
  else none else none else none else none
  else
  some (.exit (b4060_2, b4060_3, b4188, b420, ()))
def z2k : LSpec := { h := z4h, x := z2l, r := a0, xid := 2, rt := false, pins := [4060, 4188, 420], f := fun k d => z08 k d.1 d.2.1 d.2.2.1 d.2.2.2.1 d.2.2.2.2.1 d.2.2.2.2.2.1 d.2.2.2.2.2.2.1 d.2.2.2.2.2.2.2.1 }
def z12 : Nat -> Int -> Int -> Int -> List (List (Bool × ((List Int) × (List Int)))) -> List Int -> Option (LR a0 z4z)
 | 0, _, _, _, _, _ => none
 | m + 1, s1, b4060_2, b4060_3, b4188, b420 =>
  match z1e m s1 0 b4060_2 b4060_3 b4188 b420 with
  | none => none
  | some (.exit d1) =>
   if (d1.1 == s1) = true then
   some (.ret ((-1), d1.2.1, d1.2.2.1, d1.2.2.2.1, d1.2.2.2.2.1, ()))
   else
   (z37 fuel (d1.2.2.2.1, (d1.2.2.2.2.1, (d1.2.1, d1.2.2.1))) d1.1).bind fun r2 =>
   if decide (r2 < 0) = true then
   some (.ret (d1.1, d1.2.1, d1.2.2.1, d1.2.2.2.1, d1.2.2.2.2.1, ()))
   else
   if (0 : Int) <= r2 then if r2 < d1.2.2.2.1.length then if (0 : Int) <= d1.1 then if d1.1 < (d1.2.2.2.1.getD r2.toNat []).length then if (0 : Int) <= r2 then if r2 < d1.2.2.2.1.length then
   match z0n m r2 ((d1.2.2.2.1.getD r2.toNat []).length : Int) 0 d1.2.1 d1.2.2.1 (((d1.2.2.2.1.getD r2.toNat []).getD d1.1.toNat (false, ([], []))).1) ((((d1.2.2.2.1.getD r2.toNat []).getD d1.1.toNat (false, ([], []))).2).1) ((((d1.2.2.2.1.getD r2.toNat []).getD d1.1.toNat (false, ([], []))).2).2) d1.2.2.2.1 d1.2.2.2.2.1 with
   | none => none
   | some (.exit d3) =>
    match z08 m r2 d1.1 (d3.2.2.2.2.2.1.length : Int) 0 d3.1 d3.2.1 d3.2.2.2.2.2.1 d3.2.2.2.2.2.2.1 with
    | none => none
    | some (.exit d4) =>
     if (0 : Int) <= r2 then if r2 < d4.2.2.2.1.length then
     z12 m s1 d4.1 d4.2.1 d4.2.2.1 (d4.2.2.2.1.set r2.toNat d1.1)
     else none else none
    | some (.ret d4) =>
     none
   | some (.ret d3) =>
    none
   else none else none else none else none else none else none
  | some (.ret d1) =>
   none
def z4y : LSpec := { h := z9f, x := a0, r := z4z, xid := 0, rt := true, pins := [4060, 4188, 420], f := fun k d => z12 k d.1 d.2.1 d.2.2.1 d.2.2.2.1 d.2.2.2.2.1 }
def z0l : Nat -> Int -> Int -> Int -> Int -> List (Bool × ((List Int) × (List Int))) -> List Int -> List (List (Bool × ((List Int) × (List Int)))) -> Option (LR z45 a0)
 | 0, _, _, _, _, _, _, _ => none
 | m + 1, s15, s16, b4060_2, b4060_3, b4040, b420, b4188 =>
  if decide (s16 < s15) = true then if (0 : Int) <= s16 then if s16 < b420.length then if decide (b420.getD s16.toNat 0 < b4060_2) = true then if (0 : Int) <= s16 then if s16 < b4188.length then
  (z1n fuel (b4188, (b420, (b4060_2, b4060_3)))).bind fun r1 =>
  if (0 : Int) <= r1 then if r1 < (b4188.getD s16.toNat []).length then if (0 : Int) <= b420.getD s16.toNat 0 then if b420.getD s16.toNat 0 < b4040.length then
  z0l m s15 (IntKind.i64.wrap (s16 + 1)) b4060_2 b4060_3 (b4040.set ((b420.getD s16.toNat 0).toNat) (((b4188.getD s16.toNat []).getD r1.toNat (false, ([], []))).1, (((b4188.getD s16.toNat []).getD r1.toNat (false, ([], []))).2))) b420 b4188
  else none else none else none else none else none else none
  else
  z0l m s15 (IntKind.i64.wrap (s16 + 1)) b4060_2 b4060_3 b4040 b420 b4188
  else none else none
  else
  some (.exit (b4040, b4060_2, b4060_3, b420, b4188, ()))
def z44 : LSpec := { h := z7c, x := z45, r := a0, xid := 0, rt := false, pins := [4060, 4040, 420, 4188], f := fun k d => z0l k d.1 d.2.1 d.2.2.1 d.2.2.2.1 d.2.2.2.2.1 d.2.2.2.2.2.1 d.2.2.2.2.2.2.1 }
def z1k : Nat -> Int -> Int -> Int -> Int -> Int -> List (Bool × ((List Int) × (List Int))) -> List Int -> List (List (Bool × ((List Int) × (List Int)))) -> Option (LR zs4 a0)
 | 0, _, _, _, _, _, _, _, _ => none
 | m + 1, s6, s131, s132, b4060_2, b4060_3, b464, b420, b4188 =>
  if decide (s132 < s131) = true then if (0 : Int) <= s132 then if s132 < b420.length then if decide (b420.getD s132.toNat 0 < b4060_2) = true then if (0 : Int) <= s132 then if s132 < b4188.length then if (0 : Int) <= s6 then if s6 < (b4188.getD s132.toNat []).length then
  (z80 fuel (((b4188.getD s132.toNat []).getD s6.toNat (false, ([], []))).1, (((b4188.getD s132.toNat []).getD s6.toNat (false, ([], []))).2))).bind fun r1 =>
  if (0 : Int) <= b420.getD s132.toNat 0 then if b420.getD s132.toNat 0 < b464.length then
  z1k m s6 s131 (IntKind.i64.wrap (s132 + 1)) b4060_2 b4060_3 (b464.set ((b420.getD s132.toNat 0).toNat) r1) b420 b4188
  else none else none else none else none else none else none
  else
  z1k m s6 s131 (IntKind.i64.wrap (s132 + 1)) b4060_2 b4060_3 b464 b420 b4188
  else none else none
  else
  some (.exit (b464, b4060_2, b4060_3, b420, b4188, ()))
def zs3 : LSpec := { h := y61, x := zs4, r := a0, xid := 0, rt := false, pins := [4060, 464, 420, 4188], f := fun k d => z1k k d.1 d.2.1 d.2.2.1 d.2.2.2.1 d.2.2.2.2.1 d.2.2.2.2.2.1 d.2.2.2.2.2.2.1 d.2.2.2.2.2.2.2.1 }
def z0f : Nat -> Int -> Int -> List (Bool × ((List Int) × (List Int))) -> List (Bool × ((List Int) × (List Int))) -> Option (LR z27 a0)
 | 0, _, _, _, _ => none
 | m + 1, s23, s24, b8084, b4268 =>
  if decide (s24 < s23) = true then if (0 : Int) <= s24 then if s24 < b4268.length then
  (z80 fuel ((b4268.getD s24.toNat (false, ([], []))).1, ((b4268.getD s24.toNat (false, ([], []))).2))).bind fun r1 =>
  if (0 : Int) <= s24 then if s24 < b8084.length then
  z0f m s23 (IntKind.i64.wrap (s24 + 1)) (b8084.set s24.toNat r1) b4268
  else none else none else none else none
  else
  some (.exit (b8084, b4268, ()))
def z26 : LSpec := { h := z3y, x := z27, r := a0, xid := 0, rt := false, pins := [8084, 4268], f := fun k d => z0f k d.1 d.2.1 d.2.2.1 d.2.2.2.1 }
def z0e : Nat -> Nat -> Int -> Int -> Int -> Int -> Int -> List (List (Bool × ((List Int) × (List Int)))) -> Bool -> List Int -> List Int -> List Int -> Option (LR z20 a0)
 | 0, _, _, _, _, _, _, _, _, _, _, _ => none
 | m + 1, s4, s7, s68, s69, b4060_2, b4060_3, b8188, b36_0, b36_1, b36_2, b420 =>
  if decide (s69 < s68) = true then if (0 : Int) <= s69 then if s69 < (b8188.getD s4 []).length then if (0 : Int) <= s7 then if s7 < b8188.length then if (0 : Int) <= s69 then if s69 < (b8188.getD s7.toNat []).length then
  (z2n fuel (b36_0, (b36_1, b36_2)) (((b8188.getD s7.toNat []).getD s69.toNat (false, ([], []))).1, (((b8188.getD s7.toNat []).getD s69.toNat (false, ([], []))).2))).bind fun r1 =>
  (z4b fuel (((b8188.getD s4 []).getD s69.toNat (false, ([], []))).1, (((b8188.getD s4 []).getD s69.toNat (false, ([], []))).2)) r1).bind fun r2 =>
  if (0 : Int) <= s69 then if s69 < (b8188.getD s4 []).length then
  z0e m s4 s7 s68 (IntKind.i64.wrap (s69 + 1)) b4060_2 b4060_3 (b8188.set s4 ((b8188.getD s4 []).set s69.toNat r2)) b36_0 b36_1 b36_2 b420
  else none else none else none else none else none else none else none else none
  else
  some (.exit (s4, b4060_2, b4060_3, b8188, b36_0, b36_1, b36_2, b420, ()))
def z1z : LSpec := { h := z3r, x := z20, r := a0, xid := 4, rt := false, pins := [4060, 8188, 36, 420], f := fun k d => z0e k d.1 d.2.1 d.2.2.1 d.2.2.2.1 d.2.2.2.2.1 d.2.2.2.2.2.1 d.2.2.2.2.2.2.1 d.2.2.2.2.2.2.2.1 d.2.2.2.2.2.2.2.2.1 d.2.2.2.2.2.2.2.2.2.1 d.2.2.2.2.2.2.2.2.2.2.1 }
def z0a : Nat -> Nat -> Int -> Int -> Int -> Int -> List (List (Bool × ((List Int) × (List Int)))) -> List Int -> Option (LR z29 a0)
 | 0, _, _, _, _, _, _, _ => none
 | m + 1, s4, s54, s55, b4060_2, b4060_3, b8188, b420 =>
  if decide (s55 < s54) = true then if (0 : Int) <= s55 then if s55 < b420.length then if (0 : Int) <= b420.getD s55.toNat 0 then if b420.getD s55.toNat 0 < (b8188.getD s4 []).length then
  (z31 fuel (((b8188.getD s4 []).getD ((b420.getD s55.toNat 0).toNat) (false, ([], []))).1, (((b8188.getD s4 []).getD ((b420.getD s55.toNat 0).toNat) (false, ([], []))).2))).bind fun r1 =>
  if (r1 == 0) = true then
  z0a m s4 s54 (IntKind.i64.wrap (s55 + 1)) b4060_2 b4060_3 b8188 b420
  else
  match z0e m s4 s55 ((b8188.getD s4 []).length : Int) 0 b4060_2 b4060_3 b8188 (((b8188.getD s4 []).getD ((b420.getD s55.toNat 0).toNat) (false, ([], []))).1) ((((b8188.getD s4 []).getD ((b420.getD s55.toNat 0).toNat) (false, ([], []))).2).1) ((((b8188.getD s4 []).getD ((b420.getD s55.toNat 0).toNat) (false, ([], []))).2).2) b420 with
  | none => none
  | some (.exit d2) =>
   z0a m d2.1 s54 (IntKind.i64.wrap (s55 + 1)) d2.2.1 d2.2.2.1 d2.2.2.2.1 d2.2.2.2.2.2.2.2.1
  | some (.ret d2) =>
   none
  else none else none else none else none
  else
  some (.exit (b4060_2, b4060_3, b8188, b420, ()))
def z28 : LSpec := { h := z3z, x := z29, r := a0, xid := 2, rt := false, pins := [4060, 8188, 420], f := fun k d => z0a k d.1 d.2.1 d.2.2.1 d.2.2.2.1 d.2.2.2.2.1 d.2.2.2.2.2.1 d.2.2.2.2.2.2.1 }
def z09 : Nat -> Int -> Int -> Int -> Int -> Int -> Bool -> List Int -> List Int -> List (List (Bool × ((List Int) × (List Int)))) -> List Int -> Option (LR z22 a0)
 | 0, _, _, _, _, _, _, _, _, _, _ => none
 | m + 1, s1, s28, s29, b4060_2, b4060_3, b8024_0, b8024_1, b8024_2, b8188, b420 =>
  if decide (s29 < s28) = true then if (0 : Int) <= s1 then if s1 < b8188.length then if (0 : Int) <= s1 then if s1 < b8188.length then if (0 : Int) <= s29 then if s29 < (b8188.getD s1.toNat []).length then
  (z5n fuel (((b8188.getD s1.toNat []).getD s29.toNat (false, ([], []))).1, (((b8188.getD s1.toNat []).getD s29.toNat (false, ([], []))).2)) (b8024_0, (b8024_1, b8024_2))).bind fun r1 =>
  if (0 : Int) <= s29 then if s29 < (b8188.getD s1.toNat []).length then
  z09 m s1 s28 (IntKind.i64.wrap (s29 + 1)) b4060_2 b4060_3 b8024_0 b8024_1 b8024_2 (b8188.set s1.toNat ((b8188.getD s1.toNat []).set s29.toNat r1)) b420
  else none else none else none else none else none else none else none else none
  else
  some (.exit (b4060_2, b4060_3, b8024_0, b8024_1, b8024_2, b8188, b420, ()))
def z21 : LSpec := { h := z3s, x := z22, r := a0, xid := 0, rt := false, pins := [4060, 8024, 8188, 420], f := fun k d => z09 k d.1 d.2.1 d.2.2.1 d.2.2.2.1 d.2.2.2.2.1 d.2.2.2.2.2.1 d.2.2.2.2.2.2.1 d.2.2.2.2.2.2.2.1 d.2.2.2.2.2.2.2.2.1 d.2.2.2.2.2.2.2.2.2.1 }
def z0b : Nat -> Int -> Int -> Int -> Int -> Int -> Int -> Bool -> List Int -> List Int -> List (List (Bool × ((List Int) × (List Int)))) -> List Int -> Option (LR z1y a0)
 | 0, _, _, _, _, _, _, _, _, _, _, _ => none
 | m + 1, s1, s8, s87, s88, b4060_2, b4060_3, b36_0, b36_1, b36_2, b8188, b420 =>
  if decide (s88 < s87) = true then if (0 : Int) <= s8 then if s8 < b8188.length then if (0 : Int) <= s8 then if s8 < b8188.length then if (0 : Int) <= s88 then if s88 < (b8188.getD s8.toNat []).length then if (0 : Int) <= s1 then if s1 < b8188.length then if (0 : Int) <= s88 then if s88 < (b8188.getD s1.toNat []).length then
  (z2n fuel (b36_0, (b36_1, b36_2)) (((b8188.getD s1.toNat []).getD s88.toNat (false, ([], []))).1, (((b8188.getD s1.toNat []).getD s88.toNat (false, ([], []))).2))).bind fun r1 =>
  (z4b fuel (((b8188.getD s8.toNat []).getD s88.toNat (false, ([], []))).1, (((b8188.getD s8.toNat []).getD s88.toNat (false, ([], []))).2)) r1).bind fun r2 =>
  if (0 : Int) <= s88 then if s88 < (b8188.getD s8.toNat []).length then
  z0b m s1 s8 s87 (IntKind.i64.wrap (s88 + 1)) b4060_2 b4060_3 b36_0 b36_1 b36_2 (b8188.set s8.toNat ((b8188.getD s8.toNat []).set s88.toNat r2)) b420
  else none else none else none else none else none else none else none else none else none else none else none else none
  else
  some (.exit (b4060_2, b4060_3, b36_0, b36_1, b36_2, b8188, b420, ()))
def z1x : LSpec := { h := z3k, x := z1y, r := a0, xid := 4, rt := false, pins := [4060, 36, 8188, 420], f := fun k d => z0b k d.1 d.2.1 d.2.2.1 d.2.2.2.1 d.2.2.2.2.1 d.2.2.2.2.2.1 d.2.2.2.2.2.2.1 d.2.2.2.2.2.2.2.1 d.2.2.2.2.2.2.2.2.1 d.2.2.2.2.2.2.2.2.2.1 d.2.2.2.2.2.2.2.2.2.2.1 }
def z04 : Nat -> Int -> Int -> Int -> Int -> Int -> Int -> List (List (Bool × ((List Int) × (List Int)))) -> List Int -> Option (LR z24 a0)
 | 0, _, _, _, _, _, _, _, _ => none
 | m + 1, s1, s2, s58, s59, b4060_2, b4060_3, b8188, b420 =>
  if decide (s59 < s58) = true then if (0 : Int) <= s59 then if s59 < b8188.length then if (0 : Int) <= s2 then if s2 < (b8188.getD s59.toNat []).length then if (s59 == s1) = false then
  (z31 fuel (((b8188.getD s59.toNat []).getD s2.toNat (false, ([], []))).1, (((b8188.getD s59.toNat []).getD s2.toNat (false, ([], []))).2))).bind fun r1 =>
  if (r1 == 0) = true then
  z04 m s1 s2 s58 (IntKind.i64.wrap (s59 + 1)) b4060_2 b4060_3 b8188 b420
  else
  if (0 : Int) <= s59 then if s59 < b8188.length then
  match z0b m s1 s59 ((b8188.getD s59.toNat []).length : Int) 0 b4060_2 b4060_3 (((b8188.getD s59.toNat []).getD s2.toNat (false, ([], []))).1) ((((b8188.getD s59.toNat []).getD s2.toNat (false, ([], []))).2).1) ((((b8188.getD s59.toNat []).getD s2.toNat (false, ([], []))).2).2) b8188 b420 with
  | none => none
  | some (.exit d2) =>
   z04 m s1 s2 s58 (IntKind.i64.wrap (s59 + 1)) d2.1 d2.2.1 d2.2.2.2.2.2.1 d2.2.2.2.2.2.2.1
  | some (.ret d2) =>
   none
  else none else none
  else
  z04 m s1 s2 s58 (IntKind.i64.wrap (s59 + 1)) b4060_2 b4060_3 b8188 b420
  else none else none else none else none
  else
  some (.exit (b4060_2, b4060_3, b8188, b420, ()))
def z23 : LSpec := { h := z3t, x := z24, r := a0, xid := 2, rt := false, pins := [4060, 8188, 420], f := fun k d => z04 k d.1 d.2.1 d.2.2.1 d.2.2.2.1 d.2.2.2.2.1 d.2.2.2.2.2.1 d.2.2.2.2.2.2.1 d.2.2.2.2.2.2.2.1 }
def z0g : Nat -> Int -> Int -> Int -> Int -> List (List (Bool × ((List Int) × (List Int)))) -> List Int -> Option (LR z2e a0)
 | 0, _, _, _, _, _, _ => none
 | m + 1, s1, s5, b4060_2, b4060_3, b8188, b420 =>
  if decide (s5 < s1) = true then if (0 : Int) <= b4060_3 then if b4060_3 < b8188.length then if (0 : Int) <= s5 then if s5 < (b8188.getD b4060_3.toNat []).length then
  (z31 fuel (((b8188.getD b4060_3.toNat []).getD s5.toNat (false, ([], []))).1, (((b8188.getD b4060_3.toNat []).getD s5.toNat (false, ([], []))).2))).bind fun r1 =>
  if decide (r1 >= 0) = true then
  z0g m s1 (IntKind.i64.wrap (s5 + 1)) b4060_2 b4060_3 b8188 b420
  else
  some (.exit (s5, b4060_2, b4060_3, b8188, b420, ()))
  else none else none else none else none
  else
  some (.exit (s5, b4060_2, b4060_3, b8188, b420, ()))
def z2d : LSpec := { h := z49, x := z2e, r := a0, xid := 2, rt := false, pins := [4060, 8188, 420], f := fun k d => z0g k d.1 d.2.1 d.2.2.1 d.2.2.2.1 d.2.2.2.2.1 d.2.2.2.2.2.1 }
def z06 : Nat -> Int -> Int -> Int -> Int -> Int -> Bool -> List Int -> List Int -> List (List (Bool × ((List Int) × (List Int)))) -> List Int -> Option (LR z1a a0)
 | 0, _, _, _, _, _, _, _, _, _, _ => none
 | m + 1, s1, s28, s29, b4060_2, b4060_3, b4024_0, b4024_1, b4024_2, b8188, b420 =>
  if decide (s29 < s28) = true then if (0 : Int) <= s1 then if s1 < b8188.length then if (0 : Int) <= s1 then if s1 < b8188.length then if (0 : Int) <= s29 then if s29 < (b8188.getD s1.toNat []).length then
  (z5n fuel (((b8188.getD s1.toNat []).getD s29.toNat (false, ([], []))).1, (((b8188.getD s1.toNat []).getD s29.toNat (false, ([], []))).2)) (b4024_0, (b4024_1, b4024_2))).bind fun r1 =>
  if (0 : Int) <= s29 then if s29 < (b8188.getD s1.toNat []).length then
  z06 m s1 s28 (IntKind.i64.wrap (s29 + 1)) b4060_2 b4060_3 b4024_0 b4024_1 b4024_2 (b8188.set s1.toNat ((b8188.getD s1.toNat []).set s29.toNat r1)) b420
  else none else none else none else none else none else none else none else none
  else
  some (.exit (b4060_2, b4060_3, b4024_0, b4024_1, b4024_2, b8188, b420, ()))
def z19 : LSpec := { h := z2s, x := z1a, r := a0, xid := 0, rt := false, pins := [4060, 4024, 8188, 420], f := fun k d => z06 k d.1 d.2.1 d.2.2.1 d.2.2.2.1 d.2.2.2.2.1 d.2.2.2.2.2.1 d.2.2.2.2.2.2.1 d.2.2.2.2.2.2.2.1 d.2.2.2.2.2.2.2.2.1 d.2.2.2.2.2.2.2.2.2.1 }
def z05 : Nat -> Int -> Int -> Int -> Int -> Int -> Int -> Bool -> List Int -> List Int -> List (List (Bool × ((List Int) × (List Int)))) -> List Int -> Option (LR z18 a0)
 | 0, _, _, _, _, _, _, _, _, _, _, _ => none
 | m + 1, s1, s8, s87, s88, b4060_2, b4060_3, b36_0, b36_1, b36_2, b8188, b420 =>
  if decide (s88 < s87) = true then if (0 : Int) <= s8 then if s8 < b8188.length then if (0 : Int) <= s8 then if s8 < b8188.length then if (0 : Int) <= s88 then if s88 < (b8188.getD s8.toNat []).length then if (0 : Int) <= s1 then if s1 < b8188.length then if (0 : Int) <= s88 then if s88 < (b8188.getD s1.toNat []).length then
  (z2n fuel (b36_0, (b36_1, b36_2)) (((b8188.getD s1.toNat []).getD s88.toNat (false, ([], []))).1, (((b8188.getD s1.toNat []).getD s88.toNat (false, ([], []))).2))).bind fun r1 =>
  (z4b fuel (((b8188.getD s8.toNat []).getD s88.toNat (false, ([], []))).1, (((b8188.getD s8.toNat []).getD s88.toNat (false, ([], []))).2)) r1).bind fun r2 =>
  if (0 : Int) <= s88 then if s88 < (b8188.getD s8.toNat []).length then
  z05 m s1 s8 s87 (IntKind.i64.wrap (s88 + 1)) b4060_2 b4060_3 b36_0 b36_1 b36_2 (b8188.set s8.toNat ((b8188.getD s8.toNat []).set s88.toNat r2)) b420
  else none else none else none else none else none else none else none else none else none else none else none else none
  else
  some (.exit (b4060_2, b4060_3, b36_0, b36_1, b36_2, b8188, b420, ()))
def z17 : LSpec := { h := z2p, x := z18, r := a0, xid := 4, rt := false, pins := [4060, 36, 8188, 420], f := fun k d => z05 k d.1 d.2.1 d.2.2.1 d.2.2.2.1 d.2.2.2.2.1 d.2.2.2.2.2.1 d.2.2.2.2.2.2.1 d.2.2.2.2.2.2.2.1 d.2.2.2.2.2.2.2.2.1 d.2.2.2.2.2.2.2.2.2.1 d.2.2.2.2.2.2.2.2.2.2.1 }
def z02 : Nat -> Int -> Int -> Int -> Int -> Int -> Int -> List (List (Bool × ((List Int) × (List Int)))) -> List Int -> Option (LR z1c a0)
 | 0, _, _, _, _, _, _, _, _ => none
 | m + 1, s1, s2, s58, s59, b4060_2, b4060_3, b8188, b420 =>
  if decide (s59 < s58) = true then if (0 : Int) <= s59 then if s59 < b8188.length then if (0 : Int) <= s2 then if s2 < (b8188.getD s59.toNat []).length then if (s59 == s1) = false then
  (z31 fuel (((b8188.getD s59.toNat []).getD s2.toNat (false, ([], []))).1, (((b8188.getD s59.toNat []).getD s2.toNat (false, ([], []))).2))).bind fun r1 =>
  if (r1 == 0) = true then
  z02 m s1 s2 s58 (IntKind.i64.wrap (s59 + 1)) b4060_2 b4060_3 b8188 b420
  else
  if (0 : Int) <= s59 then if s59 < b8188.length then
  match z05 m s1 s59 ((b8188.getD s59.toNat []).length : Int) 0 b4060_2 b4060_3 (((b8188.getD s59.toNat []).getD s2.toNat (false, ([], []))).1) ((((b8188.getD s59.toNat []).getD s2.toNat (false, ([], []))).2).1) ((((b8188.getD s59.toNat []).getD s2.toNat (false, ([], []))).2).2) b8188 b420 with
  | none => none
  | some (.exit d2) =>
   z02 m s1 s2 s58 (IntKind.i64.wrap (s59 + 1)) d2.1 d2.2.1 d2.2.2.2.2.2.1 d2.2.2.2.2.2.2.1
  | some (.ret d2) =>
   none
  else none else none
  else
  z02 m s1 s2 s58 (IntKind.i64.wrap (s59 + 1)) b4060_2 b4060_3 b8188 b420
  else none else none else none else none
  else
  some (.exit (b4060_2, b4060_3, b8188, b420, ()))
def z1b : LSpec := { h := z2t, x := z1c, r := a0, xid := 2, rt := false, pins := [4060, 8188, 420], f := fun k d => z02 k d.1 d.2.1 d.2.2.1 d.2.2.2.1 d.2.2.2.2.1 d.2.2.2.2.2.1 d.2.2.2.2.2.2.1 d.2.2.2.2.2.2.2.1 }
def z0p : Nat -> Int -> Int -> Int -> List (List (Bool × ((List Int) × (List Int)))) -> List Int -> Option (LR a0 z2c)
 | 0, _, _, _, _, _ => none
 | m + 1, s1, b4060_2, b4060_3, b8188, b420 =>
  match z0g m s1 0 b4060_2 b4060_3 b8188 b420 with
  | none => none
  | some (.exit d1) =>
   if (d1.1 == s1) = true then
   some (.ret ((-1), d1.2.1, d1.2.2.1, d1.2.2.2.1, d1.2.2.2.2.1, ()))
   else
   (z37 fuel (d1.2.2.2.1, (d1.2.2.2.2.1, (d1.2.1, d1.2.2.1))) d1.1).bind fun r2 =>
   if decide (r2 < 0) = true then
   some (.ret (d1.1, d1.2.1, d1.2.2.1, d1.2.2.2.1, d1.2.2.2.2.1, ()))
   else
   if (0 : Int) <= r2 then if r2 < d1.2.2.2.1.length then if (0 : Int) <= d1.1 then if d1.1 < (d1.2.2.2.1.getD r2.toNat []).length then if (0 : Int) <= r2 then if r2 < d1.2.2.2.1.length then
   match z06 m r2 ((d1.2.2.2.1.getD r2.toNat []).length : Int) 0 d1.2.1 d1.2.2.1 (((d1.2.2.2.1.getD r2.toNat []).getD d1.1.toNat (false, ([], []))).1) ((((d1.2.2.2.1.getD r2.toNat []).getD d1.1.toNat (false, ([], []))).2).1) ((((d1.2.2.2.1.getD r2.toNat []).getD d1.1.toNat (false, ([], []))).2).2) d1.2.2.2.1 d1.2.2.2.2.1 with
   | none => none
   | some (.exit d3) =>
    match z02 m r2 d1.1 (d3.2.2.2.2.2.1.length : Int) 0 d3.1 d3.2.1 d3.2.2.2.2.2.1 d3.2.2.2.2.2.2.1 with
    | none => none
    | some (.exit d4) =>
     if (0 : Int) <= r2 then if r2 < d4.2.2.2.1.length then
     z0p m s1 d4.1 d4.2.1 d4.2.2.1 (d4.2.2.2.1.set r2.toNat d1.1)
     else none else none
    | some (.ret d4) =>
     none
   | some (.ret d3) =>
    none
   else none else none else none else none else none else none
  | some (.ret d1) =>
   none
def z2b : LSpec := { h := z48, x := a0, r := z2c, xid := 0, rt := true, pins := [4060, 8188, 420], f := fun k d => z0p k d.1 d.2.1 d.2.2.1 d.2.2.2.1 d.2.2.2.2.1 }
def z10 : Nat -> Int -> Int -> Int -> Int -> Int -> List (List (Bool × ((List Int) × (List Int)))) -> List Int -> Option (LR z3q a0)
 | 0, _, _, _, _, _, _, _ => none
 | m + 1, s8, s112, s113, b4060_2, b4060_3, b8188, b420 =>
  if decide (s113 < s112) = true then if (0 : Int) <= s8 then if s8 < b8188.length then if (0 : Int) <= s113 then if s113 < (b8188.getD s8.toNat []).length then
  (z31 fuel (((b8188.getD s8.toNat []).getD s113.toNat (false, ([], []))).1, (((b8188.getD s8.toNat []).getD s113.toNat (false, ([], []))).2))).bind fun r1 =>
  if (r1 != 0) = true then if (0 : Int) <= s8 then if s8 < b8188.length then if (0 : Int) <= s113 then if s113 < (b8188.getD s8.toNat []).length then if (0 : Int) <= s8 then if s8 < b8188.length then
  match z09 m s8 ((b8188.getD s8.toNat []).length : Int) 0 b4060_2 b4060_3 (((b8188.getD s8.toNat []).getD s113.toNat (false, ([], []))).1) ((((b8188.getD s8.toNat []).getD s113.toNat (false, ([], []))).2).1) ((((b8188.getD s8.toNat []).getD s113.toNat (false, ([], []))).2).2) b8188 b420 with
  | none => none
  | some (.exit d2) =>
   match z04 m s8 s113 (d2.2.2.2.2.2.1.length : Int) 0 d2.1 d2.2.1 d2.2.2.2.2.2.1 d2.2.2.2.2.2.2.1 with
   | none => none
   | some (.exit d3) =>
    if (0 : Int) <= s8 then if s8 < d3.2.2.2.1.length then
    some (.exit (d3.1, d3.2.1, d3.2.2.1, d3.2.2.2.1.set s8.toNat s113, ()))
    else none else none
   | some (.ret d3) =>
    none
  | some (.ret d2) =>
   none
  else none else none else none else none else none else none
  else
  z10 m s8 s112 (IntKind.i64.wrap (s113 + 1)) b4060_2 b4060_3 b8188 b420
  else none else none else none else none
  else
  some (.exit (b4060_2, b4060_3, b8188, b420, ()))
def z3p : LSpec := { h := z72, x := z3q, r := a0, xid := 4, rt := false, pins := [4060, 8188, 420], f := fun k d => z10 k d.1 d.2.1 d.2.2.1 d.2.2.2.1 d.2.2.2.2.1 d.2.2.2.2.2.1 d.2.2.2.2.2.2.1 }
def z0s : Nat -> Int -> Int -> Int -> Int -> Int -> List Int -> List (List (Bool × ((List Int) × (List Int)))) -> Option (LR z3o a0)
 | 0, _, _, _, _, _, _, _ => none
 | m + 1, s4, s103, s104, b4060_2, b4060_3, b420, b8188 =>
  if decide (s104 < s103) = true then if (0 : Int) <= s104 then if s104 < b420.length then if (b420.getD s104.toNat 0 != s4) = true then
  z0s m s4 s103 (IntKind.i64.wrap (s104 + 1)) b4060_2 b4060_3 b420 b8188
  else
  match z10 m s104 s4 0 b4060_2 b4060_3 b8188 b420 with
  | none => none
  | some (.exit d1) =>
   z0s m s4 s103 (IntKind.i64.wrap (s104 + 1)) d1.1 d1.2.1 d1.2.2.2.1 d1.2.2.1
  | some (.ret d1) =>
   none
  else none else none
  else
  some (.exit (b4060_2, b4060_3, b420, b8188, ()))
def z3n : LSpec := { h := z71, x := z3o, r := a0, xid := 2, rt := false, pins := [4060, 420, 8188], f := fun k d => z0s k d.1 d.2.1 d.2.2.1 d.2.2.2.1 d.2.2.2.2.1 d.2.2.2.2.2.1 d.2.2.2.2.2.2.1 }
def yc0 : z1t := [([79, 49], [(4, z64)]), ([80, 49], [(3, z42), (19, z3n), (23, z3p)]), ([82, 49], [(2, z4p), (8, z4r), (13, z4l)]), ([83, 49], [(1, z4y), (2, z50)]), ([99, 83, 49], [(2, z2i), (7, z2k), (12, z2g)]), ([84, 49], [(3, z44)]), ([49], [(16, zs3)]), ([82, 80, 49], [(2, z26), (8, z28), (13, z1z)]), ([99, 80, 49], [(2, z21), (7, z23), (12, z1x)]), ([83, 80, 49], [(1, z2b), (2, z2d)]), ([99, 83, 80, 49], [(2, z19), (7, z1b), (12, z17)])]
def ze1 (k : Nat) (a0 : (List (List ByteArray)) × ((List ByteArray) × (List ByteArray))) : Option ((Int × ((List ByteArray) × ((List ByteArray) × ((List ByteArray) × ByteArray)))) × Int) :=
 (z6q fuel a0).bind fun r1 =>
 if (r1 != 0) = true then
 some ((0, ([], ([], ([], ByteArray.empty)))), r1)
 else
 (z69 fuel a0.1).bind fun r2 =>
 (z2m fuel a0.2.1).bind fun r3 =>
 match z1s k (a0.1.length : Int) 0 (a0.2.2.length : Int) (a0.1.length : Int) r2 r3 [] [] with
 | none => none
 | some (.exit d4) =>
  match z0k k (-1) d4.2.1 0 d4.1 d4.2.1 d4.2.2.2.2.1 d4.2.2.2.2.2.1 with
  | none => none
  | some (.exit d5) =>
   if decide (d5.1 < 0) = true then
   (z2m fuel a0.2.2).bind fun r6 =>
   if (0 : Int) <= IntKind.i64.wrap ((IntKind.i64.wrap (d5.2.1 + d5.2.2.1)) + 2) then if IntKind.i64.wrap ((IntKind.i64.wrap (d5.2.1 + d5.2.2.1)) + 2) <= IntKind.i64.wrap ((IntKind.i64.wrap (d5.2.1 + d5.2.2.1)) + 2) then if (IntKind.i64.wrap ((IntKind.i64.wrap (d5.2.1 + d5.2.2.1)) + 2)) * 56 <= 281474976710656 then
   match z0t k (r6.length : Int) 0 (List.replicate ((IntKind.i64.wrap ((IntKind.i64.wrap (d5.2.1 + d5.2.2.1)) + 2)).toNat) ((false, ([], [])) : Bool × ((List Int) × (List Int)))) r6 with
   | none => none
   | some (.exit d7) =>
    if (0 : Int) <= d5.2.2.1 then if d5.2.2.1 <= d5.2.2.2.1.length then if ((d5.2.2.2.1.take d5.2.2.1.toNat).length + 1) * 24 <= 140737488355328 then
    match z0q k ((d5.2.2.2.1.take d5.2.2.1.toNat).length) (d5.2.2.2.2.1.length : Int) 0 d5.2.1 d5.2.2.1 ((d5.2.2.2.1.take d5.2.2.1.toNat) ++ [d7.1]) d5.2.2.2.2.1 with
    | none => none
    | some (.exit d8) =>
     match z12 k (IntKind.i64.wrap (d8.1 + d8.2.1)) d8.1 d8.2.1 d8.2.2.1 d8.2.2.2.1 with
     | none => none
     | some (.exit d9) =>
      none
     | some (.ret d9) =>
      if (0 : Int) <= d9.2.1 then if d9.2.1 <= d9.2.1 then if d9.2.1 * 56 <= 281474976710656 then
      match z0l k (d9.2.2.2.2.1.length : Int) 0 d9.2.1 d9.2.2.1 (List.replicate d9.2.1.toNat ((false, ([], [])) : Bool × ((List Int) × (List Int)))) d9.2.2.2.2.1 d9.2.2.2.1 with
      | none => none
      | some (.exit d10) =>
       if decide (d9.1 < 0) = true then if (0 : Int) <= d10.2.2.1 then if d10.2.2.1 < d10.2.2.2.2.1.length then if (0 : Int) <= IntKind.i64.wrap (d10.2.1 + d10.2.2.1) then if IntKind.i64.wrap (d10.2.1 + d10.2.2.1) <= (d10.2.2.2.2.1.getD d10.2.2.1.toNat []).length then if (0 : Int) <= d10.2.1 then if d10.2.1 <= IntKind.i64.wrap (d10.2.1 + d10.2.2.1) then if (0 : Int) <= d10.2.2.1 then if d10.2.2.1 < d10.2.2.2.2.1.length then
       (z1n fuel (d10.2.2.2.2.1, (d10.2.2.2.1, (d10.2.1, d10.2.2.1)))).bind fun r11 =>
       if (0 : Int) <= r11 then if r11 < (d10.2.2.2.2.1.getD d10.2.2.1.toNat []).length then
       (z14 fuel 0 d10.1 (((d10.2.2.2.2.1.getD d10.2.2.1.toNat []).take (IntKind.i64.wrap (d10.2.1 + d10.2.2.1)).toNat).drop d10.2.1.toNat) [] (((d10.2.2.2.2.1.getD d10.2.2.1.toNat []).getD r11.toNat (false, ([], []))).1, (((d10.2.2.2.2.1.getD d10.2.2.1.toNat []).getD r11.toNat (false, ([], []))).2))).bind fun r12 =>
       some (r12.1, r12.2)
       else none else none else none else none else none else none else none else none else none else none
       else
       if (0 : Int) <= d10.2.1 then if d10.2.1 <= d10.2.1 then if d10.2.1 * 56 <= 281474976710656 then if decide (d9.1 < d10.2.1) = true then
       (z6n fuel 1).bind fun r13 =>
       if (0 : Int) <= d9.1 then if d9.1 < (List.replicate d10.2.1.toNat ((false, ([], [])) : Bool × ((List Int) × (List Int)))).length then
       match z1k k d9.1 (d10.2.2.2.1.length : Int) 0 d10.2.1 d10.2.2.1 ((List.replicate d10.2.1.toNat ((false, ([], [])) : Bool × ((List Int) × (List Int)))).set d9.1.toNat r13) d10.2.2.2.1 d10.2.2.2.2.1 with
       | none => none
       | some (.exit d14) =>
        (z14 fuel 2 d10.1 [] d14.1 (false, ([], []))).bind fun r15 =>
        some (r15.1, r15.2)
       | some (.ret d14) =>
        none
       else none else none
       else
       match z1k k d9.1 (d10.2.2.2.1.length : Int) 0 d10.2.1 d10.2.2.1 (List.replicate d10.2.1.toNat ((false, ([], [])) : Bool × ((List Int) × (List Int)))) d10.2.2.2.1 d10.2.2.2.2.1 with
       | none => none
       | some (.exit d16) =>
        (z14 fuel 2 d10.1 [] d16.1 (false, ([], []))).bind fun r17 =>
        some (r17.1, r17.2)
       | some (.ret d16) =>
        none
       else none else none else none
      | some (.ret d10) =>
       none
      else none else none else none
    | some (.ret d8) =>
     none
    else none else none else none
   | some (.ret d7) =>
    none
   else none else none else none
   else
   if (0 : Int) <= IntKind.i64.wrap ((IntKind.i64.wrap (d4.1 + d4.2.1)) + 1) then if IntKind.i64.wrap ((IntKind.i64.wrap (d4.1 + d4.2.1)) + 1) <= IntKind.i64.wrap ((IntKind.i64.wrap (d4.1 + d4.2.1)) + 1) then if (IntKind.i64.wrap ((IntKind.i64.wrap (d4.1 + d4.2.1)) + 1)) * 56 <= 281474976710656 then
   (z6n fuel (-1)).bind fun r18 =>
   if (0 : Int) <= IntKind.i64.wrap (d4.1 + d4.2.1) then if IntKind.i64.wrap (d4.1 + d4.2.1) < (List.replicate ((IntKind.i64.wrap ((IntKind.i64.wrap (d4.1 + d4.2.1)) + 1)).toNat) ((false, ([], [])) : Bool × ((List Int) × (List Int)))).length then if (0 : Int) <= IntKind.i64.wrap ((IntKind.i64.wrap (d5.2.1 + d5.2.2.1)) + 2) then if IntKind.i64.wrap ((IntKind.i64.wrap (d5.2.1 + d5.2.2.1)) + 2) <= IntKind.i64.wrap ((IntKind.i64.wrap (d5.2.1 + d5.2.2.1)) + 2) then if (IntKind.i64.wrap ((IntKind.i64.wrap (d5.2.1 + d5.2.2.1)) + 2)) * 56 <= 281474976710656 then
   match z0f k (((List.replicate ((IntKind.i64.wrap ((IntKind.i64.wrap (d4.1 + d4.2.1)) + 1)).toNat) ((false, ([], [])) : Bool × ((List Int) × (List Int)))).set ((IntKind.i64.wrap (d4.1 + d4.2.1)).toNat) r18).length : Int) 0 (List.replicate ((IntKind.i64.wrap ((IntKind.i64.wrap (d5.2.1 + d5.2.2.1)) + 2)).toNat) ((false, ([], [])) : Bool × ((List Int) × (List Int)))) ((List.replicate ((IntKind.i64.wrap ((IntKind.i64.wrap (d4.1 + d4.2.1)) + 1)).toNat) ((false, ([], [])) : Bool × ((List Int) × (List Int)))).set ((IntKind.i64.wrap (d4.1 + d4.2.1)).toNat) r18) with
   | none => none
   | some (.exit d19) =>
    if (0 : Int) <= d5.2.2.1 then if d5.2.2.1 <= d5.2.2.2.1.length then if ((d5.2.2.2.1.take d5.2.2.1.toNat).length + 1) * 24 <= 140737488355328 then
    match z0a k ((d5.2.2.2.1.take d5.2.2.1.toNat).length) (d5.2.2.2.2.1.length : Int) 0 d5.2.1 d5.2.2.1 ((d5.2.2.2.1.take d5.2.2.1.toNat) ++ [d19.1]) d5.2.2.2.2.1 with
    | none => none
    | some (.exit d20) =>
     if (0 : Int) <= d5.1 then if d5.1 < d20.2.2.1.length then if (0 : Int) <= IntKind.i64.wrap (d4.1 + d4.2.1) then if IntKind.i64.wrap (d4.1 + d4.2.1) < (d20.2.2.1.getD d5.1.toNat []).length then if (0 : Int) <= d5.1 then if d5.1 < d20.2.2.1.length then
     match z09 k d5.1 ((d20.2.2.1.getD d5.1.toNat []).length : Int) 0 d20.1 d20.2.1 (((d20.2.2.1.getD d5.1.toNat []).getD ((IntKind.i64.wrap (d4.1 + d4.2.1)).toNat) (false, ([], []))).1) ((((d20.2.2.1.getD d5.1.toNat []).getD ((IntKind.i64.wrap (d4.1 + d4.2.1)).toNat) (false, ([], []))).2).1) ((((d20.2.2.1.getD d5.1.toNat []).getD ((IntKind.i64.wrap (d4.1 + d4.2.1)).toNat) (false, ([], []))).2).2) d20.2.2.1 d20.2.2.2.1 with
     | none => none
     | some (.exit d21) =>
      match z04 k d5.1 (IntKind.i64.wrap (d4.1 + d4.2.1)) (d21.2.2.2.2.2.1.length : Int) 0 d21.1 d21.2.1 d21.2.2.2.2.2.1 d21.2.2.2.2.2.2.1 with
      | none => none
      | some (.exit d22) =>
       if (0 : Int) <= d5.1 then if d5.1 < d22.2.2.2.1.length then
       match z0p k (IntKind.i64.wrap ((IntKind.i64.wrap (d4.1 + d4.2.1)) + 1)) d22.1 d22.2.1 d22.2.2.1 (d22.2.2.2.1.set d5.1.toNat (IntKind.i64.wrap (d4.1 + d4.2.1))) with
       | none => none
       | some (.exit d23) =>
        none
       | some (.ret d23) =>
        if (0 : Int) <= d23.2.2.1 then if d23.2.2.1 < d23.2.2.2.1.length then
        (z1n fuel (d23.2.2.2.1, (d23.2.2.2.2.1, (d23.2.1, d23.2.2.1)))).bind fun r24 =>
        if (0 : Int) <= r24 then if r24 < (d23.2.2.2.1.getD d23.2.2.1.toNat []).length then
        (z31 fuel (((d23.2.2.2.1.getD d23.2.2.1.toNat []).getD r24.toNat (false, ([], []))).1, (((d23.2.2.2.1.getD d23.2.2.1.toNat []).getD r24.toNat (false, ([], []))).2))).bind fun r25 =>
        if decide (r25 < 0) = true then if (0 : Int) <= d23.2.2.1 then if d23.2.2.1 < d23.2.2.2.1.length then if (0 : Int) <= IntKind.i64.wrap (d23.2.1 + d23.2.2.1) then if IntKind.i64.wrap (d23.2.1 + d23.2.2.1) <= (d23.2.2.2.1.getD d23.2.2.1.toNat []).length then if (0 : Int) <= d23.2.1 then if d23.2.1 <= IntKind.i64.wrap (d23.2.1 + d23.2.2.1) then
        (z14 fuel 1 [] (((d23.2.2.2.1.getD d23.2.2.1.toNat []).take (IntKind.i64.wrap (d23.2.1 + d23.2.2.1)).toNat).drop d23.2.1.toNat) [] (false, ([], []))).bind fun r26 =>
        some (r26.1, r26.2)
        else none else none else none else none else none else none
        else
        match z0s k (IntKind.i64.wrap (d4.1 + d4.2.1)) (d23.2.2.2.2.1.length : Int) 0 d23.2.1 d23.2.2.1 d23.2.2.2.2.1 d23.2.2.2.1 with
        | none => none
        | some (.exit d27) =>
         (z2m fuel a0.2.2).bind fun r28 =>
         if (0 : Int) <= IntKind.i64.wrap ((IntKind.i64.wrap (d27.1 + d27.2.1)) + 2) then if IntKind.i64.wrap ((IntKind.i64.wrap (d27.1 + d27.2.1)) + 2) <= IntKind.i64.wrap ((IntKind.i64.wrap (d27.1 + d27.2.1)) + 2) then if (IntKind.i64.wrap ((IntKind.i64.wrap (d27.1 + d27.2.1)) + 2)) * 56 <= 281474976710656 then
         match z0t k (r28.length : Int) 0 (List.replicate ((IntKind.i64.wrap ((IntKind.i64.wrap (d27.1 + d27.2.1)) + 2)).toNat) ((false, ([], [])) : Bool × ((List Int) × (List Int)))) r28 with
         | none => none
         | some (.exit d29) =>
          if (0 : Int) <= d27.2.1 then if d27.2.1 <= d27.2.2.2.1.length then if ((d27.2.2.2.1.take d27.2.1.toNat).length + 1) * 24 <= 140737488355328 then
          match z0q k ((d27.2.2.2.1.take d27.2.1.toNat).length) (d27.2.2.1.length : Int) 0 d27.1 d27.2.1 ((d27.2.2.2.1.take d27.2.1.toNat) ++ [d29.1]) d27.2.2.1 with
          | none => none
          | some (.exit d30) =>
           match z12 k (IntKind.i64.wrap (d30.1 + d30.2.1)) d30.1 d30.2.1 d30.2.2.1 d30.2.2.2.1 with
           | none => none
           | some (.exit d31) =>
            none
           | some (.ret d31) =>
            if (0 : Int) <= d31.2.1 then if d31.2.1 <= d31.2.1 then if d31.2.1 * 56 <= 281474976710656 then
            match z0l k (d31.2.2.2.2.1.length : Int) 0 d31.2.1 d31.2.2.1 (List.replicate d31.2.1.toNat ((false, ([], [])) : Bool × ((List Int) × (List Int)))) d31.2.2.2.2.1 d31.2.2.2.1 with
            | none => none
            | some (.exit d32) =>
             if decide (d31.1 < 0) = true then if (0 : Int) <= d32.2.2.1 then if d32.2.2.1 < d32.2.2.2.2.1.length then if (0 : Int) <= IntKind.i64.wrap (d32.2.1 + d32.2.2.1) then if IntKind.i64.wrap (d32.2.1 + d32.2.2.1) <= (d32.2.2.2.2.1.getD d32.2.2.1.toNat []).length then if (0 : Int) <= d32.2.1 then if d32.2.1 <= IntKind.i64.wrap (d32.2.1 + d32.2.2.1) then if (0 : Int) <= d32.2.2.1 then if d32.2.2.1 < d32.2.2.2.2.1.length then
             (z1n fuel (d32.2.2.2.2.1, (d32.2.2.2.1, (d32.2.1, d32.2.2.1)))).bind fun r33 =>
             if (0 : Int) <= r33 then if r33 < (d32.2.2.2.2.1.getD d32.2.2.1.toNat []).length then
             (z14 fuel 0 d32.1 (((d32.2.2.2.2.1.getD d32.2.2.1.toNat []).take (IntKind.i64.wrap (d32.2.1 + d32.2.2.1)).toNat).drop d32.2.1.toNat) [] (((d32.2.2.2.2.1.getD d32.2.2.1.toNat []).getD r33.toNat (false, ([], []))).1, (((d32.2.2.2.2.1.getD d32.2.2.1.toNat []).getD r33.toNat (false, ([], []))).2))).bind fun r34 =>
             some (r34.1, r34.2)
             else none else none else none else none else none else none else none else none else none else none
             else
             if (0 : Int) <= d32.2.1 then if d32.2.1 <= d32.2.1 then if d32.2.1 * 56 <= 281474976710656 then if decide (d31.1 < d32.2.1) = true then
             (z6n fuel 1).bind fun r35 =>
             if (0 : Int) <= d31.1 then if d31.1 < (List.replicate d32.2.1.toNat ((false, ([], [])) : Bool × ((List Int) × (List Int)))).length then
             match z1k k d31.1 (d32.2.2.2.1.length : Int) 0 d32.2.1 d32.2.2.1 ((List.replicate d32.2.1.toNat ((false, ([], [])) : Bool × ((List Int) × (List Int)))).set d31.1.toNat r35) d32.2.2.2.1 d32.2.2.2.2.1 with
             | none => none
             | some (.exit d36) =>
              (z14 fuel 2 d32.1 [] d36.1 (false, ([], []))).bind fun r37 =>
              some (r37.1, r37.2)
             | some (.ret d36) =>
              none
             else none else none
             else
             match z1k k d31.1 (d32.2.2.2.1.length : Int) 0 d32.2.1 d32.2.2.1 (List.replicate d32.2.1.toNat ((false, ([], [])) : Bool × ((List Int) × (List Int)))) d32.2.2.2.1 d32.2.2.2.2.1 with
             | none => none
             | some (.exit d38) =>
              (z14 fuel 2 d32.1 [] d38.1 (false, ([], []))).bind fun r39 =>
              some (r39.1, r39.2)
             | some (.ret d38) =>
              none
             else none else none else none
            | some (.ret d32) =>
             none
            else none else none else none
          | some (.ret d30) =>
           none
          else none else none else none
         | some (.ret d29) =>
          none
         else none else none else none
        | some (.ret d27) =>
         none
        else none else none else none else none else none else none
      | some (.ret d22) =>
       none
     | some (.ret d21) =>
      none
     else none else none else none else none else none else none
    | some (.ret d20) =>
     none
    else none else none else none
   | some (.ret d19) =>
    none
   else none else none else none else none else none else none else none else none
  | some (.ret d5) =>
   none
 | some (.ret d4) =>
  none
def y1j (k : Nat) : Vm.Spec := { ps := [.pair (.slice (.slice .str)) (.pair (.slice .str) (.slice .str))], rs := [.imm (.pair (.int .i64) (.pair (.slice .str) (.pair (.slice .str) (.pair (.slice .str) .str)))), .imm (.int .i64)], f := fun x => ze1 k x }
noncomputable def y2c : Vm.Spec := y1j fuel
theorem y2s : Vm.Spec.holds Tryz.prog 49 y2c := z0u (E := ye8) (L := yc0) (fn := Tryz.f49) (Z := y1j) (z1f ok) (z0m (by exact ⟨⟨by kernel_rfl, z7o⟩, ⟨by kernel_rfl, z6l⟩, ⟨by kernel_rfl, y2p⟩, ⟨by kernel_rfl, zh4⟩, ⟨by kernel_rfl, zh3⟩, ⟨by kernel_rfl, z6o⟩, ⟨by kernel_rfl, z5i⟩, ⟨by kernel_rfl, zh2⟩, ⟨by kernel_rfl, z4n⟩, ⟨by kernel_rfl, y2r⟩, ⟨by kernel_rfl, y20⟩, ⟨by kernel_rfl, z8u⟩, ⟨by kernel_rfl, zl3⟩, trivial⟩)) z0v (z7u (by exact ⟨by kernel_rfl, by kernel_rfl, by kernel_rfl, by kernel_rfl, by kernel_rfl, by kernel_rfl, by kernel_rfl, by kernel_rfl, by kernel_rfl, by kernel_rfl, by kernel_rfl, by kernel_rfl, trivial⟩)) (z3b (by exact ⟨(z25 [[49]] (by exact ⟨z0h (ls := [(4, z64)]) rfl rfl ⟨by kernel_rfl, fun _ => rfl, fun _ _ => by kernel_rfl, z0i (by kernel_rfl)⟩,  trivial⟩) rfl), (z25 [[49]] (by exact ⟨z0h (ls := [(3, z42), (19, z3n), (23, z3p)]) rfl rfl ⟨by kernel_rfl, fun _ => rfl, fun _ _ => by kernel_rfl, by kernel_rfl, fun _ => rfl, fun _ _ => by kernel_rfl, by kernel_rfl, fun _ => rfl, fun _ _ => by kernel_rfl, z0i (by kernel_rfl)⟩,  trivial⟩) rfl), (z25 [[49], [80, 49]] (by exact ⟨z0h (ls := [(2, z4p), (8, z4r), (13, z4l)]) rfl rfl ⟨by kernel_rfl, fun _ => rfl, fun _ _ => by kernel_rfl, by kernel_rfl, fun _ => rfl, fun _ _ => by kernel_rfl, by kernel_rfl, fun _ => rfl, fun _ _ => by kernel_rfl, z0i (by kernel_rfl)⟩, z0h (ls := [(2, z26), (8, z28), (13, z1z)]) rfl rfl ⟨by kernel_rfl, fun _ => rfl, fun _ _ => by kernel_rfl, by kernel_rfl, fun _ => rfl, fun _ _ => by kernel_rfl, by kernel_rfl, fun _ => rfl, fun _ _ => by kernel_rfl, z0i (by kernel_rfl)⟩,  trivial⟩) rfl), (z25 [[49], [80, 49]] (by exact ⟨z0h (ls := [(1, z4y), (2, z50)]) rfl rfl ⟨by kernel_rfl, fun _ => rfl, fun _ _ => by kernel_rfl, by kernel_rfl, fun _ => rfl, fun _ _ => by kernel_rfl, z0i (by kernel_rfl)⟩, z0h (ls := [(1, z2b), (2, z2d)]) rfl rfl ⟨by kernel_rfl, fun _ => rfl, fun _ _ => by kernel_rfl, by kernel_rfl, fun _ => rfl, fun _ _ => by kernel_rfl, z0i (by kernel_rfl)⟩,  trivial⟩) rfl), (z25 [[49]] (by exact ⟨z0h (ls := [(3, z44)]) rfl rfl ⟨by kernel_rfl, fun _ => rfl, fun _ _ => by kernel_rfl, z0i (by kernel_rfl)⟩,  trivial⟩) rfl), (z25 [[83, 49], [80, 49], [83, 80, 49]] (by exact ⟨z0h (ls := [(2, z2i), (7, z2k), (12, z2g)]) rfl rfl ⟨by kernel_rfl, fun _ => rfl, fun _ _ => by kernel_rfl, by kernel_rfl, fun _ => rfl, fun _ _ => by kernel_rfl, by kernel_rfl, fun _ => rfl, fun _ _ => by kernel_rfl, z0i (by kernel_rfl)⟩, z0h (ls := [(2, z21), (7, z23), (12, z1x)]) rfl rfl ⟨by kernel_rfl, fun _ => rfl, fun _ _ => by kernel_rfl, by kernel_rfl, fun _ => rfl, fun _ _ => by kernel_rfl, by kernel_rfl, fun _ => rfl, fun _ _ => by kernel_rfl, z0i (by kernel_rfl)⟩, z0h (ls := [(2, z19), (7, z1b), (12, z17)]) rfl rfl ⟨by kernel_rfl, fun _ => rfl, fun _ _ => by kernel_rfl, by kernel_rfl, fun _ => rfl, fun _ _ => by kernel_rfl, by kernel_rfl, fun _ => rfl, fun _ _ => by kernel_rfl, z0i (by kernel_rfl)⟩,  trivial⟩) rfl),  trivial⟩)) (by kernel_rfl) (by kernel_rfl) (z0h (ls := [(16, zs3)]) rfl rfl ⟨by kernel_rfl, fun _ => rfl, fun _ _ => by kernel_rfl, z0i (by kernel_rfl)⟩) fun k x => by kernel_rfl
noncomputable def w7q : Env := { te := te, spec := [(59, zg9), (86, zo6)], body := [] }
def w3q : z1t := []
def z8g (k : Nat) (a0 : Bool × ((List Int) × (List Int))) : Option (ByteArray × Int) :=
 (z8f fuel a0).bind fun r1 =>
 if (r1 != 0) = true then
 some ((⟨#[]⟩ : ByteArray), r1)
 else
 (z6u fuel a0).bind fun r2 =>
 some (r2, 0)
def yg2 (k : Nat) : Vm.Spec := { ps := [qT], rs := [.imm .str, .imm (.int .i64)], f := fun x => z8g k x }
noncomputable def zy8 : Vm.Spec := yg2 fuel
theorem z9u : Vm.Spec.holds Tryz.prog 54 zy8 := z0u (E := w7q) (L := w3q) (fn := Tryz.f54) (Z := yg2) (z1f ok) (z0m (by exact ⟨⟨by kernel_rfl, z6p⟩, ⟨by kernel_rfl, z77⟩, trivial⟩)) z0v (z07 rfl) (z01 rfl) (by kernel_rfl) (by kernel_rfl) (z0o rfl) fun k x => by kernel_rfl
noncomputable def ye5 : Env := { te := te, spec := [(9, z5k), (25, zo1), (43, yf7), (44, y0v), (46, z9x), (47, y28), (48, zp7), (49, y2c), (50, y0u), (52, zg8), (53, zi8), (54, zy8), (57, z9y), (63, z7t)], body := [(42, Tryz.f42), (45, Tryz.f45), (51, Tryz.f51)], rows := true }
def zl7 : Ann := { slots := [(3, .one (.grd 64 qT)), (6, .one (.val (.slice (.slice .str)))), (7, .one (.val (.int .i64))), (8, .one (.val (.int .i64)))], objs := [(64, .mat qT)] }
def z7a : Ann := { slots := [(3, .one (.grd 64 qT))], objs := [(64, .mat qT)] }
def z7q : List (Nat × OSh) := [(4012, .box [.val .bool, .val (.slice (.int .u32)), .val (.slice (.int .u32))]), (64, .mat qT)]
def zf1 : Ann := { slots := [(3, .one (.fix (.pbox 4012 0))), (19, .one (.row 64 qT)), (20, .one (.val (.int .i64))), (21, .one (.val (.int .i64)))], objs := z7q }
def z62 : Ann := { slots := [(3, .one (.fix (.pbox 4012 0)))], objs := z7q }
def zf0 : Ann := { slots := [(3, .one (.fix (.pbox 4012 0))), (13, .one (.grd 64 qT)), (14, .one (.val (.int .i64))), (15, .one (.val (.int .i64)))], objs := z7q }
def z60 : Ann := { slots := [(3, .one (.fix (.pbox 4012 0)))], objs := z7q }
def z7r : List (Nat × OSh) := [(64, .mat qT), (28, .box [.val .bool, .val (.slice (.int .u32)), .val (.slice (.int .u32))])]
def y5y : Ann := { slots := [(6, .one (.grd 64 qT)), (7, .one (.fix (.pbox 28 0))), (8, .one (.val (.int .i64))), (38, .one (.val (.int .i64))), (39, .one (.val (.int .i64)))], objs := z7r }
def zr7 : Ann := { slots := [(6, .one (.grd 64 qT)), (7, .one (.fix (.pbox 28 0)))], objs := z7r }
def y7d : Ann := { slots := [(6, .one (.grd 64 qT)), (7, .one (.fix (.pbox 28 0))), (30, .one (.val (.int .i64))), (31, .one (.val (.int .i64)))], objs := z7r }
def zv8 : Ann := { slots := [(6, .one (.grd 64 qT)), (7, .one (.fix (.pbox 28 0)))], objs := z7r }
def y7p : List (Nat × OSh) := [(56, .box [.val .bool, .val (.slice (.int .u32)), .val (.slice (.int .u32))]), (80, .buf qT)]
def za2 : Ann := { slots := [(1, .one (.fix (.pbox 56 0))), (5, .one (.own 80 qT)), (8, .one (.val (.slice .str))), (9, .one (.val (.int .i64))), (10, .one (.val (.int .i64)))], objs := y7p }
def y7q : List (Nat × OSh) := [(80, .buf qT), (56, .box [.val .bool, .val (.slice (.int .u32)), .val (.slice (.int .u32))])]
def z5p : Ann := { slots := [(5, .one (.own 80 qT))], objs := y7q }
def z2a : Nat -> List (List ByteArray) -> Int -> Int -> List (List (Bool × ((List Int) × (List Int)))) -> Option (LR z7a a0)
 | 0, _, _, _, _ => none
 | m + 1, s6, s7, s8, b64 =>
  if decide (s8 < s7) = true then if (0 : Int) <= s8 then if s8 < s6.length then
  (z2m fuel (s6.getD s8.toNat [])).bind fun r1 =>
  if (b64.length + 1) * 24 <= 140737488355328 then
  z2a m s6 s7 (IntKind.i64.wrap (s8 + 1)) (b64 ++ [r1])
  else none else none else none
  else
  some (.exit (b64, ()))
def z79 : LSpec := { h := zl7, x := z7a, r := a0, xid := 0, rt := false, pins := [], f := fun k d => z2a k d.1 d.2.1 d.2.2.1 d.2.2.2.1 }
def z1d : Nat -> Nat -> Int -> Int -> Bool -> List Int -> List Int -> List (List (Bool × ((List Int) × (List Int)))) -> Option (LR z62 a0)
 | 0, _, _, _, _, _, _, _ => none
 | m + 1, s19, s20, s21, b4012_0, b4012_1, b4012_2, b64 =>
  if decide (s21 < s20) = true then if (0 : Int) <= s21 then if s21 < (b64.getD s19 []).length then
  (z4w fuel (((b64.getD s19 []).getD s21.toNat (false, ([], []))).1, (((b64.getD s19 []).getD s21.toNat (false, ([], []))).2)) (b4012_0, (b4012_1, b4012_2))).bind fun r1 =>
  if decide (r1 < 0) = true then
  z1d m s19 s20 (IntKind.i64.wrap (s21 + 1)) (((b64.getD s19 []).getD s21.toNat (false, ([], []))).1) ((((b64.getD s19 []).getD s21.toNat (false, ([], []))).2).1) ((((b64.getD s19 []).getD s21.toNat (false, ([], []))).2).2) b64
  else
  z1d m s19 s20 (IntKind.i64.wrap (s21 + 1)) b4012_0 b4012_1 b4012_2 b64
  else none else none
  else
  some (.exit (b4012_0, b4012_1, b4012_2, b64, ()))
def z61 : LSpec := { h := zf1, x := z62, r := a0, xid := 2, rt := false, pins := [4012, 64], f := fun k d => z1d k d.1 d.2.1 d.2.2.1 d.2.2.2.1 d.2.2.2.2.1 d.2.2.2.2.2.1 d.2.2.2.2.2.2.1 }
def z1r : Nat -> Int -> Int -> Bool -> List Int -> List Int -> List (List (Bool × ((List Int) × (List Int)))) -> Option (LR z60 a0)
 | 0, _, _, _, _, _, _ => none
 | m + 1, s14, s15, b4012_0, b4012_1, b4012_2, b64 =>
  if decide (s15 < s14) = true then if (0 : Int) <= s15 then if s15 < b64.length then
  match z1d m s15.toNat ((b64.getD s15.toNat []).length : Int) 0 b4012_0 b4012_1 b4012_2 b64 with
  | none => none
  | some (.exit d1) =>
   z1r m s14 (IntKind.i64.wrap (s15 + 1)) d1.1 d1.2.1 d1.2.2.1 d1.2.2.2.1
  | some (.ret d1) =>
   none
  else none else none
  else
  some (.exit (b4012_0, b4012_1, b4012_2, b64, ()))
def z5z : LSpec := { h := zf0, x := z60, r := a0, xid := 0, rt := false, pins := [4012, 64], f := fun k d => z1r k d.1 d.2.1 d.2.2.1 d.2.2.2.1 d.2.2.2.2.1 d.2.2.2.2.2.1 }
def z4o : Nat -> Int -> Int -> Int -> List (List (Bool × ((List Int) × (List Int)))) -> Bool -> List Int -> List Int -> Option (LR zr7 a0)
 | 0, _, _, _, _, _, _, _ => none
 | m + 1, s8, s38, s39, b64, b28_0, b28_1, b28_2 =>
  if decide (s39 < s38) = true then if (0 : Int) <= s8 then if s8 < b64.length then if (0 : Int) <= s8 then if s8 < b64.length then if (0 : Int) <= s39 then if s39 < (b64.getD s8.toNat []).length then
  (z5m fuel (((b64.getD s8.toNat []).getD s39.toNat (false, ([], []))).1, (((b64.getD s8.toNat []).getD s39.toNat (false, ([], []))).2)) (b28_0, (b28_1, b28_2))).bind fun r1 =>
  if (0 : Int) <= s39 then if s39 < (b64.getD s8.toNat []).length then
  z4o m s8 s38 (IntKind.i64.wrap (s39 + 1)) (b64.set s8.toNat ((b64.getD s8.toNat []).set s39.toNat r1)) b28_0 b28_1 b28_2
  else none else none else none else none else none else none else none else none
  else
  some (.exit (b64, b28_0, b28_1, b28_2, ()))
def zr6 : LSpec := { h := y5y, x := zr7, r := a0, xid := 2, rt := false, pins := [64, 28], f := fun k d => z4o k d.1 d.2.1 d.2.2.1 d.2.2.2.1 d.2.2.2.2.1 d.2.2.2.2.2.1 d.2.2.2.2.2.2.1 }
def z5j : Nat -> Int -> Int -> List (List (Bool × ((List Int) × (List Int)))) -> Bool -> List Int -> List Int -> Option (LR zv8 a0)
 | 0, _, _, _, _, _, _ => none
 | m + 1, s30, s31, b64, b28_0, b28_1, b28_2 =>
  if decide (s31 < s30) = true then if (0 : Int) <= s31 then if s31 < b64.length then
  match z4o m s31 ((b64.getD s31.toNat []).length : Int) 0 b64 b28_0 b28_1 b28_2 with
  | none => none
  | some (.exit d1) =>
   z5j m s30 (IntKind.i64.wrap (s31 + 1)) d1.1 d1.2.1 d1.2.2.1 d1.2.2.2.1
  | some (.ret d1) =>
   none
  else none else none
  else
  some (.exit (b64, b28_0, b28_1, b28_2, ()))
def zv7 : LSpec := { h := y7d, x := zv8, r := a0, xid := 0, rt := false, pins := [64, 28], f := fun k d => z5j k d.1 d.2.1 d.2.2.1 d.2.2.2.1 d.2.2.2.2.1 d.2.2.2.2.2.1 }
def z0y : Nat -> List ByteArray -> Int -> Int -> Bool -> List Int -> List Int -> List (Bool × ((List Int) × (List Int))) -> Option (LR z5p a0)
 | 0, _, _, _, _, _, _, _ => none
 | m + 1, s8, s9, s10, b56_0, b56_1, b56_2, b80 =>
  if decide (s10 < s9) = true then if (0 : Int) <= s10 then if s10 < s8.length then
  (z7n fuel (s8.getD s10.toNat ByteArray.empty)).bind fun r1 =>
  (z2n fuel r1 (b56_0, (b56_1, b56_2))).bind fun r2 =>
  if (b80.length + 1) * 56 <= 140737488355328 then
  z0y m s8 s9 (IntKind.i64.wrap (s10 + 1)) b56_0 b56_1 b56_2 (b80 ++ [r2])
  else none else none else none
  else
  some (.exit (b80, b56_0, b56_1, b56_2, ()))
def z5o : LSpec := { h := za2, x := z5p, r := a0, xid := 0, rt := false, pins := [56], f := fun k d => z0y k d.1 d.2.1 d.2.2.1 d.2.2.2.1 d.2.2.2.2.1 d.2.2.2.2.2.1 d.2.2.2.2.2.2.1 }
def yb7 : z1t := [([42, 12], [(3, z79)]), ([45, 12], [(3, z5z), (6, z61)]), ([12], [(8, zv7), (11, zr6)]), ([51, 12], [(3, z5o)])]
def z6k (k : Nat) (a0 : List (List ByteArray)) : Option ((ByteArray × ((List ByteArray) × (List ByteArray))) × Int) :=
 (z2f fuel a0).bind fun r1 =>
 if (r1 != 0) = true then
 some ((ByteArray.empty, ([], [])), r1)
 else
 match z2a k a0 (a0.length : Int) 0 [] with
 | none => none
 | some (.exit d2) =>
  (z6n fuel 1).bind fun r3 =>
  if (0 : Int) < d2.1.length then if (0 : Int) < (d2.1.getD 0 []).length then
  match z1r k (d2.1.length : Int) 0 (((d2.1.getD 0 []).getD 0 (false, ([], []))).1) ((((d2.1.getD 0 []).getD 0 (false, ([], []))).2).1) ((((d2.1.getD 0 []).getD 0 (false, ([], []))).2).2) d2.1 with
  | none => none
  | some (.exit d4) =>
   (z4b fuel r3 (d4.1, (d4.2.1, d4.2.2.1))).bind fun r5 =>
   match z5j k (d4.2.2.2.1.length : Int) 0 d4.2.2.2.1 r5.1 r5.2.1 r5.2.2 with
   | none => none
   | some (.exit d6) =>
    (z6m fuel d6.1).bind fun r7 =>
    if (r7.2 != 0) = true then
    some ((ByteArray.empty, ([], [])), r7.2)
    else
    if (0 : Int) < a0.length then
    (z1w fuel [(⟨#[49]⟩ : ByteArray)] (a0.length : Int)).bind fun r8 =>
    (z1w fuel [(⟨#[49]⟩ : ByteArray)] ((a0.getD 0 []).length : Int)).bind fun r9 =>
    (ze1 fuel (r7.1, (r8, r9))).bind fun r10 =>
    if (r10.2 != 0) = true then
    some ((ByteArray.empty, ([], [])), r10.2)
    else
    (z6n fuel 1).bind fun r11 =>
    (z7n fuel r10.1.2.2.2.2).bind fun r12 =>
    (z5n fuel r11 r12).bind fun r13 =>
    match z0y k r10.1.2.2.1 (r10.1.2.2.1.length : Int) 0 r13.1 r13.2.1 r13.2.2 [] with
    | none => none
    | some (.exit d14) =>
     (z3g fuel d14.1).bind fun r15 =>
     if (r15.2 != 0) = true then
     some ((ByteArray.empty, ([], [])), r15.2)
     else
     match z0y k r10.1.2.1 (r10.1.2.1.length : Int) 0 d14.2.1 d14.2.2.1 d14.2.2.2.1 [] with
     | none => none
     | some (.exit d16) =>
      (z3g fuel d16.1).bind fun r17 =>
      if (r17.2 != 0) = true then
      some ((ByteArray.empty, ([], [])), r17.2)
      else
      (z4b fuel (d16.2.1, (d16.2.2.1, d16.2.2.2.1)) (d6.2.1, (d6.2.2.1, d6.2.2.2.1))).bind fun r18 =>
      (z8g fuel r18).bind fun r19 =>
      if (r19.2 != 0) = true then
      some ((ByteArray.empty, ([], [])), r19.2)
      else
      some ((r19.1, (r15.1, r17.1)), 0)
     | some (.ret d16) =>
      none
    | some (.ret d14) =>
     none
    else none
   | some (.ret d6) =>
    none
  | some (.ret d4) =>
   none
  else none else none
 | some (.ret d2) =>
  none
def y1g (k : Nat) : Vm.Spec := { ps := [.slice (.slice .str)], rs := [.imm (.pair .str (.pair (.slice .str) (.slice .str))), .imm (.int .i64)], f := fun x => z6k k x }
noncomputable def zp4 : Vm.Spec := y1g fuel
theorem zj5 : Vm.Spec.holds Tryz.prog 12 zp4 := z0u (E := ye5) (L := yb7) (fn := Tryz.f12) (Z := y1g) (z1f ok) (z0m (by exact ⟨⟨by kernel_rfl, z3f⟩, ⟨by kernel_rfl, z5c⟩, ⟨by kernel_rfl, y2p⟩, ⟨by kernel_rfl, zh4⟩, ⟨by kernel_rfl, z5h⟩, ⟨by kernel_rfl, y2n⟩, ⟨by kernel_rfl, zx7⟩, ⟨by kernel_rfl, y2s⟩, ⟨by kernel_rfl, zh3⟩, ⟨by kernel_rfl, z6o⟩, ⟨by kernel_rfl, z7l⟩, ⟨by kernel_rfl, z9u⟩, ⟨by kernel_rfl, z5i⟩, ⟨by kernel_rfl, z4n⟩, trivial⟩)) z0v (z7u (by exact ⟨by kernel_rfl, by kernel_rfl, by kernel_rfl, by kernel_rfl, by kernel_rfl, by kernel_rfl, trivial⟩)) (z3b (by exact ⟨(z25 [[12]] (by exact ⟨z0h (ls := [(3, z79)]) rfl rfl ⟨by kernel_rfl, fun _ => rfl, fun _ _ => by kernel_rfl, z0i (by kernel_rfl)⟩,  trivial⟩) rfl), (z25 [[12]] (by exact ⟨z0h (ls := [(3, z5z), (6, z61)]) rfl rfl ⟨by kernel_rfl, fun _ => rfl, fun _ _ => by kernel_rfl, by kernel_rfl, fun _ => rfl, fun _ _ => by kernel_rfl, z0i (by kernel_rfl)⟩,  trivial⟩) rfl), (z25 [[12]] (by exact ⟨z0h (ls := [(3, z5o)]) rfl rfl ⟨by kernel_rfl, fun _ => rfl, fun _ _ => by kernel_rfl, z0i (by kernel_rfl)⟩,  trivial⟩) rfl),  trivial⟩)) (by kernel_rfl) (by kernel_rfl) (z0h (ls := [(8, zv7), (11, zr6)]) rfl rfl ⟨by kernel_rfl, fun _ => rfl, fun _ _ => by kernel_rfl, by kernel_rfl, fun _ => rfl, fun _ _ => by kernel_rfl, z0i (by kernel_rfl)⟩) fun k x => by kernel_rfl
noncomputable def y40 : Env := { te := te, spec := [], body := [(55, Tryz.f55), (56, Tryz.f56), (87, Tryz.f87)] }
def z35 : Ann := { slots := [(0, .one (.val (.slice (.int .i64)))), (1, .one (.fix (.func 56))), (7, .one (.val (.int .i64))), (8, .one (.val (.int .i64)))], objs := [] }
def z1j : Ann := { slots := [(4, .one (.val (.int .i64)))], objs := [] }
def z0x : Nat -> List Int -> Int -> Int -> Option (LR a0 z1j)
 | 0, _, _, _ => none
 | m + 1, s0, s7, s8 =>
  if decide (s8 < s7) = true then if (0 : Int) <= s8 then if s8 < s0.length then if (s0.getD s8.toNat 0 != 0) = true then
  some (.ret (s8, ()))
  else
  z0x m s0 s7 (IntKind.i64.wrap (s8 + 1))
  else none else none
  else
  some (.exit ())
def z1i : LSpec := { h := z35, x := a0, r := z1j, xid := 0, rt := true, pins := [], f := fun k d => z0x k d.1 d.2.1 d.2.2.1 }
def y25 : z1t := [([87, 55, 13], [(2, z1i)])]
def z3v (k : Nat) (a0 : List Int) : Option (Bool) :=
 match z0x k a0 (a0.length : Int) 0 with
 | none => none
 | some (.exit d1) =>
  some true
 | some (.ret d1) =>
  some (!(decide (d1.1 >= 0)))
def zj0 (k : Nat) : Vm.Spec := { ps := [.slice (.int .i64)], rs := [.imm .bool], f := fun x => z3v k x }
noncomputable def z6d : Vm.Spec := zj0 fuel
theorem z5u : Vm.Spec.holds Tryz.prog 13 z6d := z0u (E := y40) (L := y25) (fn := Tryz.f13) (Z := zj0) (z1f ok) (z0m (by exact trivial)) z0v (z7u (by exact ⟨by kernel_rfl, by kernel_rfl, by kernel_rfl, by kernel_rfl, by kernel_rfl, by kernel_rfl, trivial⟩)) (z3b (by exact ⟨(fun _ => z5g (by kernel_rfl)), (fun _ => z5g (by kernel_rfl)), (z25 [[55, 13]] (by exact ⟨z0h (ls := [(2, z1i)]) rfl rfl ⟨by kernel_rfl, fun _ => rfl, fun _ _ => by kernel_rfl, z0i (by kernel_rfl)⟩,  trivial⟩) rfl),  trivial⟩)) (by kernel_rfl) (by kernel_rfl) (z0o rfl) fun k x => by kernel_rfl
noncomputable def y5e : Env := { te := te, spec := [(9, z5k), (42, zg7), (57, z9y)], body := [] }
def y16 : Ann := { slots := [(10, .one (.val (.slice qT))), (11, .one (.val .bool)), (34, .one (.val (.slice qT))), (35, .one (.val (.int .i64))), (36, .one (.val (.int .i64)))], objs := [] }
def ze7 : Ann := { slots := [(11, .one (.val .bool))], objs := [] }
def y15 : Ann := { slots := [(6, .one (.own 224 (.int .i64))), (7, .one (.val (.int .i64))), (8, .one (.val (.slice qT))), (28, .one (.own 80 (.slice qT))), (29, .one (.val (.int .i64))), (30, .one (.val (.int .i64)))], objs := [(224, .buf (.int .i64)), (80, .buf (.slice qT))] }
def ze5 : Ann := { slots := [(6, .one (.own 224 (.int .i64)))], objs := [(224, .buf (.int .i64)), (80, .buf (.slice qT))] }
def y21 : Ann := { slots := [(5, .one (.own 80 (.slice qT))), (6, .one (.own 224 (.int .i64))), (21, .one (.own 80 (.slice qT))), (22, .one (.val (.int .i64))), (23, .one (.val (.int .i64)))], objs := [(80, .buf (.slice qT)), (224, .buf (.int .i64))] }
def zg1 : Ann := { slots := [(6, .one (.own 224 (.int .i64)))], objs := [(224, .buf (.int .i64)), (80, .buf (.slice qT))] }
def z5t : Nat -> List (Bool × ((List Int) × (List Int))) -> Bool -> List (Bool × ((List Int) × (List Int))) -> Int -> Int -> Option (LR ze7 a0)
 | 0, _, _, _, _, _ => none
 | m + 1, s10, s11, s34, s35, s36 =>
  if decide (s36 < s35) = true then if (0 : Int) <= s36 then if s36 < s34.length then if s11 = true then if (0 : Int) <= s36 then if s36 < s10.length then
  (z4w fuel ((s34.getD s36.toNat (false, ([], []))).1, ((s34.getD s36.toNat (false, ([], []))).2)) ((s10.getD s36.toNat (false, ([], []))).1, ((s10.getD s36.toNat (false, ([], []))).2))).bind fun r1 =>
  z5t m s10 (decide (r1 < 0)) s34 s35 (IntKind.i64.wrap (s36 + 1))
  else none else none
  else
  z5t m s10 false s34 s35 (IntKind.i64.wrap (s36 + 1))
  else none else none
  else
  some (.exit (s11, ()))
def ze6 : LSpec := { h := y16, x := ze7, r := a0, xid := 4, rt := false, pins := [], f := fun k d => z5t k d.1 d.2.1 d.2.2.1 d.2.2.2.1 d.2.2.2.2.1 }
def z7j : Nat -> Int -> List (Bool × ((List Int) × (List Int))) -> Int -> Int -> List Int -> List (List (Bool × ((List Int) × (List Int)))) -> Option (LR ze5 a0)
 | 0, _, _, _, _, _, _ => none
 | m + 1, s7, s8, s29, s30, b224, b80 =>
  if decide (s30 < s29) = true then if (0 : Int) <= s30 then if s30 < b80.length then
  match z5t m (b80.getD s30.toNat []) true s8 (s8.length : Int) 0 with
  | none => none
  | some (.exit d1) =>
   if d1.1 = true then if (b224.length + 1) * 8 <= 140737488355328 then
   some (.exit (b224 ++ [s7], b80, ()))
   else none
   else
   z7j m s7 s8 s29 (IntKind.i64.wrap (s30 + 1)) b224 b80
  | some (.ret d1) =>
   none
  else none else none
  else
  some (.exit (b224, b80, ()))
def ze4 : LSpec := { h := y15, x := ze5, r := a0, xid := 2, rt := false, pins := [80], f := fun k d => z7j k d.1 d.2.1 d.2.2.1 d.2.2.2.1 d.2.2.2.2.1 d.2.2.2.2.2.1 }
def z83 : Nat -> Int -> Int -> List (List (Bool × ((List Int) × (List Int)))) -> List Int -> Option (LR zg1 a0)
 | 0, _, _, _, _ => none
 | m + 1, s22, s23, b80, b224 =>
  if decide (s23 < s22) = true then if (0 : Int) <= s23 then if s23 < b80.length then
  match z7j m s23 (b80.getD s23.toNat []) (b80.length : Int) 0 b224 b80 with
  | none => none
  | some (.exit d1) =>
   z83 m s22 (IntKind.i64.wrap (s23 + 1)) d1.2.1 d1.1
  | some (.ret d1) =>
   none
  else none else none
  else
  some (.exit (b224, b80, ()))
def zg0 : LSpec := { h := y21, x := zg1, r := a0, xid := 0, rt := false, pins := [80], f := fun k d => z83 k d.1 d.2.1 d.2.2.1 d.2.2.2.1 }
def y43 : z1t := [([14], [(7, zg0), (10, ze4), (14, ze6)])]
def zq5 (k : Nat) (a0 : List (List ByteArray)) : Option (List Int × Int) :=
 (z2f fuel a0).bind fun r1 =>
 if (r1 != 0) = true then
 some ([], r1)
 else
 (z69 fuel a0).bind fun r2 =>
 match z83 k (r2.length : Int) 0 r2 [] with
 | none => none
 | some (.exit d3) =>
  some (d3.1, 0)
 | some (.ret d3) =>
  none
def zm0 (k : Nat) : Vm.Spec := { ps := [.slice (.slice .str)], rs := [.fresh (.int .i64), .imm (.int .i64)], f := fun x => zq5 k x }
noncomputable def zp3 : Vm.Spec := zm0 fuel
theorem zx6 : Vm.Spec.holds Tryz.prog 14 zp3 := z0u (E := y5e) (L := y43) (fn := Tryz.f14) (Z := zm0) (z1f ok) (z0m (by exact ⟨⟨by kernel_rfl, z3f⟩, ⟨by kernel_rfl, z6l⟩, ⟨by kernel_rfl, z5i⟩, trivial⟩)) z0v (z07 rfl) (z01 rfl) (by kernel_rfl) (by kernel_rfl) (z0h (ls := [(7, zg0), (10, ze4), (14, ze6)]) rfl rfl ⟨by kernel_rfl, fun _ => rfl, fun _ _ => by kernel_rfl, by kernel_rfl, fun _ => rfl, fun _ _ => by kernel_rfl, by kernel_rfl, fun _ => rfl, fun _ _ => by kernel_rfl, z0i (by kernel_rfl)⟩) fun k x => by kernel_rfl
noncomputable def y0k : Env := { te := te, spec := [], body := [] }
def zy3 : z1t := []
def z3m (k : Nat) : Option (List (List ByteArray)) :=
 some [[(⟨#[49]⟩ : ByteArray), (⟨#[45, 49]⟩ : ByteArray)], [(⟨#[45, 49]⟩ : ByteArray), (⟨#[49]⟩ : ByteArray)]]
def zb3 (k : Nat) : Vm.Spec := { ps := [], rs := [.fresh (.slice .str)], f := fun x => z3m k }
noncomputable def zd0 : Vm.Spec := zb3 fuel
theorem zk9 : Vm.Spec.holds Tryz.prog 19 zd0 := z0u (E := y0k) (L := zy3) (fn := Tryz.f19) (Z := zb3) (z1f ok) (z0m (by exact trivial)) z0v (z07 rfl) (z01 rfl) (by kernel_rfl) (by kernel_rfl) (z0o rfl) fun k x => by kernel_rfl
noncomputable def w9d : Env := { te := te, spec := [(25, zo1), (46, z9x), (54, zy8), (86, zo6), (91, z9l)], body := [] }
def y3d : List (Nat × OSh) := [(20, .box [.val .bool, .val (.slice (.int .u32)), .val (.slice (.int .u32))])]
def w1q : Ann := { slots := [(5, .one (.fix (.pbox 20 0))), (16, .one (.val (.slice .str))), (17, .one (.val (.int .i64))), (18, .one (.val (.int .i64)))], objs := y3d }
def ya6 : Ann := { slots := [(5, .one (.fix (.pbox 20 0)))], objs := y3d }
def ya5 : Ann := { slots := [(2, .one (.val .str)), (3, .one (.val (.int .i64)))], objs := y3d }
def y60 : Nat -> List ByteArray -> Int -> Int -> Bool -> List Int -> List Int -> Option (LR ya6 ya5)
 | 0, _, _, _, _, _, _ => none
 | m + 1, s16, s17, s18, b20_0, b20_1, b20_2 =>
  if decide (s18 < s17) = true then if (0 : Int) <= s18 then if s18 < s16.length then
  (z7n fuel (s16.getD s18.toNat ByteArray.empty)).bind fun r1 =>
  (z5m fuel (b20_0, (b20_1, b20_2)) r1).bind fun r2 =>
  (z8f fuel r2).bind fun r3 =>
  if (r3 != 0) = true then
  some (.ret ((⟨#[]⟩ : ByteArray), 2, r2.1, r2.2.1, r2.2.2, ()))
  else
  y60 m s16 s17 (IntKind.i64.wrap (s18 + 1)) r2.1 r2.2.1 r2.2.2
  else none else none
  else
  some (.exit (b20_0, b20_1, b20_2, ()))
def ya4 : LSpec := { h := w1q, x := ya6, r := ya5, xid := 0, rt := true, pins := [20], f := fun k d => y60 k d.1 d.2.1 d.2.2.1 d.2.2.2.1 d.2.2.2.2.1 d.2.2.2.2.2.1 }
def w7v : z1t := [([103], [(8, ya4)])]
def w1i (k : Nat) (a0 : List ByteArray) : Option (ByteArray × Int) :=
 if decide ((a0.length : Int) > 256) = true then
 some ((⟨#[]⟩ : ByteArray), 2)
 else
 (z3c fuel a0).bind fun r1 =>
 if (r1 != 0) = true then
 some ((⟨#[]⟩ : ByteArray), r1)
 else
 match y60 k a0 (a0.length : Int) 0 false [] [] with
 | none => none
 | some (.exit d2) =>
  (z8g fuel (d2.1, (d2.2.1, d2.2.2.1))).bind fun r3 =>
  some (r3.1, r3.2)
 | some (.ret d2) =>
  some (d2.1, d2.2.1)
def yr3 (k : Nat) : Vm.Spec := { ps := [.slice .str], rs := [.imm .str, .imm (.int .i64)], f := fun x => w1i k x }
noncomputable def w0s : Vm.Spec := yr3 fuel
theorem yi3 : Vm.Spec.holds Tryz.prog 103 w0s := z0u (E := w9d) (L := w7v) (fn := Tryz.f103) (Z := yr3) (z1f ok) (z0m (by exact ⟨⟨by kernel_rfl, z5c⟩, ⟨by kernel_rfl, z5h⟩, ⟨by kernel_rfl, z9u⟩, ⟨by kernel_rfl, z77⟩, ⟨by kernel_rfl, z6h⟩, trivial⟩)) z0v (z07 rfl) (z01 rfl) (by kernel_rfl) (by kernel_rfl) (z0h (ls := [(8, ya4)]) rfl rfl ⟨by kernel_rfl, fun _ => rfl, fun _ _ => by kernel_rfl, z0i (by kernel_rfl)⟩) fun k x => by kernel_rfl
noncomputable def w7p : Env := { te := te, spec := [(25, zo1), (26, zi9), (103, w0s)], body := [] }
def yy0 : Ann := { slots := [(15, .one (.val (.slice .str))), (16, .one (.val (.int .i64))), (17, .one (.val (.int .i64)))], objs := [] }
def y7l : Ann := { slots := [(2, .one (.val (.int .i64)))], objs := [] }
def y39 : Nat -> List ByteArray -> Int -> Int -> Option (LR a0 y7l)
 | 0, _, _, _ => none
 | m + 1, s15, s16, s17 =>
  if decide (s17 < s16) = true then if (0 : Int) <= s17 then if s17 < s15.length then
  (z7n fuel (s15.getD s17.toNat ByteArray.empty)).bind fun r1 =>
  (z31 fuel r1).bind fun r2 =>
  if decide (r2 < 0) = true then
  some (.ret (4, ()))
  else
  y39 m s15 s16 (IntKind.i64.wrap (s17 + 1))
  else none else none
  else
  some (.exit ())
def y7k : LSpec := { h := yy0, x := a0, r := y7l, xid := 0, rt := true, pins := [], f := fun k d => y39 k d.1 d.2.1 d.2.2.1 }
def w3p : z1t := [([89], [(5, y7k)])]
def y8q (k : Nat) (a0 : List ByteArray) : Option (Int) :=
 (w1i fuel a0).bind fun r1 =>
 if (r1.2 != 0) = true then
 some r1.2
 else
 match y39 k a0 (a0.length : Int) 0 with
 | none => none
 | some (.exit d2) =>
  if (!(r1.1.toList == (⟨#[49]⟩ : ByteArray).toList)) = true then
  some 3
  else
  some 0
 | some (.ret d2) =>
  some d2.1
def yg1 (k : Nat) : Vm.Spec := { ps := [.slice .str], rs := [.imm (.int .i64)], f := fun x => y8q k x }
noncomputable def yq8 : Vm.Spec := yg1 fuel
theorem yc6 : Vm.Spec.holds Tryz.prog 89 yq8 := z0u (E := w7p) (L := w3p) (fn := Tryz.f89) (Z := yg1) (z1f ok) (z0m (by exact ⟨⟨by kernel_rfl, z5c⟩, ⟨by kernel_rfl, z7o⟩, ⟨by kernel_rfl, yi3⟩, trivial⟩)) z0v (z07 rfl) (z01 rfl) (by kernel_rfl) (by kernel_rfl) (z0h (ls := [(5, y7k)]) rfl rfl ⟨by kernel_rfl, fun _ => rfl, fun _ _ => by kernel_rfl, z0i (by kernel_rfl)⟩) fun k x => by kernel_rfl
noncomputable def y41 : Env := { te := te, spec := [(9, z5k), (89, yq8)], body := [] }
def y26 : z1t := []
def z9c (k : Nat) (a0 : List (List ByteArray)) (a1 : List ByteArray) (a2 : List ByteArray) : Option (Int) :=
 (z2f fuel a0).bind fun r1 =>
 if (r1 != 0) = true then
 some r1
 else
 if ((a1.length : Int) != (a0.length : Int)) = false then if (0 : Int) < a0.length then if ((a2.length : Int) != ((a0.getD 0 []).length : Int)) = true then
 some 3
 else
 (y8q fuel a1).bind fun r2 =>
 if (r2 != 0) = true then
 some r2
 else
 (y8q fuel a2).bind fun r3 =>
 some r3
 else none
 else
 some 3
def zj1 (k : Nat) : Vm.Spec := { ps := [.slice (.slice .str), .slice .str, .slice .str], rs := [.imm (.int .i64)], f := fun x => z9c k x.1 x.2.1 x.2.2 }
noncomputable def z9a : Vm.Spec := zj1 fuel
theorem z8t : Vm.Spec.holds Tryz.prog 60 z9a := z0u (E := y41) (L := y26) (fn := Tryz.f60) (Z := zj1) (z1f ok) (z0m (by exact ⟨⟨by kernel_rfl, z3f⟩, ⟨by kernel_rfl, yc6⟩, trivial⟩)) z0v (z07 rfl) (z01 rfl) (by kernel_rfl) (by kernel_rfl) (z0o rfl) fun k x => by kernel_rfl
noncomputable def yb4 : Env := { te := te, spec := [(46, z9x), (52, zg8)], body := [] }
def zs9 : List (Nat × OSh) := [(20, .box [.val .bool, .val (.slice (.int .u32)), .val (.slice (.int .u32))])]
def y5z : Ann := { slots := [(1, .one (.val (.slice qT))), (5, .one (.fix (.pbox 20 0))), (8, .one (.val (.slice qT))), (9, .one (.val (.int .i64))), (10, .one (.val (.int .i64)))], objs := zs9 }
def zr9 : Ann := { slots := [(5, .one (.fix (.pbox 20 0)))], objs := zs9 }
def zf2 : Nat -> List (Bool × ((List Int) × (List Int))) -> List (Bool × ((List Int) × (List Int))) -> Int -> Int -> Bool -> List Int -> List Int -> Option (LR zr9 a0)
 | 0, _, _, _, _, _, _, _ => none
 | m + 1, s1, s8, s9, s10, b20_0, b20_1, b20_2 =>
  if decide (s10 < s9) = true then if (0 : Int) <= s10 then if s10 < s8.length then if (0 : Int) <= s10 then if s10 < s1.length then
  (z2n fuel ((s8.getD s10.toNat (false, ([], []))).1, ((s8.getD s10.toNat (false, ([], []))).2)) ((s1.getD s10.toNat (false, ([], []))).1, ((s1.getD s10.toNat (false, ([], []))).2))).bind fun r1 =>
  (z5m fuel (b20_0, (b20_1, b20_2)) r1).bind fun r2 =>
  zf2 m s1 s8 s9 (IntKind.i64.wrap (s10 + 1)) r2.1 r2.2.1 r2.2.2
  else none else none else none else none
  else
  some (.exit (b20_0, b20_1, b20_2, ()))
def zr8 : LSpec := { h := y5z, x := zr9, r := a0, xid := 0, rt := false, pins := [20], f := fun k d => zf2 k d.1 d.2.1 d.2.2.1 d.2.2.2.1 d.2.2.2.2.1 d.2.2.2.2.2.1 d.2.2.2.2.2.2.1 }
def y8c : z1t := [([90], [(3, zr8)])]
def zl2 (k : Nat) (a0 : List (Bool × ((List Int) × (List Int)))) (a1 : List (Bool × ((List Int) × (List Int)))) : Option (Bool × ((List Int) × (List Int))) :=
 match zf2 k a1 a0 (a0.length : Int) 0 false [] [] with
 | none => none
 | some (.exit d1) =>
  some (d1.1, (d1.2.1, d1.2.2.1))
 | some (.ret d1) =>
  none
def zz2 (k : Nat) : Vm.Spec := { ps := [.slice qT, .slice qT], rs := [.imm qT], f := fun x => zl2 k x.1 x.2 }
noncomputable def zk7 : Vm.Spec := zz2 fuel
theorem zf9 : Vm.Spec.holds Tryz.prog 90 zk7 := z0u (E := yb4) (L := y8c) (fn := Tryz.f90) (Z := zz2) (z1f ok) (z0m (by exact ⟨⟨by kernel_rfl, z5h⟩, ⟨by kernel_rfl, z6o⟩, trivial⟩)) z0v (z07 rfl) (z01 rfl) (by kernel_rfl) (by kernel_rfl) (z0h (ls := [(3, zr8)]) rfl rfl ⟨by kernel_rfl, fun _ => rfl, fun _ _ => by kernel_rfl, z0i (by kernel_rfl)⟩) fun k x => by kernel_rfl
noncomputable def yn4 : Env := { te := te, spec := [(31, z9j), (32, z9k), (42, zg7), (53, zi8), (63, z7t), (66, z6i), (90, zk7)], body := [] }
def y7e : Ann := { slots := [(8, .one (.own 184 qT)), (9, .one (.val (.slice qT))), (35, .one (.own 140 (.slice qT))), (36, .one (.val (.int .i64))), (37, .one (.val (.int .i64)))], objs := [(184, .buf qT), (140, .buf (.slice qT))] }
def zw0 : Ann := { slots := [(8, .one (.own 184 qT))], objs := [(184, .buf qT), (140, .buf (.slice qT))] }
def z8i : Nat -> List (Bool × ((List Int) × (List Int))) -> Int -> Int -> List (Bool × ((List Int) × (List Int))) -> List (List (Bool × ((List Int) × (List Int)))) -> Option (LR zw0 a0)
 | 0, _, _, _, _, _ => none
 | m + 1, s9, s36, s37, b184, b140 =>
  if decide (s37 < s36) = true then if (0 : Int) <= s37 then if s37 < b140.length then
  (zl2 fuel (b140.getD s37.toNat []) s9).bind fun r1 =>
  if (b184.length + 1) * 56 <= 140737488355328 then
  z8i m s9 s36 (IntKind.i64.wrap (s37 + 1)) (b184 ++ [r1]) b140
  else none else none else none
  else
  some (.exit (b184, b140, ()))
def zv9 : LSpec := { h := y7e, x := zw0, r := a0, xid := 0, rt := false, pins := [140], f := fun k d => z8i k d.1 d.2.1 d.2.2.1 d.2.2.2.1 d.2.2.2.2.1 }
def ye9 : z1t := [([61], [(12, zv9)])]
def y4r (k : Nat) (a0 : List (List ByteArray)) (a1 : List ByteArray) : Option (List ByteArray × Int) :=
 (z3l fuel a0).bind fun r1 =>
 if (r1 != 0) = true then
 some ([], r1)
 else
 (z1v fuel a1).bind fun r2 =>
 if (r2 != 0) = true then
 some ([], r2)
 else
 (z5b fuel a0).bind fun r3 =>
 if (r3 != (a1.length : Int)) = true then if decide ((a0.length : Int) > 0) = true then
 some ([], 3)
 else
 (z2m fuel a1).bind fun r4 =>
 (z69 fuel a0).bind fun r5 =>
 match z8i k r4 (r5.length : Int) 0 [] r5 with
 | none => none
 | some (.exit d6) =>
  (z3g fuel d6.1).bind fun r7 =>
  some (r7.1, r7.2)
 | some (.ret d6) =>
  none
 else
 (z2m fuel a1).bind fun r8 =>
 (z69 fuel a0).bind fun r9 =>
 match z8i k r8 (r9.length : Int) 0 [] r9 with
 | none => none
 | some (.exit d10) =>
  (z3g fuel d10.1).bind fun r11 =>
  some (r11.1, r11.2)
 | some (.ret d10) =>
  none
def y2d (k : Nat) : Vm.Spec := { ps := [.slice (.slice .str), .slice .str], rs := [.fresh .str, .imm (.int .i64)], f := fun x => y4r k x.1 x.2 }
noncomputable def y4g : Vm.Spec := y2d fuel
theorem y46 : Vm.Spec.holds Tryz.prog 61 y4g := z0u (E := yn4) (L := ye9) (fn := Tryz.f61) (Z := y2d) (z1f ok) (z0m (by exact ⟨⟨by kernel_rfl, z6e⟩, ⟨by kernel_rfl, z6f⟩, ⟨by kernel_rfl, z6l⟩, ⟨by kernel_rfl, z7l⟩, ⟨by kernel_rfl, z4n⟩, ⟨by kernel_rfl, z56⟩, ⟨by kernel_rfl, zf9⟩, trivial⟩)) z0v (z07 rfl) (z01 rfl) (by kernel_rfl) (by kernel_rfl) (z0h (ls := [(12, zv9)]) rfl rfl ⟨by kernel_rfl, fun _ => rfl, fun _ _ => by kernel_rfl, z0i (by kernel_rfl)⟩) fun k x => by kernel_rfl
noncomputable def w03 : Env := { te := te, spec := [(59, zg9), (63, z7t), (66, z6i), (86, zo6), (90, zk7)], body := [] }
def yv0 : z1t := []
def ya1 (k : Nat) (a0 : List ByteArray) (a1 : List ByteArray) : Option (ByteArray × Int) :=
 (z1v fuel a0).bind fun r1 =>
 if (r1 != 0) = true then
 some ((⟨#[]⟩ : ByteArray), r1)
 else
 (z1v fuel a1).bind fun r2 =>
 if (r2 != 0) = true then
 some ((⟨#[]⟩ : ByteArray), r2)
 else
 if ((a0.length : Int) != (a1.length : Int)) = true then
 some ((⟨#[]⟩ : ByteArray), 3)
 else
 (z2m fuel a0).bind fun r3 =>
 (z2m fuel a1).bind fun r4 =>
 (zl2 fuel r3 r4).bind fun r5 =>
 (z8f fuel r5).bind fun r6 =>
 if (r6 != 0) = true then
 some ((⟨#[]⟩ : ByteArray), r6)
 else
 (z6u fuel r5).bind fun r7 =>
 some (r7, 0)
def y6o (k : Nat) : Vm.Spec := { ps := [.slice .str, .slice .str], rs := [.imm .str, .imm (.int .i64)], f := fun x => ya1 k x.1 x.2 }
noncomputable def y9e : Vm.Spec := y6o fuel
theorem y77 : Vm.Spec.holds Tryz.prog 62 y9e := z0u (E := w03) (L := yv0) (fn := Tryz.f62) (Z := y6o) (z1f ok) (z0m (by exact ⟨⟨by kernel_rfl, z6p⟩, ⟨by kernel_rfl, z4n⟩, ⟨by kernel_rfl, z56⟩, ⟨by kernel_rfl, z77⟩, ⟨by kernel_rfl, zf9⟩, trivial⟩)) z0v (z07 rfl) (z01 rfl) (by kernel_rfl) (by kernel_rfl) (z0o rfl) fun k x => by kernel_rfl
noncomputable def yu5 : Env := { te := te, spec := [(60, z9a), (61, y4g), (62, y9e)], body := [] }
def yn9 : z1t := []
def y76 (k : Nat) (a0 : List (List ByteArray)) (a1 : List ByteArray) (a2 : List ByteArray) : Option (ByteArray × Int) :=
 (z9c fuel a0 a1 a2).bind fun r1 =>
 if (r1 != 0) = true then
 some ((⟨#[]⟩ : ByteArray), r1)
 else
 (y4r fuel a0 a2).bind fun r2 =>
 if (r2.2 != 0) = true then
 some ((⟨#[]⟩ : ByteArray), r2.2)
 else
 (ya1 fuel a1 r2.1).bind fun r3 =>
 some (r3.1, r3.2)
def y4i (k : Nat) : Vm.Spec := { ps := [.slice (.slice .str), .slice .str, .slice .str], rs := [.imm .str, .imm (.int .i64)], f := fun x => y76 k x.1 x.2.1 x.2.2 }
noncomputable def y6k : Vm.Spec := y4i fuel
theorem y5s : Vm.Spec.holds Tryz.prog 20 y6k := z0u (E := yu5) (L := yn9) (fn := Tryz.f20) (Z := y4i) (z1f ok) (z0m (by exact ⟨⟨by kernel_rfl, z8t⟩, ⟨by kernel_rfl, y46⟩, ⟨by kernel_rfl, y77⟩, trivial⟩)) z0v (z07 rfl) (z01 rfl) (by kernel_rfl) (by kernel_rfl) (z0o rfl) fun k x => by kernel_rfl
noncomputable def yb2 : Env := { te := te, spec := [(9, z5k), (42, zg7), (57, z9y)], body := [] }
def zs5 : List (Nat × OSh) := [(40, .box [.val .bool, .val (.slice (.int .u32)), .val (.slice (.int .u32))])]
def y49 : Ann := { slots := [(10, .one (.fix (.pbox 40 0))), (11, .one (.val .bool)), (37, .one (.val (.slice qT))), (38, .one (.val (.int .i64))), (39, .one (.val (.int .i64)))], objs := zs5 }
def zm4 : Ann := { slots := [(10, .one (.fix (.pbox 40 0))), (11, .one (.val .bool))], objs := zs5 }
def zs6 : List (Nat × OSh) := [(40, .box [.val .bool, .val (.slice (.int .u32)), .val (.slice (.int .u32))]), (88, .buf (.slice qT))]
def y4a : Ann := { slots := [(9, .one (.val (.int .i64))), (10, .one (.fix (.pbox 40 0))), (11, .one (.val .bool)), (51, .one (.own 88 (.slice qT))), (52, .one (.val (.int .i64))), (53, .one (.val (.int .i64)))], objs := zs6 }
def zm6 : Ann := { slots := [(11, .one (.val .bool))], objs := zs6 }
def y5x : Ann := { slots := [(6, .one (.own 88 (.slice qT))), (7, .one (.val (.int .i64))), (8, .one (.val (.slice qT))), (30, .one (.val (.slice qT))), (31, .one (.val (.int .i64))), (32, .one (.val (.int .i64)))], objs := [(88, .buf (.slice qT))] }
def zr5 : Ann := { slots := [(6, .one (.own 88 (.slice qT)))], objs := [(88, .buf (.slice qT))] }
def zr4 : Ann := { slots := [(2, .one (.val (.int .i64))), (3, .one (.val (.int .i64))), (4, .one (.val (.int .i64)))], objs := [(88, .buf (.slice qT))] }
def y5w : Ann := { slots := [(6, .one (.own 88 (.slice qT))), (23, .one (.own 88 (.slice qT))), (24, .one (.val (.int .i64))), (25, .one (.val (.int .i64)))], objs := [(88, .buf (.slice qT))] }
def zr2 : Ann := { slots := [], objs := [(88, .buf (.slice qT))] }
def zr1 : Ann := { slots := [(2, .one (.val (.int .i64))), (3, .one (.val (.int .i64))), (4, .one (.val (.int .i64)))], objs := [(88, .buf (.slice qT))] }
def z6y : Nat -> Bool -> List (Bool × ((List Int) × (List Int))) -> Int -> Int -> Bool -> List Int -> List Int -> Option (LR zm4 a0)
 | 0, _, _, _, _, _, _, _ => none
 | m + 1, s11, s37, s38, s39, b40_0, b40_1, b40_2 =>
  if decide (s39 < s38) = true then if (0 : Int) <= s39 then if s39 < s37.length then if s11 = true then
  (z4w fuel ((s37.getD s39.toNat (false, ([], []))).1, ((s37.getD s39.toNat (false, ([], []))).2)) (b40_0, (b40_1, b40_2))).bind fun r1 =>
  z6y m (decide (r1 >= 0)) s37 s38 (IntKind.i64.wrap (s39 + 1)) b40_0 b40_1 b40_2
  else
  z6y m false s37 s38 (IntKind.i64.wrap (s39 + 1)) b40_0 b40_1 b40_2
  else none else none
  else
  some (.exit (s11, b40_0, b40_1, b40_2, ()))
def zm3 : LSpec := { h := y49, x := zm4, r := a0, xid := 4, rt := false, pins := [40], f := fun k d => z6y k d.1 d.2.1 d.2.2.1 d.2.2.2.1 d.2.2.2.2.1 d.2.2.2.2.2.1 d.2.2.2.2.2.2.1 }
def z6z : Nat -> Int -> Bool -> Int -> Int -> Bool -> List Int -> List Int -> List (List (Bool × ((List Int) × (List Int)))) -> Option (LR zm6 a0)
 | 0, _, _, _, _, _, _, _, _ => none
 | m + 1, s9, s11, s52, s53, b40_0, b40_1, b40_2, b88 =>
  if decide (s53 < s52) = true then if (0 : Int) <= s53 then if s53 < b88.length then if s11 = true then if (0 : Int) <= s9 then if s9 < (b88.getD s53.toNat []).length then
  (z4w fuel (((b88.getD s53.toNat []).getD s9.toNat (false, ([], []))).1, (((b88.getD s53.toNat []).getD s9.toNat (false, ([], []))).2)) (b40_0, (b40_1, b40_2))).bind fun r1 =>
  z6z m s9 (decide (r1 <= 0)) s52 (IntKind.i64.wrap (s53 + 1)) b40_0 b40_1 b40_2 b88
  else none else none
  else
  z6z m s9 false s52 (IntKind.i64.wrap (s53 + 1)) b40_0 b40_1 b40_2 b88
  else none else none
  else
  some (.exit (s11, b40_0, b40_1, b40_2, b88, ()))
def zm5 : LSpec := { h := y4a, x := zm6, r := a0, xid := 6, rt := false, pins := [40, 88], f := fun k d => z6z k d.1 d.2.1 d.2.2.1 d.2.2.2.1 d.2.2.2.2.1 d.2.2.2.2.2.1 d.2.2.2.2.2.2.1 d.2.2.2.2.2.2.2.1 }
def ze9 : Nat -> Int -> List (Bool × ((List Int) × (List Int))) -> List (Bool × ((List Int) × (List Int))) -> Int -> Int -> List (List (Bool × ((List Int) × (List Int)))) -> Option (LR zr5 zr4)
 | 0, _, _, _, _, _, _ => none
 | m + 1, s7, s8, s30, s31, s32, b88 =>
  if decide (s32 < s31) = true then if (0 : Int) <= s32 then if s32 < s30.length then
  match z6y m true s8 (s8.length : Int) 0 ((s30.getD s32.toNat (false, ([], []))).1) (((s30.getD s32.toNat (false, ([], []))).2).1) (((s30.getD s32.toNat (false, ([], []))).2).2) with
  | none => none
  | some (.exit d1) =>
   match z6z m s32 d1.1 (b88.length : Int) 0 d1.2.1 d1.2.2.1 d1.2.2.2.1 b88 with
   | none => none
   | some (.exit d2) =>
    if d2.1 = true then
    some (.ret (s7, s32, 0, d2.2.2.2.2.1, ()))
    else
    ze9 m s7 s8 s30 s31 (IntKind.i64.wrap (s32 + 1)) d2.2.2.2.2.1
   | some (.ret d2) =>
    none
  | some (.ret d1) =>
   none
  else none else none
  else
  some (.exit (b88, ()))
def zr3 : LSpec := { h := y5x, x := zr5, r := zr4, xid := 2, rt := true, pins := [88], f := fun k d => ze9 k d.1 d.2.1 d.2.2.1 d.2.2.2.1 d.2.2.2.2.1 d.2.2.2.2.2.1 }
def ze8 : Nat -> Int -> Int -> List (List (Bool × ((List Int) × (List Int)))) -> Option (LR zr2 zr1)
 | 0, _, _, _ => none
 | m + 1, s24, s25, b88 =>
  if decide (s25 < s24) = true then if (0 : Int) <= s25 then if s25 < b88.length then
  match ze9 m s25 (b88.getD s25.toNat []) (b88.getD s25.toNat []) ((b88.getD s25.toNat []).length : Int) 0 b88 with
  | none => none
  | some (.exit d1) =>
   ze8 m s24 (IntKind.i64.wrap (s25 + 1)) d1.1
  | some (.ret d1) =>
   some (.ret (d1.1, d1.2.1, d1.2.2.1, d1.2.2.2.1, ()))
  else none else none
  else
  some (.exit (b88, ()))
def zr0 : LSpec := { h := y5w, x := zr2, r := zr1, xid := 0, rt := true, pins := [88], f := fun k d => ze8 k d.1 d.2.1 d.2.2.1 }
def y8a : z1t := [([21], [(6, zr0), (9, zr3), (13, zm3), (18, zm5)])]
def y1l (k : Nat) (a0 : List (List ByteArray)) : Option (Int × Int × Int) :=
 (z2f fuel a0).bind fun r1 =>
 if (r1 != 0) = true then
 some (0, 0, r1)
 else
 (z69 fuel a0).bind fun r2 =>
 match ze8 k (r2.length : Int) 0 r2 with
 | none => none
 | some (.exit d3) =>
  some (0, 0, 8)
 | some (.ret d3) =>
  some (d3.1, d3.2.1, d3.2.2.1)
def zz0 (k : Nat) : Vm.Spec := { ps := [.slice (.slice .str)], rs := [.imm (.int .i64), .imm (.int .i64), .imm (.int .i64)], f := fun x => y1l k x }
noncomputable def y1c : Vm.Spec := zz0 fuel
theorem y1y : Vm.Spec.holds Tryz.prog 21 y1c := z0u (E := yb2) (L := y8a) (fn := Tryz.f21) (Z := zz0) (z1f ok) (z0m (by exact ⟨⟨by kernel_rfl, z3f⟩, ⟨by kernel_rfl, z6l⟩, ⟨by kernel_rfl, z5i⟩, trivial⟩)) z0v (z07 rfl) (z01 rfl) (by kernel_rfl) (by kernel_rfl) (z0h (ls := [(6, zr0), (9, zr3), (13, zm3), (18, zm5)]) rfl rfl ⟨by kernel_rfl, fun _ => rfl, fun _ _ => by kernel_rfl, by kernel_rfl, fun _ => rfl, fun _ _ => by kernel_rfl, by kernel_rfl, fun _ => rfl, fun _ _ => by kernel_rfl, by kernel_rfl, fun _ => rfl, fun _ _ => by kernel_rfl, z0i (by kernel_rfl)⟩) fun k x => by kernel_rfl
noncomputable def y6e : Env := { te := te, spec := [], body := [] }
def y3a : Ann := { slots := [(0, .one (.val (.slice .str))), (1, .one (.val (.slice .str))), (12, .one (.val (.int .i64))), (13, .one (.val (.int .i64)))], objs := [] }
def zk1 : Ann := { slots := [(4, .one (.val .bool))], objs := [] }
def z9h : Nat -> List ByteArray -> List ByteArray -> Int -> Int -> Option (LR a0 zk1)
 | 0, _, _, _, _ => none
 | m + 1, s0, s1, s12, s13 =>
  if decide (s13 < s12) = true then if (0 : Int) <= s13 then if s13 < s0.length then if (0 : Int) <= s13 then if s13 < s1.length then if (!((s0.getD s13.toNat ByteArray.empty).toList == (s1.getD s13.toNat ByteArray.empty).toList)) = true then
  some (.ret (false, ()))
  else
  z9h m s0 s1 s12 (IntKind.i64.wrap (s13 + 1))
  else none else none else none else none
  else
  some (.exit ())
def zk0 : LSpec := { h := y3a, x := a0, r := zk1, xid := 0, rt := true, pins := [], f := fun k d => z9h k d.1 d.2.1 d.2.2.1 d.2.2.2.1 }
def y5i : z1t := [([22], [(4, zk0)])]
def zv5 (k : Nat) (a0 : List ByteArray) (a1 : List ByteArray) : Option (Bool) :=
 if ((a0.length : Int) != (a1.length : Int)) = true then
 some false
 else
 match z9h k a0 a1 (a0.length : Int) 0 with
 | none => none
 | some (.exit d1) =>
  some true
 | some (.ret d1) =>
  some d1.1
def zp9 (k : Nat) : Vm.Spec := { ps := [.slice .str, .slice .str], rs := [.imm .bool], f := fun x => zv5 k x.1 x.2 }
noncomputable def zu8 : Vm.Spec := zp9 fuel
theorem y00 : Vm.Spec.holds Tryz.prog 22 zu8 := z0u (E := y6e) (L := y5i) (fn := Tryz.f22) (Z := zp9) (z1f ok) (z0m (by exact trivial)) z0v (z07 rfl) (z01 rfl) (by kernel_rfl) (by kernel_rfl) (z0h (ls := [(4, zk0)]) rfl rfl ⟨by kernel_rfl, fun _ => rfl, fun _ _ => by kernel_rfl, z0i (by kernel_rfl)⟩) fun k x => by kernel_rfl
noncomputable def y6f : Env := { te := te, spec := [], body := [] }
def y3b : Ann := { slots := [(0, .one (.val (.slice (.int .i64)))), (1, .one (.val (.slice (.int .i64)))), (12, .one (.val (.int .i64))), (13, .one (.val (.int .i64)))], objs := [] }
def zk3 : Ann := { slots := [(4, .one (.val .bool))], objs := [] }
def z9i : Nat -> List Int -> List Int -> Int -> Int -> Option (LR a0 zk3)
 | 0, _, _, _, _ => none
 | m + 1, s0, s1, s12, s13 =>
  if decide (s13 < s12) = true then if (0 : Int) <= s13 then if s13 < s0.length then if (0 : Int) <= s13 then if s13 < s1.length then if (s0.getD s13.toNat 0 != s1.getD s13.toNat 0) = true then
  some (.ret (false, ()))
  else
  z9i m s0 s1 s12 (IntKind.i64.wrap (s13 + 1))
  else none else none else none else none
  else
  some (.exit ())
def zk2 : LSpec := { h := y3b, x := a0, r := zk3, xid := 0, rt := true, pins := [], f := fun k d => z9i k d.1 d.2.1 d.2.2.1 d.2.2.2.1 }
def y5j : z1t := [([23], [(4, zk2)])]
def zv6 (k : Nat) (a0 : List Int) (a1 : List Int) : Option (Bool) :=
 if ((a0.length : Int) != (a1.length : Int)) = true then
 some false
 else
 match z9i k a0 a1 (a0.length : Int) 0 with
 | none => none
 | some (.exit d1) =>
  some true
 | some (.ret d1) =>
  some d1.1
def zq0 (k : Nat) : Vm.Spec := { ps := [.slice (.int .i64), .slice (.int .i64)], rs := [.imm .bool], f := fun x => zv6 k x.1 x.2 }
noncomputable def zu9 : Vm.Spec := zq0 fuel
theorem y01 : Vm.Spec.holds Tryz.prog 23 zu9 := z0u (E := y6f) (L := y5j) (fn := Tryz.f23) (Z := zq0) (z1f ok) (z0m (by exact trivial)) z0v (z07 rfl) (z01 rfl) (by kernel_rfl) (by kernel_rfl) (z0h (ls := [(4, zk2)]) rfl rfl ⟨by kernel_rfl, fun _ => rfl, fun _ _ => by kernel_rfl, z0i (by kernel_rfl)⟩) fun k x => by kernel_rfl
noncomputable def yb3 : Env := { te := te, spec := [(10, y0s), (25, zo1), (42, zg7), (46, z9x), (52, zg8), (57, z9y), (60, z9a), (63, z7t)], body := [] }
def zs7 : List (Nat × OSh) := [(172, .buf qT), (52, .box [.val .bool, .val (.slice (.int .u32)), .val (.slice (.int .u32))])]
def y4c : Ann := { slots := [(9, .one (.own 172 qT)), (13, .one (.fix (.pbox 52 0))), (52, .one (.val (.slice qT))), (53, .one (.val (.int .i64))), (54, .one (.val (.int .i64)))], objs := zs7 }
def zn1 : Ann := { slots := [(9, .one (.own 172 qT)), (13, .one (.fix (.pbox 52 0)))], objs := zs7 }
def za7 : List (Nat × OSh) := [(28, .box [.val .bool, .val (.slice (.int .u32)), .val (.slice (.int .u32))]), (172, .buf qT), (180, .buf (.slice qT))]
def y4b : Ann := { slots := [(7, .one (.fix (.pbox 28 0))), (9, .one (.own 172 qT)), (46, .one (.own 180 (.slice qT))), (47, .one (.val (.int .i64))), (48, .one (.val (.int .i64)))], objs := za7 }
def zm9 : Ann := { slots := [(7, .one (.fix (.pbox 28 0))), (9, .one (.own 172 qT))], objs := za7 }
def zm8 : Ann := { slots := [(4, .one (.val (.int .i64)))], objs := za7 }
def zs8 : List (Nat × OSh) := [(160, .buf qT), (68, .box [.val .bool, .val (.slice (.int .u32)), .val (.slice (.int .u32))]), (180, .buf (.slice qT))]
def y4e : Ann := { slots := [(8, .one (.own 160 qT)), (16, .one (.val (.int .i64))), (17, .one (.fix (.pbox 68 0))), (78, .one (.own 180 (.slice qT))), (79, .one (.val (.int .i64))), (80, .one (.val (.int .i64)))], objs := zs8 }
def zn6 : Ann := { slots := [(8, .one (.own 160 qT)), (17, .one (.fix (.pbox 68 0)))], objs := zs8 }
def za8 : List (Nat × OSh) := [(28, .box [.val .bool, .val (.slice (.int .u32)), .val (.slice (.int .u32))]), (160, .buf qT), (180, .buf (.slice qT))]
def y4d : Ann := { slots := [(7, .one (.fix (.pbox 28 0))), (8, .one (.own 160 qT)), (10, .one (.own 180 (.slice qT))), (74, .one (.val (.int .i64))), (75, .one (.val (.int .i64)))], objs := za8 }
def zn4 : Ann := { slots := [], objs := za8 }
def zn3 : Ann := { slots := [(4, .one (.val (.int .i64)))], objs := za8 }
def za4 : Nat -> List (Bool × ((List Int) × (List Int))) -> Int -> Int -> List (Bool × ((List Int) × (List Int))) -> Bool -> List Int -> List Int -> Option (LR zn1 a0)
 | 0, _, _, _, _, _, _, _ => none
 | m + 1, s52, s53, s54, b172, b52_0, b52_1, b52_2 =>
  if decide (s54 < s53) = true then if (0 : Int) <= s54 then if s54 < s52.length then if (0 : Int) <= s54 then if s54 < b172.length then
  (z2n fuel ((s52.getD s54.toNat (false, ([], []))).1, ((s52.getD s54.toNat (false, ([], []))).2)) ((b172.getD s54.toNat (false, ([], []))).1, ((b172.getD s54.toNat (false, ([], []))).2))).bind fun r1 =>
  (z5m fuel (b52_0, (b52_1, b52_2)) r1).bind fun r2 =>
  za4 m s52 s53 (IntKind.i64.wrap (s54 + 1)) b172 r2.1 r2.2.1 r2.2.2
  else none else none else none else none
  else
  some (.exit (b172, b52_0, b52_1, b52_2, ()))
def zn0 : LSpec := { h := y4c, x := zn1, r := a0, xid := 2, rt := false, pins := [172, 52], f := fun k d => za4 k d.1 d.2.1 d.2.2.1 d.2.2.2.1 d.2.2.2.2.1 d.2.2.2.2.2.1 d.2.2.2.2.2.2.1 }
def za3 : Nat -> Int -> Int -> Bool -> List Int -> List Int -> List (Bool × ((List Int) × (List Int))) -> List (List (Bool × ((List Int) × (List Int)))) -> Option (LR zm9 zm8)
 | 0, _, _, _, _, _, _, _ => none
 | m + 1, s47, s48, b28_0, b28_1, b28_2, b172, b180 =>
  if decide (s48 < s47) = true then if (0 : Int) <= s48 then if s48 < b180.length then
  match za4 m (b180.getD s48.toNat []) ((b180.getD s48.toNat []).length : Int) 0 b172 false [] [] with
  | none => none
  | some (.exit d1) =>
   (z4w fuel (d1.2.1, (d1.2.2.1, d1.2.2.2.1)) (b28_0, (b28_1, b28_2))).bind fun r2 =>
   if decide (r2 > 0) = true then
   some (.ret (16, b28_0, b28_1, b28_2, d1.1, b180, ()))
   else
   za3 m s47 (IntKind.i64.wrap (s48 + 1)) b28_0 b28_1 b28_2 d1.1 b180
  | some (.ret d1) =>
   none
  else none else none
  else
  some (.exit (b28_0, b28_1, b28_2, b172, b180, ()))
def zm7 : LSpec := { h := y4b, x := zm9, r := zm8, xid := 0, rt := true, pins := [28, 172, 180], f := fun k d => za3 k d.1 d.2.1 d.2.2.1 d.2.2.2.1 d.2.2.2.2.1 d.2.2.2.2.2.1 d.2.2.2.2.2.2.1 }
def za6 : Nat -> Int -> Int -> Int -> List (Bool × ((List Int) × (List Int))) -> Bool -> List Int -> List Int -> List (List (Bool × ((List Int) × (List Int)))) -> Option (LR zn6 a0)
 | 0, _, _, _, _, _, _, _, _ => none
 | m + 1, s16, s79, s80, b160, b68_0, b68_1, b68_2, b180 =>
  if decide (s80 < s79) = true then if (0 : Int) <= s80 then if s80 < b180.length then if (0 : Int) <= s16 then if s16 < (b180.getD s80.toNat []).length then if (0 : Int) <= s80 then if s80 < b160.length then
  (z2n fuel (((b180.getD s80.toNat []).getD s16.toNat (false, ([], []))).1, (((b180.getD s80.toNat []).getD s16.toNat (false, ([], []))).2)) ((b160.getD s80.toNat (false, ([], []))).1, ((b160.getD s80.toNat (false, ([], []))).2))).bind fun r1 =>
  (z5m fuel (b68_0, (b68_1, b68_2)) r1).bind fun r2 =>
  za6 m s16 s79 (IntKind.i64.wrap (s80 + 1)) b160 r2.1 r2.2.1 r2.2.2 b180
  else none else none else none else none else none else none
  else
  some (.exit (b160, b68_0, b68_1, b68_2, b180, ()))
def zn5 : LSpec := { h := y4e, x := zn6, r := a0, xid := 6, rt := false, pins := [160, 68, 180], f := fun k d => za6 k d.1 d.2.1 d.2.2.1 d.2.2.2.1 d.2.2.2.2.1 d.2.2.2.2.2.1 d.2.2.2.2.2.2.1 d.2.2.2.2.2.2.2.1 }
def za5 : Nat -> Int -> Int -> Bool -> List Int -> List Int -> List (Bool × ((List Int) × (List Int))) -> List (List (Bool × ((List Int) × (List Int)))) -> Option (LR zn4 zn3)
 | 0, _, _, _, _, _, _, _ => none
 | m + 1, s74, s75, b28_0, b28_1, b28_2, b160, b180 =>
  if decide (s75 < s74) = true then
  match za6 m s75 (b180.length : Int) 0 b160 false [] [] b180 with
  | none => none
  | some (.exit d1) =>
   (z4w fuel (d1.2.1, (d1.2.2.1, d1.2.2.2.1)) (b28_0, (b28_1, b28_2))).bind fun r2 =>
   if decide (r2 < 0) = true then
   some (.ret (16, b28_0, b28_1, b28_2, d1.1, d1.2.2.2.2.1, ()))
   else
   za5 m s74 (IntKind.i64.wrap (s75 + 1)) b28_0 b28_1 b28_2 d1.1 d1.2.2.2.2.1
  | some (.ret d1) =>
   none
  else
  some (.exit (b28_0, b28_1, b28_2, b160, b180, ()))
def zn2 : LSpec := { h := y4d, x := zn4, r := zn3, xid := 4, rt := true, pins := [28, 160, 180], f := fun k d => za5 k d.1 d.2.1 d.2.2.1 d.2.2.2.1 d.2.2.2.2.1 d.2.2.2.2.2.1 d.2.2.2.2.2.2.1 }
def y8b : z1t := [([24], [(11, zm7), (15, zn0), (23, zn2), (27, zn5)])]
def zl1 (k : Nat) (a0 : List (List ByteArray)) (a1 : ByteArray × ((List ByteArray) × (List ByteArray))) : Option (Int) :=
 (z9c fuel a0 a1.2.1 a1.2.2).bind fun r1 =>
 if (r1 != 0) = true then
 some r1
 else
 (z7z fuel a1.1).bind fun r2 =>
 if (r2 != 0) = true then
 some r2
 else
 (z7n fuel a1.1).bind fun r3 =>
 (z2m fuel a1.2.1).bind fun r4 =>
 (z2m fuel a1.2.2).bind fun r5 =>
 (z69 fuel a0).bind fun r6 =>
 match za3 k (r6.length : Int) 0 r3.1 r3.2.1 r3.2.2 r5 r6 with
 | none => none
 | some (.exit d7) =>
  match za5 k (d7.2.2.2.1.length : Int) 0 d7.1 d7.2.1 d7.2.2.1 r4 d7.2.2.2.2.1 with
  | none => none
  | some (.exit d8) =>
   some 0
  | some (.ret d8) =>
   some d8.1
 | some (.ret d7) =>
  some d7.1
def zz1 (k : Nat) : Vm.Spec := { ps := [.slice (.slice .str), .pair .str (.pair (.slice .str) (.slice .str))], rs := [.imm (.int .i64)], f := fun x => zl1 k x.1 x.2 }
noncomputable def y1d : Vm.Spec := zz1 fuel
theorem y1z : Vm.Spec.holds Tryz.prog 24 y1d := z0u (E := yb3) (L := y8b) (fn := Tryz.f24) (Z := zz1) (z1f ok) (z0m (by exact ⟨⟨by kernel_rfl, zh1⟩, ⟨by kernel_rfl, z5c⟩, ⟨by kernel_rfl, z6l⟩, ⟨by kernel_rfl, z5h⟩, ⟨by kernel_rfl, z6o⟩, ⟨by kernel_rfl, z5i⟩, ⟨by kernel_rfl, z8t⟩, ⟨by kernel_rfl, z4n⟩, trivial⟩)) z0v (z07 rfl) (z01 rfl) (by kernel_rfl) (by kernel_rfl) (z0h (ls := [(11, zm7), (15, zn0), (23, zn2), (27, zn5)]) rfl rfl ⟨by kernel_rfl, fun _ => rfl, fun _ _ => by kernel_rfl, by kernel_rfl, fun _ => rfl, fun _ _ => by kernel_rfl, by kernel_rfl, fun _ => rfl, fun _ _ => by kernel_rfl, by kernel_rfl, fun _ => rfl, fun _ _ => by kernel_rfl, z0i (by kernel_rfl)⟩) fun k x => by kernel_rfl
noncomputable def zp2 : Env := { te := te, spec := [(9, z5k), (12, zp4), (13, z6d), (14, zp3), (19, zd0), (20, y6k), (21, y1c), (22, zu8), (23, zu9), (24, y1d)], body := [] }
def zn9 : z1t := []
def z5l (k : Nat) : Option (Bool) :=
 (z3m fuel).bind fun r1 =>
 (z6k fuel r1).bind fun r2 =>
 (z3m fuel).bind fun r3 =>
 (y76 fuel r3 [(⟨#[49]⟩ : ByteArray), (⟨#[48]⟩ : ByteArray)] [(⟨#[49]⟩ : ByteArray), (⟨#[48]⟩ : ByteArray)]).bind fun r4 =>
 (y1l fuel [[(⟨#[50]⟩ : ByteArray), (⟨#[51]⟩ : ByteArray)], [(⟨#[49]⟩ : ByteArray), (⟨#[48]⟩ : ByteArray)]]).bind fun r5 =>
 (zq5 fuel [[(⟨#[50]⟩ : ByteArray), (⟨#[51]⟩ : ByteArray)], [(⟨#[49]⟩ : ByteArray), (⟨#[48]⟩ : ByteArray)]]).bind fun r6 =>
 (z3v fuel [r2.2, r4.2, r5.2.2, r6.2]).bind fun r7 =>
 if r7 = true then if ((r2.1.1.toList == (⟨#[48]⟩ : ByteArray).toList)) = true then
 (zv5 fuel r2.1.2.1 [(⟨#[49, 47, 50]⟩ : ByteArray), (⟨#[49, 47, 50]⟩ : ByteArray)]).bind fun r8 =>
 if r8 = true then if ((r4.1.toList == (⟨#[49]⟩ : ByteArray).toList)) = true then if (r5.1 == 0) = true then if (r5.2.1 == 0) = true then
 (zv6 fuel r6.1 [1]).bind fun r9 =>
 if r9 = true then
 (z3m fuel).bind fun r10 =>
 (zl1 fuel r10 r2.1).bind fun r11 =>
 if (r11 == 0) = true then
 (z3m fuel).bind fun r12 =>
 (zl1 fuel r12 ((⟨#[49]⟩ : ByteArray), r2.1.2)).bind fun r13 =>
 if (r13 == 16) = true then
 (z2f fuel []).bind fun r14 =>
 some (r14 == 8)
 else
 some false
 else
 some false
 else
 some false
 else
 some false
 else
 some false
 else
 some false
 else
 some false
 else
 some false
 else
 some false
def z7k (k : Nat) : Vm.Spec := { ps := [], rs := [.imm .bool], f := fun x => z5l k }
noncomputable def z7s : Vm.Spec := z7k fuel
theorem zd9 : Vm.Spec.holds Tryz.prog 6 z7s := z0u (E := zp2) (L := zn9) (fn := Tryz.f6) (Z := z7k) (z1f ok) (z0m (by exact ⟨⟨by kernel_rfl, z3f⟩, ⟨by kernel_rfl, zj5⟩, ⟨by kernel_rfl, z5u⟩, ⟨by kernel_rfl, zx6⟩, ⟨by kernel_rfl, zk9⟩, ⟨by kernel_rfl, y5s⟩, ⟨by kernel_rfl, y1y⟩, ⟨by kernel_rfl, y00⟩, ⟨by kernel_rfl, y01⟩, ⟨by kernel_rfl, y1z⟩, trivial⟩)) z0v (z07 rfl) (z01 rfl) (by kernel_rfl) (by kernel_rfl) (z0o rfl) fun k x => by kernel_rfl
noncomputable def y24 : Env := { te := te, spec := [], body := [(27, Tryz.f27), (28, Tryz.f28), (29, Tryz.f29), (30, Tryz.f30), (64, Tryz.f64), (65, Tryz.f65)] }
def z0z : Ann := { slots := [(0, .one (.val (.slice .str))), (1, .one (.fix (.func 30))), (7, .one (.val (.int .i64))), (8, .one (.val (.int .i64)))], objs := [] }
def z0d : Ann := { slots := [(4, .one (.val (.int .i64)))], objs := [] }
def z6r : List (Nat × OSh) := [(76, .clos 28 [.fix (.pbox 8 0)]), (8, .box [.val (.int .i64)])]
def z39 : Ann := { slots := [(0, .one (.val (.slice (.slice .str)))), (1, .one (.fix (.clos 76))), (7, .one (.val (.int .i64))), (8, .one (.val (.int .i64)))], objs := z6r }
def z1q : Ann := { slots := [], objs := z6r }
def z1p : Ann := { slots := [(4, .one (.val (.int .i64)))], objs := z6r }
def y05 : Ann := { slots := [(2, .one (.fix (.pbox 8 0))), (7, .one (.val (.slice (.slice (.slice .str))))), (8, .one (.val (.int .i64))), (9, .one (.val (.int .i64)))], objs := [(8, .box [.val (.int .i64)])] }
def zc3 : Ann := { slots := [], objs := [(8, .box [.val (.int .i64)])] }
def zc2 : Ann := { slots := [(4, .one (.val .bool))], objs := [(8, .box [.val (.int .i64)])] }
def z00 : Nat -> List ByteArray -> Int -> Int -> Option (LR a0 z0d)
 | 0, _, _, _ => none
 | m + 1, s0, s7, s8 =>
  if decide (s8 < s7) = true then if (0 : Int) <= s8 then if s8 < s0.length then if decide (((s0.getD s8.toNat ByteArray.empty).size : Int) > 12) = true then
  some (.ret (s8, ()))
  else
  z00 m s0 s7 (IntKind.i64.wrap (s8 + 1))
  else none else none
  else
  some (.exit ())
def z0c : LSpec := { h := z0z, x := a0, r := z0d, xid := 0, rt := true, pins := [], f := fun k d => z00 k d.1 d.2.1 d.2.2.1 }
def z03 : Nat -> List (List ByteArray) -> Int -> Int -> Int -> Option (LR z1q z1p)
 | 0, _, _, _, _ => none
 | m + 1, s0, s7, s8, b8_0 =>
  if decide (s8 < s7) = true then if (0 : Int) <= s8 then if s8 < s0.length then if decide (((s0.getD s8.toNat []).length : Int) > b8_0) = false then
  match z00 m (s0.getD s8.toNat []) ((s0.getD s8.toNat []).length : Int) 0 with
  | none => none
  | some (.exit d1) =>
   z03 m s0 s7 (IntKind.i64.wrap (s8 + 1)) b8_0
  | some (.ret d1) =>
   if decide (d1.1 >= 0) = true then
   some (.ret (s8, b8_0, ()))
   else
   z03 m s0 s7 (IntKind.i64.wrap (s8 + 1)) b8_0
  else
  some (.ret (s8, b8_0, ()))
  else none else none
  else
  some (.exit (b8_0, ()))
def z1o : LSpec := { h := z39, x := z1q, r := z1p, xid := 0, rt := true, pins := [76, 8], f := fun k d => z03 k d.1 d.2.1 d.2.2.1 d.2.2.2.1 }
def z38 : Nat -> List (List (List ByteArray)) -> Int -> Int -> Int -> Option (LR zc3 zc2)
 | 0, _, _, _, _ => none
 | m + 1, s7, s8, s9, b8_0 =>
  if decide (s9 < s8) = true then if (0 : Int) <= s9 then if s9 < s7.length then if decide (((s7.getD s9.toNat []).length : Int) > b8_0) = false then
  match z03 m (s7.getD s9.toNat []) ((s7.getD s9.toNat []).length : Int) 0 b8_0 with
  | none => none
  | some (.exit d1) =>
   z38 m s7 s8 (IntKind.i64.wrap (s9 + 1)) d1.1
  | some (.ret d1) =>
   if decide (d1.1 >= 0) = true then
   some (.ret (false, d1.2.1, ()))
   else
   z38 m s7 s8 (IntKind.i64.wrap (s9 + 1)) d1.2.1
  else
  some (.ret (false, b8_0, ()))
  else none else none
  else
  some (.exit (b8_0, ()))
def zc1 : LSpec := { h := y05, x := zc3, r := zc2, xid := 0, rt := true, pins := [8], f := fun k d => z38 k d.1 d.2.1 d.2.2.1 d.2.2.2.1 }
def y1w : z1t := [([65, 29, 28, 64, 27, 8], [(2, z0c)]), ([64, 27, 8], [(2, z1o)]), ([8], [(2, zc1)])]
def z4j (k : Nat) (a0 : Int) (a1 : List (List (List ByteArray))) : Option (Bool) :=
 match z38 k a1 (a1.length : Int) 0 a0 with
 | none => none
 | some (.exit d1) =>
  some true
 | some (.ret d1) =>
  some d1.1
def zf8 (k : Nat) : Vm.Spec := { ps := [.int .i64, .slice (.slice (.slice .str))], rs := [.imm .bool], f := fun x => z4j k x.1 x.2 }
noncomputable def zi7 : Vm.Spec := zf8 fuel
theorem zq4 : Vm.Spec.holds Tryz.prog 8 zi7 := z0u (E := y24) (L := y1w) (fn := Tryz.f8) (Z := zf8) (z1f ok) (z0m (by exact trivial)) z0v (z7u (by exact ⟨by kernel_rfl, by kernel_rfl, by kernel_rfl, by kernel_rfl, by kernel_rfl, by kernel_rfl, by kernel_rfl, by kernel_rfl, by kernel_rfl, by kernel_rfl, by kernel_rfl, by kernel_rfl, trivial⟩)) (z3b (by exact ⟨(fun _ => z5g (by kernel_rfl)), (fun _ => z5g (by kernel_rfl)), (fun _ => z5g (by kernel_rfl)), (fun _ => z5g (by kernel_rfl)), (z25 [[27, 8]] (by exact ⟨z0h (ls := [(2, z1o)]) rfl rfl ⟨by kernel_rfl, fun _ => rfl, fun _ _ => by kernel_rfl, z0i (by kernel_rfl)⟩,  trivial⟩) rfl), (z25 [[29, 28, 64, 27, 8]] (by exact ⟨z0h (ls := [(2, z0c)]) rfl rfl ⟨by kernel_rfl, fun _ => rfl, fun _ _ => by kernel_rfl, z0i (by kernel_rfl)⟩,  trivial⟩) rfl),  trivial⟩)) (by kernel_rfl) (by kernel_rfl) (z0h (ls := [(2, zc1)]) rfl rfl ⟨by kernel_rfl, fun _ => rfl, fun _ _ => by kernel_rfl, z0i (by kernel_rfl)⟩) fun k x => by kernel_rfl
noncomputable def w9b : Env := { te := te, spec := [(25, zo1), (52, zg8), (54, zy8), (91, z9l)], body := [(71, Tryz.f71)] }
def w7t : z1t := []
def y2q (k : Nat) (a0 : ByteArray) (a1 : ByteArray) : Option (ByteArray × Int) :=
 (z3c fuel [a0, a1]).bind fun r1 =>
 if (r1 != 0) = true then
 some ((⟨#[]⟩ : ByteArray), r1)
 else
 (z7n fuel a0).bind fun r2 =>
 (z7n fuel a1).bind fun r3 =>
 (z2n fuel r2 r3).bind fun r4 =>
 (z8g fuel r4).bind fun r5 =>
 some (r5.1, r5.2)
def yr1 (k : Nat) : Vm.Spec := { ps := [.str, .str], rs := [.imm .str, .imm (.int .i64)], f := fun x => y2q k x.1 x.2 }
noncomputable def w0q : Vm.Spec := yr1 fuel
theorem yi1 : Vm.Spec.holds Tryz.prog 40 w0q := z0u (E := w9b) (L := w7t) (fn := Tryz.f40) (Z := yr1) (z1f ok) (z0m (by exact ⟨⟨by kernel_rfl, z5c⟩, ⟨by kernel_rfl, z6o⟩, ⟨by kernel_rfl, z9u⟩, ⟨by kernel_rfl, z6h⟩, trivial⟩)) z0v (z7u (by exact ⟨by kernel_rfl, by kernel_rfl, trivial⟩)) (z3b (by exact ⟨(fun _ => z5g (by kernel_rfl)),  trivial⟩)) (by kernel_rfl) (by kernel_rfl) (z0o rfl) fun k x => by kernel_rfl
noncomputable def w99 : Env := { te := te, spec := [(25, zo1), (46, z9x), (54, zy8), (91, z9l)], body := [(71, Tryz.f71)] }
def w7r : z1t := []
def y2o (k : Nat) (a0 : ByteArray) (a1 : ByteArray) : Option (ByteArray × Int) :=
 (z3c fuel [a0, a1]).bind fun r1 =>
 if (r1 != 0) = true then
 some ((⟨#[]⟩ : ByteArray), r1)
 else
 (z7n fuel a0).bind fun r2 =>
 (z7n fuel a1).bind fun r3 =>
 (z5m fuel r2 r3).bind fun r4 =>
 (z8g fuel r4).bind fun r5 =>
 some (r5.1, r5.2)
def yq9 (k : Nat) : Vm.Spec := { ps := [.str, .str], rs := [.imm .str, .imm (.int .i64)], f := fun x => y2o k x.1 x.2 }
noncomputable def w0p : Vm.Spec := yq9 fuel
theorem yi0 : Vm.Spec.holds Tryz.prog 41 w0p := z0u (E := w99) (L := w7r) (fn := Tryz.f41) (Z := yq9) (z1f ok) (z0m (by exact ⟨⟨by kernel_rfl, z5c⟩, ⟨by kernel_rfl, z5h⟩, ⟨by kernel_rfl, z9u⟩, ⟨by kernel_rfl, z6h⟩, trivial⟩)) z0v (z7u (by exact ⟨by kernel_rfl, by kernel_rfl, trivial⟩)) (z3b (by exact ⟨(fun _ => z5g (by kernel_rfl)),  trivial⟩)) (by kernel_rfl) (by kernel_rfl) (z0o rfl) fun k x => by kernel_rfl
noncomputable def y0l : Env := { te := te, spec := [(13, z6d), (40, w0q), (41, w0p)], body := [] }
def zu2 : Ann := { slots := [(1, .one (.val .str)), (2, .one (.val .str)), (11, .one (.own 200 .str)), (24, .one (.val (.slice .str))), (25, .one (.val (.int .i64))), (26, .one (.val (.int .i64)))], objs := [(200, .buf .str)] }
def z90 : Ann := { slots := [(11, .one (.own 200 .str))], objs := [(200, .buf .str)] }
def z8z : Ann := { slots := [(6, .one (.fix .nil)), (7, .one (.val .bool))], objs := [] }
def zu1 : Ann := { slots := [(1, .one (.val .str)), (2, .one (.val .str)), (8, .one (.own 220 (.slice .str))), (18, .one (.val (.slice (.slice .str)))), (19, .one (.val (.int .i64))), (20, .one (.val (.int .i64)))], objs := [(220, .buf (.slice .str))] }
def z8x : Ann := { slots := [(8, .one (.own 220 (.slice .str)))], objs := [(220, .buf (.slice .str))] }
def z8w : Ann := { slots := [(6, .one (.fix .nil)), (7, .one (.val .bool))], objs := [] }
def z2y : Nat -> ByteArray -> ByteArray -> List ByteArray -> Int -> Int -> List ByteArray -> Option (LR z90 z8z)
 | 0, _, _, _, _, _, _ => none
 | m + 1, s1, s2, s24, s25, s26, b200 =>
  if decide (s26 < s25) = true then if (0 : Int) <= s26 then if s26 < s24.length then
  (y2q fuel (s24.getD s26.toNat ByteArray.empty) s1).bind fun r1 =>
  (y2o fuel r1.1 s2).bind fun r2 =>
  (z3v fuel [r1.2, r2.2]).bind fun r3 =>
  if (!r3) = true then
  some (.ret (false, ()))
  else
  if (b200.length + 1) * 16 <= 140737488355328 then
  z2y m s1 s2 s24 s25 (IntKind.i64.wrap (s26 + 1)) (b200 ++ [r2.1])
  else none else none else none
  else
  some (.exit (b200, ()))
def z8y : LSpec := { h := zu2, x := z90, r := z8z, xid := 2, rt := true, pins := [], f := fun k d => z2y k d.1 d.2.1 d.2.2.1 d.2.2.2.1 d.2.2.2.2.1 d.2.2.2.2.2.1 }
def z2x : Nat -> ByteArray -> ByteArray -> List (List ByteArray) -> Int -> Int -> List (List ByteArray) -> Option (LR z8x z8w)
 | 0, _, _, _, _, _, _ => none
 | m + 1, s1, s2, s18, s19, s20, b220 =>
  if decide (s20 < s19) = true then if (0 : Int) <= s20 then if s20 < s18.length then
  match z2y m s1 s2 (s18.getD s20.toNat []) ((s18.getD s20.toNat []).length : Int) 0 [] with
  | none => none
  | some (.exit d1) =>
   if (b220.length + 1) * 24 <= 140737488355328 then
   z2x m s1 s2 s18 s19 (IntKind.i64.wrap (s20 + 1)) (b220 ++ [d1.1])
   else none
  | some (.ret d1) =>
   some (.ret (d1.1, ()))
  else none else none
  else
  some (.exit (b220, ()))
def z8v : LSpec := { h := zu1, x := z8x, r := z8w, xid := 0, rt := true, pins := [], f := fun k d => z2x k d.1 d.2.1 d.2.2.1 d.2.2.2.1 d.2.2.2.2.1 d.2.2.2.2.2.1 }
def zy4 : z1t := [([11], [(3, z8v), (7, z8y)])]
def z55 (k : Nat) (a0 : List (List ByteArray)) (a1 : ByteArray) (a2 : ByteArray) : Option (List (List ByteArray) × Bool) :=
 match z2x k a1 a2 a0 (a0.length : Int) 0 [] with
 | none => none
 | some (.exit d1) =>
  some (d1.1, true)
 | some (.ret d1) =>
  some ([], d1.1)
def zb4 (k : Nat) : Vm.Spec := { ps := [.slice (.slice .str), .str, .str], rs := [.fresh (.slice .str), .imm .bool], f := fun x => z55 k x.1 x.2.1 x.2.2 }
noncomputable def zd1 : Vm.Spec := zb4 fuel
theorem zl0 : Vm.Spec.holds Tryz.prog 11 zd1 := z0u (E := y0l) (L := zy4) (fn := Tryz.f11) (Z := zb4) (z1f ok) (z0m (by exact ⟨⟨by kernel_rfl, z5u⟩, ⟨by kernel_rfl, yi1⟩, ⟨by kernel_rfl, yi0⟩, trivial⟩)) z0v (z07 rfl) (z01 rfl) (by kernel_rfl) (by kernel_rfl) (z0h (ls := [(3, z8v), (7, z8y)]) rfl rfl ⟨by kernel_rfl, fun _ => rfl, fun _ _ => by kernel_rfl, by kernel_rfl, fun _ => rfl, fun _ _ => by kernel_rfl, z0i (by kernel_rfl)⟩) fun k x => by kernel_rfl
noncomputable def y6d : Env := { te := te, spec := [(31, z9j), (32, z9k)], body := [] }
def y22 : Ann := { slots := [(6, .one (.val (.int .i64))), (7, .one (.own 128 .str)), (20, .one (.val (.slice (.slice .str)))), (21, .one (.val (.int .i64))), (22, .one (.val (.int .i64)))], objs := [(128, .buf .str)] }
def zg3 : Ann := { slots := [(7, .one (.own 128 .str))], objs := [(128, .buf .str)] }
def y31 : Ann := { slots := [(0, .one (.val (.slice (.slice .str)))), (5, .one (.own 148 (.slice .str))), (16, .one (.val (.int .i64))), (17, .one (.val (.int .i64)))], objs := [(148, .buf (.slice .str))] }
def zj9 : Ann := { slots := [(5, .one (.own 148 (.slice .str)))], objs := [(148, .buf (.slice .str))] }
def z3i : Nat -> Int -> List (List ByteArray) -> Int -> Int -> List ByteArray -> Option (LR zg3 a0)
 | 0, _, _, _, _, _ => none
 | m + 1, s6, s20, s21, s22, b128 =>
  if decide (s22 < s21) = true then if (0 : Int) <= s22 then if s22 < s20.length then if (0 : Int) <= s6 then if s6 < (s20.getD s22.toNat []).length then if (b128.length + 1) * 16 <= 140737488355328 then
  z3i m s6 s20 s21 (IntKind.i64.wrap (s22 + 1)) (b128 ++ [(s20.getD s22.toNat []).getD s6.toNat ByteArray.empty])
  else none else none else none else none else none
  else
  some (.exit (b128, ()))
def zg2 : LSpec := { h := y22, x := zg3, r := a0, xid := 2, rt := false, pins := [], f := fun k d => z3i k d.1 d.2.1 d.2.2.1 d.2.2.2.1 d.2.2.2.2.1 }
def z3x : Nat -> List (List ByteArray) -> Int -> Int -> List (List ByteArray) -> Option (LR zj9 a0)
 | 0, _, _, _, _ => none
 | m + 1, s0, s16, s17, b148 =>
  if decide (s17 < s16) = true then
  match z3i m s17 s0 (s0.length : Int) 0 [] with
  | none => none
  | some (.exit d1) =>
   if (b148.length + 1) * 24 <= 140737488355328 then
   z3x m s0 s16 (IntKind.i64.wrap (s17 + 1)) (b148 ++ [d1.1])
   else none
  | some (.ret d1) =>
   none
  else
  some (.exit (b148, ()))
def zj8 : LSpec := { h := y31, x := zj9, r := a0, xid := 0, rt := false, pins := [], f := fun k d => z3x k d.1 d.2.1 d.2.2.1 d.2.2.2.1 }
def y5h : z1t := [([17], [(6, zj8), (10, zg2)])]
def z7m (k : Nat) (a0 : List (List ByteArray)) : Option (List (List ByteArray) × Int) :=
 (z3l fuel a0).bind fun r1 =>
 if (r1 != 0) = true then
 some ([], r1)
 else
 (z5b fuel a0).bind fun r2 =>
 match z3x k a0 r2 0 [] with
 | none => none
 | some (.exit d3) =>
  some (d3.1, 0)
 | some (.ret d3) =>
  none
def zp8 (k : Nat) : Vm.Spec := { ps := [.slice (.slice .str)], rs := [.fresh (.slice .str), .imm (.int .i64)], f := fun x => z7m k x }
noncomputable def zu7 : Vm.Spec := zp8 fuel
theorem zz7 : Vm.Spec.holds Tryz.prog 17 zu7 := z0u (E := y6d) (L := y5h) (fn := Tryz.f17) (Z := zp8) (z1f ok) (z0m (by exact ⟨⟨by kernel_rfl, z6e⟩, ⟨by kernel_rfl, z6f⟩, trivial⟩)) z0v (z07 rfl) (z01 rfl) (by kernel_rfl) (by kernel_rfl) (z0h (ls := [(6, zj8), (10, zg2)]) rfl rfl ⟨by kernel_rfl, fun _ => rfl, fun _ _ => by kernel_rfl, by kernel_rfl, fun _ => rfl, fun _ _ => by kernel_rfl, z0i (by kernel_rfl)⟩) fun k x => by kernel_rfl
noncomputable def w9c : Env := { te := te, spec := [(10, y0s), (25, zo1), (58, y0t), (59, zg9)], body := [] }
def w7u : z1t := []
def y78 (k : Nat) (a0 : ByteArray) : Option (ByteArray × Int) :=
 (z7z fuel a0).bind fun r1 =>
 if (r1 != 0) = true then
 some ((⟨#[]⟩ : ByteArray), r1)
 else
 (z7n fuel a0).bind fun r2 =>
 (z80 fuel r2).bind fun r3 =>
 (z6u fuel r3).bind fun r4 =>
 some (r4, 0)
def yr2 (k : Nat) : Vm.Spec := { ps := [.str], rs := [.imm .str, .imm (.int .i64)], f := fun x => y78 k x }
noncomputable def w0r : Vm.Spec := yr2 fuel
theorem yi2 : Vm.Spec.holds Tryz.prog 18 w0r := z0u (E := w9c) (L := w7u) (fn := Tryz.f18) (Z := yr2) (z1f ok) (z0m (by exact ⟨⟨by kernel_rfl, zh1⟩, ⟨by kernel_rfl, z5c⟩, ⟨by kernel_rfl, zh2⟩, ⟨by kernel_rfl, z6p⟩, trivial⟩)) z0v (z07 rfl) (z01 rfl) (by kernel_rfl) (by kernel_rfl) (z0o rfl) fun k x => by kernel_rfl
noncomputable def zn8 : Env := { te := te, spec := [(6, z7s), (8, zi7), (9, z5k), (11, zd1), (12, zp4), (13, z6d), (17, zu7), (18, w0r)], body := [] }
def zk6 : z1t := []
def z3j (k : Nat) (a0 : List (List ByteArray)) : Option (Bool) :=
 (z5l fuel).bind fun r1 =>
 if (!r1) = true then
 some false
 else
 (z4j fuel 5 [a0]).bind fun r2 =>
 if (!r2) = false then
 (z2f fuel a0).bind fun r3 =>
 if (r3 != 0) = true then
 some true
 else
 (z7m fuel a0).bind fun r4 =>
 (z55 fuel r4.1 (⟨#[45, 49]⟩ : ByteArray) (⟨#[48]⟩ : ByteArray)).bind fun r5 =>
 (z6k fuel a0).bind fun r6 =>
 (z6k fuel r5.1).bind fun r7 =>
 (y78 fuel r6.1.1).bind fun r8 =>
 if r5.2 = true then
 (z3v fuel [r4.2, r6.2, r7.2, r8.2]).bind fun r9 =>
 if r9 = true then
 some ((r7.1.1.toList == r8.1.toList))
 else
 some false
 else
 some false
 else
 some true
def z76 (k : Nat) : Vm.Spec := { ps := [.slice (.slice .str)], rs := [.imm .bool], f := fun x => z3j k x }
noncomputable def zo0 : Vm.Spec := z76 fuel
theorem zc8 : Vm.Spec.holds Tryz.prog 5 zo0 := z0u (E := zn8) (L := zk6) (fn := Tryz.f5) (Z := z76) (z1f ok) (z0m (by exact ⟨⟨by kernel_rfl, zd9⟩, ⟨by kernel_rfl, zq4⟩, ⟨by kernel_rfl, z3f⟩, ⟨by kernel_rfl, zl0⟩, ⟨by kernel_rfl, zj5⟩, ⟨by kernel_rfl, z5u⟩, ⟨by kernel_rfl, zz7⟩, ⟨by kernel_rfl, yi2⟩, trivial⟩)) z0v (z07 rfl) (z01 rfl) (by kernel_rfl) (by kernel_rfl) (z0o rfl) fun k x => by kernel_rfl
end Go.Proofs.YtcdcoeofhnfjdabGreatDoor
