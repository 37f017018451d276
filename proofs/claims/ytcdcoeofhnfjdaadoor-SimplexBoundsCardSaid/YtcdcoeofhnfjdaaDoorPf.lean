/- Pure functions, printed by a program of this session out of the program. -/
import Derived.Test.YtcdcoeofhnfjdaaDoorPe
set_option linter.unusedVariables false
namespace Go.Proofs.YtcdcoeofhnfjdaaDoor
open Go Vm Go.Proofs
noncomputable def y1j : Env := { te := te, spec := [], body := [] }
def zz7 : z29 := []
def z1p (k : Nat) (a0 : (List (List (Bool × ((List Int) × (List Int))))) × ((List Int) × (Int × Int))) : Option (Int) :=
 some (IntKind.i64.wrap ((IntKind.i64.wrap (a0.2.2.1 + a0.2.2.2)) + 1))
def zd0 (k : Nat) : Vm.Spec := { ps := [.ptr (.pair (.slice (.slice qT)) (.pair (.slice (.int .i64)) (.pair (.int .i64) (.int .i64))))], rs := [.imm (.int .i64)], f := fun x => z1p k x }
noncomputable def z87 : Vm.Spec := zd0 fuel
theorem z7y : Vm.Spec.holds Tryd.prog 36 z87 := z16 (E := y1j) (L := zz7) (fn := Tryd.f36) (Z := zd0) (z1u ok) (z0s (by exact trivial)) z17 (z0a rfl) (z01 rfl) (by kernel_rfl) (by kernel_rfl) (z0t rfl) fun k x => by kernel_rfl
noncomputable def z99 : Env := { te := te, spec := [(36, z87), (48, zi7), (49, z5g), (82, y2x)], body := [] }
def l_simplex_table_leaving_4H : Ann := { slots := [(0, .one (.val (.ptr (.pair (.slice (.slice qT)) (.pair (.slice (.int .i64)) (.pair (.int .i64) (.int .i64))))))), (1, .one (.val (.int .i64))), (5, .one (.val (.int .i64))), (6, .one (.fix (.pbox 24 0))), (13, .one (.val (.int .i64))), (14, .one (.val (.int .i64)))], objs := [(24, .box [.val .bool, .val (.slice (.int .u32)), .val (.slice (.int .u32))])] }
def z86 : Ann := { slots := [(5, .one (.val (.int .i64)))], objs := [(24, .box [.val .bool, .val (.slice (.int .u32)), .val (.slice (.int .u32))])] }
def z85 : Ann := { slots := [], objs := [] }
def z10 : Nat → (List (List (Bool × ((List Int) × (List Int))))) × ((List Int) × (Int × Int)) → Int → Int → Int → Int → Bool → List Int → List Int → Option (LR z86 z85)
 | 0, _, _, _, _, _, _, _, _ => none
 | m + 1, s0, s1, s5, s13, s14, b24_0, b24_1, b24_2 =>
  if decide (s14 < s13) = true then
  if (0 : Int) ≤ s14 then
  if s14 < s0.1.length then
  if (0 : Int) ≤ s1 then
  if s1 < (s0.1.getD s14.toNat []).length then
  (z1k fuel (((s0.1.getD s14.toNat []).getD s1.toNat (false, ([], []))).1, (((s0.1.getD s14.toNat []).getD s1.toNat (false, ([], []))).2))).bind fun r1 =>
  if decide (r1 ≤ 0) = true then
  z10 m s0 s1 s5 s13 (IntKind.i64.wrap (s14 + 1)) b24_0 b24_1 b24_2
  else
  if (0 : Int) ≤ s14 then
  if s14 < s0.1.length then
  if (0 : Int) ≤ s14 then
  if s14 < s0.1.length then
  if (0 : Int) ≤ s1 then
  if s1 < (s0.1.getD s14.toNat []).length then
  (z1p fuel s0).bind fun r2 =>
  if (0 : Int) ≤ r2 then
  if r2 < (s0.1.getD s14.toNat []).length then
  (z5x fuel (((s0.1.getD s14.toNat []).getD r2.toNat (false, ([], []))).1, (((s0.1.getD s14.toNat []).getD r2.toNat (false, ([], []))).2)) (((s0.1.getD s14.toNat []).getD s1.toNat (false, ([], []))).1, (((s0.1.getD s14.toNat []).getD s1.toNat (false, ([], []))).2))).bind fun r3 =>
  if decide (s5 ≥ 0) = true then
  (z6a fuel r3 (b24_0, (b24_1, b24_2))).bind fun r4 =>
  if decide (r4 < 0) = false then
  if (r4 == 0) = true then
  if (0 : Int) ≤ s14 then
  if s14 < s0.2.1.length then
  if (0 : Int) ≤ s5 then
  if s5 < s0.2.1.length then
  if decide (s0.2.1.getD s14.toNat 0 < s0.2.1.getD s5.toNat 0) = true then
  z10 m s0 s1 s14 s13 (IntKind.i64.wrap (s14 + 1)) r3.1 r3.2.1 r3.2.2
  else
  z10 m s0 s1 s5 s13 (IntKind.i64.wrap (s14 + 1)) b24_0 b24_1 b24_2
  else none
  else none
  else none
  else none
  else
  z10 m s0 s1 s5 s13 (IntKind.i64.wrap (s14 + 1)) b24_0 b24_1 b24_2
  else
  z10 m s0 s1 s14 s13 (IntKind.i64.wrap (s14 + 1)) r3.1 r3.2.1 r3.2.2
  else
  z10 m s0 s1 s14 s13 (IntKind.i64.wrap (s14 + 1)) r3.1 r3.2.1 r3.2.2
  else none
  else none
  else none
  else none
  else none
  else none
  else none
  else none
  else none
  else none
  else none
  else none
  else
  some (.exit (s5, b24_0, b24_1, b24_2, ()))
def l_simplex_table_leaving_4L : LSpec := { h := l_simplex_table_leaving_4H, x := z86, r := z85, xid := 0, rt := false, pins := [24], f := fun k d => z10 k d.1 d.2.1 d.2.2.1 d.2.2.2.1 d.2.2.2.2.1 d.2.2.2.2.2.1 d.2.2.2.2.2.2.1 d.2.2.2.2.2.2.2.1 }
def z8v : z29 := [([65], [(4, l_simplex_table_leaving_4L)])]
def z34 (k : Nat) (a0 : (List (List (Bool × ((List Int) × (List Int))))) × ((List Int) × (Int × Int))) (a1 : Int) : Option (Int) :=
 match z10 k a0 a1 (-1) a0.2.2.2 0 false [] [] with
 | none => none
 | some (.exit d1) =>
  some d1.1
 | some (.ret d1) =>
  none
theorem ze3 (m : Nat) (d : dens l_simplex_table_leaving_4H.tys) : l_simplex_table_leaving_4L.f (m + 1) d = round z99 z8v m [65] 83 (z2w (z1j Tryd.f65) 0) l_simplex_table_leaving_4L (l_simplex_table_leaving_4L.f m) d := by kernel_rfl
def z8x (k : Nat) : Vm.Spec := { ps := [.ptr (.pair (.slice (.slice qT)) (.pair (.slice (.int .i64)) (.pair (.int .i64) (.int .i64)))), .int .i64], rs := [.imm (.int .i64)], f := fun x => z34 k x.1 x.2 }
noncomputable def z9d : Vm.Spec := z8x fuel
theorem zf4 : Vm.Spec.holds Tryd.prog 65 z9d := z16 (E := z99) (L := z8v) (fn := Tryd.f65) (Z := z8x) (z1u ok) (z0s (by exact ⟨⟨by kernel_rfl, z7y⟩, ⟨by kernel_rfl, z7k⟩, ⟨by kernel_rfl, z38⟩, ⟨by kernel_rfl, zq7⟩, trivial⟩)) z17 (z0a rfl) (z01 rfl) (by kernel_rfl) (by kernel_rfl) (z0o (ls := [(4, l_simplex_table_leaving_4L)]) rfl rfl ⟨by kernel_rfl, fun _ => rfl, ze3, z0p (by kernel_rfl)⟩) fun k x => by kernel_rfl
noncomputable def z0q : Env := { te := te, spec := [(10, z9c), (31, zw4), (33, z8w), (36, z87), (37, yl0), (38, y2w), (42, zt4), (48, zi7), (49, z5g), (63, zi9), (64, zi8), (65, z9d), (82, y2x)], body := [(29, Tryd.f29), (30, Tryd.f30), (32, Tryd.f32), (34, Tryd.f34), (35, Tryd.f35), (62, Tryd.f62)], rows := true }
def l_simplex_start__simplex_Solve_4H : Ann := { slots := [(3, .one (.fix (.pbox 4060 0))), (4, .one (.own 4072 (.slice qT))), (5, .one (.own 4084 qT)), (25, .one (.val (.int .i64))), (26, .one (.val (.int .i64)))], objs := [(4060, .box [.grd 360 qT, .own 420 (.int .i64), .val (.int .i64), .val (.int .i64)]), (4072, .buf (.slice qT)), (4084, .buf qT), (360, .mat qT), (420, .buf (.int .i64))] }
def z5s : Ann := { slots := [(3, .one (.fix (.pbox 4060 0)))], objs := [(4060, .box [.grd 360 qT, .own 420 (.int .i64), .val (.int .i64), .val (.int .i64)]), (4072, .buf (.slice qT)), (4084, .buf qT), (360, .mat qT), (420, .buf (.int .i64))] }
def z5r : Ann := { slots := [], objs := [] }
def l_simplex_table_feasible__simplex_Solve_3H : Ann := { slots := [(0, .one (.fix (.pbox 4060 0))), (3, .one (.val (.int .i64))), (23, .one (.val (.int .i64))), (24, .one (.val (.int .i64)))], objs := [(4060, .box [.grd 360 qT, .own 420 (.int .i64), .val (.int .i64), .val (.int .i64)]), (360, .mat qT), (420, .buf (.int .i64))] }
def z3x : Ann := { slots := [(0, .one (.fix (.pbox 4060 0))), (3, .one (.val (.int .i64)))], objs := [(4060, .box [.grd 360 qT, .own 420 (.int .i64), .val (.int .i64), .val (.int .i64)]), (360, .mat qT), (420, .buf (.int .i64))] }
def z3w : Ann := { slots := [], objs := [] }
def l_simplex_table_goal__simplex_Solve_2H : Ann := { slots := [(4, .one (.own 4084 qT)), (22, .one (.own 212 qT)), (23, .one (.val (.int .i64))), (24, .one (.val (.int .i64)))], objs := [(4084, .buf qT), (212, .buf qT)] }
def z4i : Ann := { slots := [(4, .one (.own 4084 qT))], objs := [(4084, .buf qT), (212, .buf qT)] }
def z4h : Ann := { slots := [], objs := [] }
def l_simplex_table_goal__simplex_Solve_13H : Ann := { slots := [(0, .one (.fix (.pbox 4060 0))), (4, .one (.row 4188 qT)), (7, .one (.val (.int .i64))), (9, .one (.fix (.pbox 36 0))), (68, .one (.val (.int .i64))), (69, .one (.val (.int .i64)))], objs := [(4060, .box [.grd 4188 qT, .own 420 (.int .i64), .val (.int .i64), .val (.int .i64)]), (4188, .mat qT), (36, .box [.val .bool, .val (.slice (.int .u32)), .val (.slice (.int .u32))]), (420, .buf (.int .i64))] }
def z4f : Ann := { slots := [(0, .one (.fix (.pbox 4060 0))), (4, .one (.row 4188 qT))], objs := [(4060, .box [.grd 4188 qT, .own 420 (.int .i64), .val (.int .i64), .val (.int .i64)]), (4188, .mat qT), (36, .box [.val .bool, .val (.slice (.int .u32)), .val (.slice (.int .u32))]), (420, .buf (.int .i64))] }
def z4e : Ann := { slots := [], objs := [] }
def l_simplex_table_goal__simplex_Solve_8H : Ann := { slots := [(0, .one (.fix (.pbox 4060 0))), (4, .one (.row 4188 qT)), (53, .one (.own 420 (.int .i64))), (54, .one (.val (.int .i64))), (55, .one (.val (.int .i64)))], objs := [(4060, .box [.grd 4188 qT, .own 420 (.int .i64), .val (.int .i64), .val (.int .i64)]), (4188, .mat qT), (420, .buf (.int .i64))] }
def z4k : Ann := { slots := [], objs := [(4060, .box [.grd 4188 qT, .own 420 (.int .i64), .val (.int .i64), .val (.int .i64)]), (4188, .mat qT), (420, .buf (.int .i64))] }
def z4j : Ann := { slots := [], objs := [] }
def l_simplex_table_run__simplex_Solve_2H : Ann := { slots := [(0, .one (.fix (.pbox 4060 0))), (1, .one (.val (.int .i64))), (5, .one (.val (.int .i64)))], objs := [(4060, .box [.grd 4188 qT, .own 420 (.int .i64), .val (.int .i64), .val (.int .i64)]), (4188, .mat qT), (420, .buf (.int .i64))] }
def z4t : Ann := { slots := [(0, .one (.fix (.pbox 4060 0))), (5, .one (.val (.int .i64)))], objs := [(4060, .box [.grd 4188 qT, .own 420 (.int .i64), .val (.int .i64), .val (.int .i64)]), (4188, .mat qT), (420, .buf (.int .i64))] }
def z4s : Ann := { slots := [], objs := [] }
def l_simplex_table_pivot__simplex_table_run__simplex_Solve_2H : Ann := { slots := [(0, .one (.fix (.pbox 4060 0))), (1, .one (.val (.int .i64))), (6, .one (.fix (.pbox 4024 0))), (28, .one (.val (.int .i64))), (29, .one (.val (.int .i64)))], objs := [(4060, .box [.grd 4188 qT, .own 420 (.int .i64), .val (.int .i64), .val (.int .i64)]), (4024, .box [.val .bool, .val (.slice (.int .u32)), .val (.slice (.int .u32))]), (4188, .mat qT), (420, .buf (.int .i64))] }
def z2k : Ann := { slots := [(0, .one (.fix (.pbox 4060 0)))], objs := [(4060, .box [.grd 4188 qT, .own 420 (.int .i64), .val (.int .i64), .val (.int .i64)]), (4024, .box [.val .bool, .val (.slice (.int .u32)), .val (.slice (.int .u32))]), (4188, .mat qT), (420, .buf (.int .i64))] }
def z2j : Ann := { slots := [], objs := [] }
def l_simplex_table_pivot__simplex_table_run__simplex_Solve_12H : Ann := { slots := [(0, .one (.fix (.pbox 4060 0))), (1, .one (.val (.int .i64))), (8, .one (.val (.int .i64))), (9, .one (.fix (.pbox 36 0))), (87, .one (.val (.int .i64))), (88, .one (.val (.int .i64)))], objs := [(4060, .box [.grd 4188 qT, .own 420 (.int .i64), .val (.int .i64), .val (.int .i64)]), (36, .box [.val .bool, .val (.slice (.int .u32)), .val (.slice (.int .u32))]), (4188, .mat qT), (420, .buf (.int .i64))] }
def z2f : Ann := { slots := [(0, .one (.fix (.pbox 4060 0)))], objs := [(4060, .box [.grd 4188 qT, .own 420 (.int .i64), .val (.int .i64), .val (.int .i64)]), (36, .box [.val .bool, .val (.slice (.int .u32)), .val (.slice (.int .u32))]), (4188, .mat qT), (420, .buf (.int .i64))] }
def z2e : Ann := { slots := [], objs := [] }
def l_simplex_table_pivot__simplex_table_run__simplex_Solve_7H : Ann := { slots := [(0, .one (.fix (.pbox 4060 0))), (1, .one (.val (.int .i64))), (2, .one (.val (.int .i64))), (58, .one (.val (.int .i64))), (59, .one (.val (.int .i64)))], objs := [(4060, .box [.grd 4188 qT, .own 420 (.int .i64), .val (.int .i64), .val (.int .i64)]), (4188, .mat qT), (420, .buf (.int .i64))] }
def z2m : Ann := { slots := [(0, .one (.fix (.pbox 4060 0)))], objs := [(4060, .box [.grd 4188 qT, .own 420 (.int .i64), .val (.int .i64), .val (.int .i64)]), (4188, .mat qT), (420, .buf (.int .i64))] }
def z2l : Ann := { slots := [], objs := [] }
def l_simplex_table_run__simplex_Solve_1H : Ann := { slots := [(0, .one (.fix (.pbox 4060 0))), (1, .one (.val (.int .i64)))], objs := [(4060, .box [.grd 4188 qT, .own 420 (.int .i64), .val (.int .i64), .val (.int .i64)]), (4188, .mat qT), (420, .buf (.int .i64))] }
def z4r : Ann := { slots := [], objs := [] }
def z4q : Ann := { slots := [(4, .one (.val (.int .i64)))], objs := [(4060, .box [.grd 4188 qT, .own 420 (.int .i64), .val (.int .i64), .val (.int .i64)]), (4188, .mat qT), (420, .buf (.int .i64))] }
def l_simplex_table_solution__simplex_Solve_3H : Ann := { slots := [(0, .one (.fix (.pbox 4060 0))), (3, .one (.own 4040 qT)), (14, .one (.own 420 (.int .i64))), (15, .one (.val (.int .i64))), (16, .one (.val (.int .i64)))], objs := [(4060, .box [.grd 4188 qT, .own 420 (.int .i64), .val (.int .i64), .val (.int .i64)]), (4040, .buf qT), (420, .buf (.int .i64)), (4188, .mat qT)] }
def z3z : Ann := { slots := [(3, .one (.own 4040 qT))], objs := [(4040, .buf qT), (4060, .box [.grd 4188 qT, .own 420 (.int .i64), .val (.int .i64), .val (.int .i64)]), (420, .buf (.int .i64)), (4188, .mat qT)] }
def z3y : Ann := { slots := [], objs := [] }
def l_simplex_Solve_16H : Ann := { slots := [(5, .one (.fix (.pbox 4060 0))), (6, .one (.val (.int .i64))), (8, .one (.own 464 qT)), (130, .one (.own 420 (.int .i64))), (131, .one (.val (.int .i64))), (132, .one (.val (.int .i64)))], objs := [(4060, .box [.grd 4188 qT, .own 420 (.int .i64), .val (.int .i64), .val (.int .i64)]), (464, .buf qT), (420, .buf (.int .i64)), (4188, .mat qT)] }
def zk7 : Ann := { slots := [(8, .one (.own 464 qT))], objs := [(464, .buf qT), (4060, .box [.grd 4188 qT, .own 420 (.int .i64), .val (.int .i64), .val (.int .i64)]), (420, .buf (.int .i64)), (4188, .mat qT)] }
def zk6 : Ann := { slots := [], objs := [] }
def l_simplex_table_goal__simplex_table_feasible__simplex_Solve_2H : Ann := { slots := [(4, .one (.own 8084 qT)), (22, .one (.own 4268 qT)), (23, .one (.val (.int .i64))), (24, .one (.val (.int .i64)))], objs := [(8084, .buf qT), (4268, .buf qT)] }
def z26 : Ann := { slots := [(4, .one (.own 8084 qT))], objs := [(8084, .buf qT), (4268, .buf qT)] }
def z25 : Ann := { slots := [], objs := [] }
def l_simplex_table_goal__simplex_table_feasible__simplex_Solve_13H : Ann := { slots := [(0, .one (.fix (.pbox 4060 0))), (4, .one (.row 8188 qT)), (7, .one (.val (.int .i64))), (9, .one (.fix (.pbox 36 0))), (68, .one (.val (.int .i64))), (69, .one (.val (.int .i64)))], objs := [(4060, .box [.grd 8188 qT, .own 420 (.int .i64), .val (.int .i64), .val (.int .i64)]), (8188, .mat qT), (36, .box [.val .bool, .val (.slice (.int .u32)), .val (.slice (.int .u32))]), (420, .buf (.int .i64))] }
def z1z : Ann := { slots := [(0, .one (.fix (.pbox 4060 0))), (4, .one (.row 8188 qT))], objs := [(4060, .box [.grd 8188 qT, .own 420 (.int .i64), .val (.int .i64), .val (.int .i64)]), (8188, .mat qT), (36, .box [.val .bool, .val (.slice (.int .u32)), .val (.slice (.int .u32))]), (420, .buf (.int .i64))] }
def z1y : Ann := { slots := [], objs := [] }
def l_simplex_table_goal__simplex_table_feasible__simplex_Solve_8H : Ann := { slots := [(0, .one (.fix (.pbox 4060 0))), (4, .one (.row 8188 qT)), (53, .one (.own 420 (.int .i64))), (54, .one (.val (.int .i64))), (55, .one (.val (.int .i64)))], objs := [(4060, .box [.grd 8188 qT, .own 420 (.int .i64), .val (.int .i64), .val (.int .i64)]), (8188, .mat qT), (420, .buf (.int .i64))] }
def z28 : Ann := { slots := [], objs := [(4060, .box [.grd 8188 qT, .own 420 (.int .i64), .val (.int .i64), .val (.int .i64)]), (8188, .mat qT), (420, .buf (.int .i64))] }
def z27 : Ann := { slots := [], objs := [] }
def l_simplex_table_pivot__simplex_table_feasible__simplex_Solve_2H : Ann := { slots := [(0, .one (.fix (.pbox 4060 0))), (1, .one (.val (.int .i64))), (6, .one (.fix (.pbox 8024 0))), (28, .one (.val (.int .i64))), (29, .one (.val (.int .i64)))], objs := [(4060, .box [.grd 8188 qT, .own 420 (.int .i64), .val (.int .i64), .val (.int .i64)]), (8024, .box [.val .bool, .val (.slice (.int .u32)), .val (.slice (.int .u32))]), (8188, .mat qT), (420, .buf (.int .i64))] }
def z21 : Ann := { slots := [(0, .one (.fix (.pbox 4060 0)))], objs := [(4060, .box [.grd 8188 qT, .own 420 (.int .i64), .val (.int .i64), .val (.int .i64)]), (8024, .box [.val .bool, .val (.slice (.int .u32)), .val (.slice (.int .u32))]), (8188, .mat qT), (420, .buf (.int .i64))] }
def z20 : Ann := { slots := [], objs := [] }
def l_simplex_table_pivot__simplex_table_feasible__simplex_Solve_12H : Ann := { slots := [(0, .one (.fix (.pbox 4060 0))), (1, .one (.val (.int .i64))), (8, .one (.val (.int .i64))), (9, .one (.fix (.pbox 36 0))), (87, .one (.val (.int .i64))), (88, .one (.val (.int .i64)))], objs := [(4060, .box [.grd 8188 qT, .own 420 (.int .i64), .val (.int .i64), .val (.int .i64)]), (36, .box [.val .bool, .val (.slice (.int .u32)), .val (.slice (.int .u32))]), (8188, .mat qT), (420, .buf (.int .i64))] }
def z1w : Ann := { slots := [(0, .one (.fix (.pbox 4060 0)))], objs := [(4060, .box [.grd 8188 qT, .own 420 (.int .i64), .val (.int .i64), .val (.int .i64)]), (36, .box [.val .bool, .val (.slice (.int .u32)), .val (.slice (.int .u32))]), (8188, .mat qT), (420, .buf (.int .i64))] }
def z1v : Ann := { slots := [], objs := [] }
def l_simplex_table_pivot__simplex_table_feasible__simplex_Solve_7H : Ann := { slots := [(0, .one (.fix (.pbox 4060 0))), (1, .one (.val (.int .i64))), (2, .one (.val (.int .i64))), (58, .one (.val (.int .i64))), (59, .one (.val (.int .i64)))], objs := [(4060, .box [.grd 8188 qT, .own 420 (.int .i64), .val (.int .i64), .val (.int .i64)]), (8188, .mat qT), (420, .buf (.int .i64))] }
def z23 : Ann := { slots := [(0, .one (.fix (.pbox 4060 0)))], objs := [(4060, .box [.grd 8188 qT, .own 420 (.int .i64), .val (.int .i64), .val (.int .i64)]), (8188, .mat qT), (420, .buf (.int .i64))] }
def z22 : Ann := { slots := [], objs := [] }
def l_simplex_table_run__simplex_table_feasible__simplex_Solve_2H : Ann := { slots := [(0, .one (.fix (.pbox 4060 0))), (1, .one (.val (.int .i64))), (5, .one (.val (.int .i64)))], objs := [(4060, .box [.grd 8188 qT, .own 420 (.int .i64), .val (.int .i64), .val (.int .i64)]), (8188, .mat qT), (420, .buf (.int .i64))] }
def z2d : Ann := { slots := [(0, .one (.fix (.pbox 4060 0))), (5, .one (.val (.int .i64)))], objs := [(4060, .box [.grd 8188 qT, .own 420 (.int .i64), .val (.int .i64), .val (.int .i64)]), (8188, .mat qT), (420, .buf (.int .i64))] }
def z2c : Ann := { slots := [], objs := [] }
def l_simplex_table_pivot__simplex_table_run__simplex_table_feasible__simplex_Solve_2H : Ann := { slots := [(0, .one (.fix (.pbox 4060 0))), (1, .one (.val (.int .i64))), (6, .one (.fix (.pbox 4024 0))), (28, .one (.val (.int .i64))), (29, .one (.val (.int .i64)))], objs := [(4060, .box [.grd 8188 qT, .own 420 (.int .i64), .val (.int .i64), .val (.int .i64)]), (4024, .box [.val .bool, .val (.slice (.int .u32)), .val (.slice (.int .u32))]), (8188, .mat qT), (420, .buf (.int .i64))] }
def z1e : Ann := { slots := [(0, .one (.fix (.pbox 4060 0)))], objs := [(4060, .box [.grd 8188 qT, .own 420 (.int .i64), .val (.int .i64), .val (.int .i64)]), (4024, .box [.val .bool, .val (.slice (.int .u32)), .val (.slice (.int .u32))]), (8188, .mat qT), (420, .buf (.int .i64))] }
def z1d : Ann := { slots := [], objs := [] }
def l_simplex_table_pivot__simplex_table_run__simplex_table_feasible__simplex_Solve_12H : Ann := { slots := [(0, .one (.fix (.pbox 4060 0))), (1, .one (.val (.int .i64))), (8, .one (.val (.int .i64))), (9, .one (.fix (.pbox 36 0))), (87, .one (.val (.int .i64))), (88, .one (.val (.int .i64)))], objs := [(4060, .box [.grd 8188 qT, .own 420 (.int .i64), .val (.int .i64), .val (.int .i64)]), (36, .box [.val .bool, .val (.slice (.int .u32)), .val (.slice (.int .u32))]), (8188, .mat qT), (420, .buf (.int .i64))] }
def z1c : Ann := { slots := [(0, .one (.fix (.pbox 4060 0)))], objs := [(4060, .box [.grd 8188 qT, .own 420 (.int .i64), .val (.int .i64), .val (.int .i64)]), (36, .box [.val .bool, .val (.slice (.int .u32)), .val (.slice (.int .u32))]), (8188, .mat qT), (420, .buf (.int .i64))] }
def z1b : Ann := { slots := [], objs := [] }
def l_simplex_table_pivot__simplex_table_run__simplex_table_feasible__simplex_Solve_7H : Ann := { slots := [(0, .one (.fix (.pbox 4060 0))), (1, .one (.val (.int .i64))), (2, .one (.val (.int .i64))), (58, .one (.val (.int .i64))), (59, .one (.val (.int .i64)))], objs := [(4060, .box [.grd 8188 qT, .own 420 (.int .i64), .val (.int .i64), .val (.int .i64)]), (8188, .mat qT), (420, .buf (.int .i64))] }
def z1g : Ann := { slots := [(0, .one (.fix (.pbox 4060 0)))], objs := [(4060, .box [.grd 8188 qT, .own 420 (.int .i64), .val (.int .i64), .val (.int .i64)]), (8188, .mat qT), (420, .buf (.int .i64))] }
def z1f : Ann := { slots := [], objs := [] }
def l_simplex_table_run__simplex_table_feasible__simplex_Solve_1H : Ann := { slots := [(0, .one (.fix (.pbox 4060 0))), (1, .one (.val (.int .i64)))], objs := [(4060, .box [.grd 8188 qT, .own 420 (.int .i64), .val (.int .i64), .val (.int .i64)]), (8188, .mat qT), (420, .buf (.int .i64))] }
def z2b : Ann := { slots := [], objs := [] }
def z2a : Ann := { slots := [(4, .one (.val (.int .i64)))], objs := [(4060, .box [.grd 8188 qT, .own 420 (.int .i64), .val (.int .i64), .val (.int .i64)]), (8188, .mat qT), (420, .buf (.int .i64))] }
def l_simplex_table_feasible__simplex_Solve_23H : Ann := { slots := [(0, .one (.fix (.pbox 4060 0))), (8, .one (.val (.int .i64))), (112, .one (.val (.int .i64))), (113, .one (.val (.int .i64)))], objs := [(4060, .box [.grd 8188 qT, .own 420 (.int .i64), .val (.int .i64), .val (.int .i64)]), (8188, .mat qT), (420, .buf (.int .i64))] }
def z3o : Ann := { slots := [(0, .one (.fix (.pbox 4060 0)))], objs := [(4060, .box [.grd 8188 qT, .own 420 (.int .i64), .val (.int .i64), .val (.int .i64)]), (8188, .mat qT), (420, .buf (.int .i64))] }
def z3n : Ann := { slots := [], objs := [] }
def l_simplex_table_feasible__simplex_Solve_19H : Ann := { slots := [(0, .one (.fix (.pbox 4060 0))), (4, .one (.val (.int .i64))), (102, .one (.own 420 (.int .i64))), (103, .one (.val (.int .i64))), (104, .one (.val (.int .i64)))], objs := [(4060, .box [.grd 8188 qT, .own 420 (.int .i64), .val (.int .i64), .val (.int .i64)]), (420, .buf (.int .i64)), (8188, .mat qT)] }
def z3m : Ann := { slots := [], objs := [(4060, .box [.grd 8188 qT, .own 420 (.int .i64), .val (.int .i64), .val (.int .i64)]), (420, .buf (.int .i64)), (8188, .mat qT)] }
def z3l : Ann := { slots := [], objs := [] }
def z1s : Nat → Int → Int → Int → Int → List (List (Bool × ((List Int) × (List Int)))) → List (Bool × ((List Int) × (List Int))) → List (List (Bool × ((List Int) × (List Int)))) → List Int → Option (LR z5s z5r)
 | 0, _, _, _, _, _, _, _, _ => none
 | m + 1, s25, s26, b4060_2, b4060_3, b4072, b4084, b360, b420 =>
  if decide (s26 < s25) = true then
  if (0 : Int) ≤ IntKind.i64.wrap ((IntKind.i64.wrap (b4060_2 + b4060_3)) + 2) then
  if IntKind.i64.wrap ((IntKind.i64.wrap (b4060_2 + b4060_3)) + 2) ≤ IntKind.i64.wrap ((IntKind.i64.wrap (b4060_2 + b4060_3)) + 2) then
  if (IntKind.i64.wrap ((IntKind.i64.wrap (b4060_2 + b4060_3)) + 2)) * 56 ≤ 281474976710656 then
  if (0 : Int) ≤ s26 then
  if s26 < b4072.length then
  (z75 fuel 1).bind fun r1 =>
  if (0 : Int) ≤ IntKind.i64.wrap (b4060_2 + s26) then
  if IntKind.i64.wrap (b4060_2 + s26) < ((b4072.getD s26.toNat []).take (List.replicate ((IntKind.i64.wrap ((IntKind.i64.wrap (b4060_2 + b4060_3)) + 2)).toNat) ((false, ([], [])) : Bool × ((List Int) × (List Int)))).length ++ (List.replicate ((IntKind.i64.wrap ((IntKind.i64.wrap (b4060_2 + b4060_3)) + 2)).toNat) ((false, ([], [])) : Bool × ((List Int) × (List Int)))).drop (b4072.getD s26.toNat []).length).length then
  (z75 fuel (-1)).bind fun r2 =>
  if (0 : Int) ≤ IntKind.i64.wrap (b4060_2 + b4060_3) then
  if IntKind.i64.wrap (b4060_2 + b4060_3) < (((b4072.getD s26.toNat []).take (List.replicate ((IntKind.i64.wrap ((IntKind.i64.wrap (b4060_2 + b4060_3)) + 2)).toNat) ((false, ([], [])) : Bool × ((List Int) × (List Int)))).length ++ (List.replicate ((IntKind.i64.wrap ((IntKind.i64.wrap (b4060_2 + b4060_3)) + 2)).toNat) ((false, ([], [])) : Bool × ((List Int) × (List Int)))).drop (b4072.getD s26.toNat []).length).set ((IntKind.i64.wrap (b4060_2 + s26)).toNat) r1).length then
  if (0 : Int) ≤ s26 then
  if s26 < b4084.length then
  if (0 : Int) ≤ IntKind.i64.wrap ((IntKind.i64.wrap (b4060_2 + b4060_3)) + 1) then
  if IntKind.i64.wrap ((IntKind.i64.wrap (b4060_2 + b4060_3)) + 1) < ((((b4072.getD s26.toNat []).take (List.replicate ((IntKind.i64.wrap ((IntKind.i64.wrap (b4060_2 + b4060_3)) + 2)).toNat) ((false, ([], [])) : Bool × ((List Int) × (List Int)))).length ++ (List.replicate ((IntKind.i64.wrap ((IntKind.i64.wrap (b4060_2 + b4060_3)) + 2)).toNat) ((false, ([], [])) : Bool × ((List Int) × (List Int)))).drop (b4072.getD s26.toNat []).length).set ((IntKind.i64.wrap (b4060_2 + s26)).toNat) r1).set ((IntKind.i64.wrap (b4060_2 + b4060_3)).toNat) r2).length then
  if (b360.length + 1) * 24 ≤ 140737488355328 then
  if (b420.length + 1) * 8 ≤ 140737488355328 then
  z1s m s25 (IntKind.i64.wrap (s26 + 1)) b4060_2 b4060_3 b4072 b4084 (b360 ++ [((((b4072.getD s26.toNat []).take (List.replicate ((IntKind.i64.wrap ((IntKind.i64.wrap (b4060_2 + b4060_3)) + 2)).toNat) ((false, ([], [])) : Bool × ((List Int) × (List Int)))).length ++ (List.replicate ((IntKind.i64.wrap ((IntKind.i64.wrap (b4060_2 + b4060_3)) + 2)).toNat) ((false, ([], [])) : Bool × ((List Int) × (List Int)))).drop (b4072.getD s26.toNat []).length).set ((IntKind.i64.wrap (b4060_2 + s26)).toNat) r1).set ((IntKind.i64.wrap (b4060_2 + b4060_3)).toNat) r2).set ((IntKind.i64.wrap ((IntKind.i64.wrap (b4060_2 + b4060_3)) + 1)).toNat) ((b4084.getD s26.toNat (false, ([], []))).1, ((b4084.getD s26.toNat (false, ([], []))).2))]) (b420 ++ [IntKind.i64.wrap (b4060_2 + s26)])
  else none
  else none
  else none
  else none
  else none
  else none
  else none
  else none
  else none
  else none
  else none
  else none
  else none
  else none
  else none
  else
  some (.exit (b4060_2, b4060_3, b4072, b4084, b360, b420, ()))
def l_simplex_start__simplex_Solve_4L : LSpec := { h := l_simplex_start__simplex_Solve_4H, x := z5s, r := z5r, xid := 0, rt := false, pins := [4060, 4072, 4084], f := fun k d => z1s k d.1 d.2.1 d.2.2.1 d.2.2.2.1 d.2.2.2.2.1 d.2.2.2.2.2.1 d.2.2.2.2.2.2.1 d.2.2.2.2.2.2.2.1 }
def z0i : Nat → Int → Int → Int → Int → Int → List (List (Bool × ((List Int) × (List Int)))) → List Int → Option (LR z3x z3w)
 | 0, _, _, _, _, _, _, _ => none
 | m + 1, s3, s23, s24, b4060_2, b4060_3, b360, b420 =>
  if decide (s24 < s23) = true then
  if (0 : Int) ≤ s24 then
  if s24 < b360.length then
  (z1p fuel (b360, (b420, (b4060_2, b4060_3)))).bind fun r1 =>
  if (0 : Int) ≤ r1 then
  if r1 < (b360.getD s24.toNat []).length then
  (z1k fuel (((b360.getD s24.toNat []).getD r1.toNat (false, ([], []))).1, (((b360.getD s24.toNat []).getD r1.toNat (false, ([], []))).2))).bind fun r2 =>
  if decide (r2 < 0) = true then
  if decide (s3 < 0) = false then
  if (0 : Int) ≤ s3 then
  if s3 < b360.length then
  (z1p fuel (b360, (b420, (b4060_2, b4060_3)))).bind fun r3 =>
  if (0 : Int) ≤ r3 then
  if r3 < (b360.getD s3.toNat []).length then
  (z6a fuel (((b360.getD s24.toNat []).getD r1.toNat (false, ([], []))).1, (((b360.getD s24.toNat []).getD r1.toNat (false, ([], []))).2)) (((b360.getD s3.toNat []).getD r3.toNat (false, ([], []))).1, (((b360.getD s3.toNat []).getD r3.toNat (false, ([], []))).2))).bind fun r4 =>
  if decide (r4 < 0) = true then
  z0i m s24 s23 (IntKind.i64.wrap (s24 + 1)) b4060_2 b4060_3 b360 b420
  else
  z0i m s3 s23 (IntKind.i64.wrap (s24 + 1)) b4060_2 b4060_3 b360 b420
  else none
  else none
  else none
  else none
  else
  z0i m s24 s23 (IntKind.i64.wrap (s24 + 1)) b4060_2 b4060_3 b360 b420
  else
  z0i m s3 s23 (IntKind.i64.wrap (s24 + 1)) b4060_2 b4060_3 b360 b420
  else none
  else none
  else none
  else none
  else
  some (.exit (s3, b4060_2, b4060_3, b360, b420, ()))
def l_simplex_table_feasible__simplex_Solve_3L : LSpec := { h := l_simplex_table_feasible__simplex_Solve_3H, x := z3x, r := z3w, xid := 0, rt := false, pins := [4060, 360, 420], f := fun k d => z0i k d.1 d.2.1 d.2.2.1 d.2.2.2.1 d.2.2.2.2.1 d.2.2.2.2.2.1 d.2.2.2.2.2.2.1 }
def z0v : Nat → Int → Int → List (Bool × ((List Int) × (List Int))) → List (Bool × ((List Int) × (List Int))) → Option (LR z4i z4h)
 | 0, _, _, _, _ => none
 | m + 1, s23, s24, b4084, b212 =>
  if decide (s24 < s23) = true then
  if (0 : Int) ≤ s24 then
  if s24 < b212.length then
  (z8p fuel ((b212.getD s24.toNat (false, ([], []))).1, ((b212.getD s24.toNat (false, ([], []))).2))).bind fun r1 =>
  if (0 : Int) ≤ s24 then
  if s24 < b4084.length then
  z0v m s23 (IntKind.i64.wrap (s24 + 1)) (b4084.set s24.toNat r1) b212
  else none
  else none
  else none
  else none
  else
  some (.exit (b4084, b212, ()))
def l_simplex_table_goal__simplex_Solve_2L : LSpec := { h := l_simplex_table_goal__simplex_Solve_2H, x := z4i, r := z4h, xid := 0, rt := false, pins := [4084, 212], f := fun k d => z0v k d.1 d.2.1 d.2.2.1 d.2.2.2.1 }
def z19 : Nat → Nat → Int → Int → Int → Int → Int → List (List (Bool × ((List Int) × (List Int)))) → Bool → List Int → List Int → List Int → Option (LR z4f z4e)
 | 0, _, _, _, _, _, _, _, _, _, _, _ => none
 | m + 1, s4, s7, s68, s69, b4060_2, b4060_3, b4188, b36_0, b36_1, b36_2, b420 =>
  if decide (s69 < s68) = true then
  if (0 : Int) ≤ s69 then
  if s69 < (b4188.getD s4 []).length then
  if (0 : Int) ≤ s7 then
  if s7 < b4188.length then
  if (0 : Int) ≤ s69 then
  if s69 < (b4188.getD s7.toNat []).length then
  (z36 fuel (b36_0, (b36_1, b36_2)) (((b4188.getD s7.toNat []).getD s69.toNat (false, ([], []))).1, (((b4188.getD s7.toNat []).getD s69.toNat (false, ([], []))).2))).bind fun r1 =>
  (z58 fuel (((b4188.getD s4 []).getD s69.toNat (false, ([], []))).1, (((b4188.getD s4 []).getD s69.toNat (false, ([], []))).2)) r1).bind fun r2 =>
  if (0 : Int) ≤ s69 then
  if s69 < (b4188.getD s4 []).length then
  z19 m s4 s7 s68 (IntKind.i64.wrap (s69 + 1)) b4060_2 b4060_3 (b4188.set s4 ((b4188.getD s4 []).set s69.toNat r2)) b36_0 b36_1 b36_2 b420
  else none
  else none
  else none
  else none
  else none
  else none
  else none
  else none
  else
  some (.exit (s4, b4060_2, b4060_3, b4188, b36_0, b36_1, b36_2, b420, ()))
def l_simplex_table_goal__simplex_Solve_13L : LSpec := { h := l_simplex_table_goal__simplex_Solve_13H, x := z4f, r := z4e, xid := 4, rt := false, pins := [4060, 4188, 36, 420], f := fun k d => z19 k d.1 d.2.1 d.2.2.1 d.2.2.2.1 d.2.2.2.2.1 d.2.2.2.2.2.1 d.2.2.2.2.2.2.1 d.2.2.2.2.2.2.2.1 d.2.2.2.2.2.2.2.2.1 d.2.2.2.2.2.2.2.2.2.1 d.2.2.2.2.2.2.2.2.2.2.1 }
def z0n : Nat → Nat → Int → Int → Int → Int → List (List (Bool × ((List Int) × (List Int)))) → List Int → Option (LR z4k z4j)
 | 0, _, _, _, _, _, _, _ => none
 | m + 1, s4, s54, s55, b4060_2, b4060_3, b4188, b420 =>
  if decide (s55 < s54) = true then
  if (0 : Int) ≤ s55 then
  if s55 < b420.length then
  if (0 : Int) ≤ b420.getD s55.toNat 0 then
  if b420.getD s55.toNat 0 < (b4188.getD s4 []).length then
  (z1k fuel (((b4188.getD s4 []).getD ((b420.getD s55.toNat 0).toNat) (false, ([], []))).1, (((b4188.getD s4 []).getD ((b420.getD s55.toNat 0).toNat) (false, ([], []))).2))).bind fun r1 =>
  if (r1 == 0) = true then
  z0n m s4 s54 (IntKind.i64.wrap (s55 + 1)) b4060_2 b4060_3 b4188 b420
  else
  match z19 m s4 s55 ((b4188.getD s4 []).length : Int) 0 b4060_2 b4060_3 b4188 (((b4188.getD s4 []).getD ((b420.getD s55.toNat 0).toNat) (false, ([], []))).1) ((((b4188.getD s4 []).getD ((b420.getD s55.toNat 0).toNat) (false, ([], []))).2).1) ((((b4188.getD s4 []).getD ((b420.getD s55.toNat 0).toNat) (false, ([], []))).2).2) b420 with
  | none => none
  | some (.exit d2) =>
   z0n m d2.1 s54 (IntKind.i64.wrap (s55 + 1)) d2.2.1 d2.2.2.1 d2.2.2.2.1 d2.2.2.2.2.2.2.2.1
  | some (.ret d2) =>
   none
  else none
  else none
  else none
  else none
  else
  some (.exit (b4060_2, b4060_3, b4188, b420, ()))
def l_simplex_table_goal__simplex_Solve_8L : LSpec := { h := l_simplex_table_goal__simplex_Solve_8H, x := z4k, r := z4j, xid := 2, rt := false, pins := [4060, 4188, 420], f := fun k d => z0n k d.1 d.2.1 d.2.2.1 d.2.2.2.1 d.2.2.2.2.1 d.2.2.2.2.2.1 d.2.2.2.2.2.2.1 }
def z1h : Nat → Int → Int → Int → Int → List (List (Bool × ((List Int) × (List Int)))) → List Int → Option (LR z4t z4s)
 | 0, _, _, _, _, _, _ => none
 | m + 1, s1, s5, b4060_2, b4060_3, b4188, b420 =>
  if decide (s5 < s1) = true then
  if (0 : Int) ≤ b4060_3 then
  if b4060_3 < b4188.length then
  if (0 : Int) ≤ s5 then
  if s5 < (b4188.getD b4060_3.toNat []).length then
  (z1k fuel (((b4188.getD b4060_3.toNat []).getD s5.toNat (false, ([], []))).1, (((b4188.getD b4060_3.toNat []).getD s5.toNat (false, ([], []))).2))).bind fun r1 =>
  if decide (r1 ≥ 0) = true then
  z1h m s1 (IntKind.i64.wrap (s5 + 1)) b4060_2 b4060_3 b4188 b420
  else
  some (.exit (s5, b4060_2, b4060_3, b4188, b420, ()))
  else none
  else none
  else none
  else none
  else
  some (.exit (s5, b4060_2, b4060_3, b4188, b420, ()))
def l_simplex_table_run__simplex_Solve_2L : LSpec := { h := l_simplex_table_run__simplex_Solve_2H, x := z4t, r := z4s, xid := 2, rt := false, pins := [4060, 4188, 420], f := fun k d => z1h k d.1 d.2.1 d.2.2.1 d.2.2.2.1 d.2.2.2.2.1 d.2.2.2.2.2.1 }
def z0k : Nat → Int → Int → Int → Int → Int → Bool → List Int → List Int → List (List (Bool × ((List Int) × (List Int)))) → List Int → Option (LR z2k z2j)
 | 0, _, _, _, _, _, _, _, _, _, _ => none
 | m + 1, s1, s28, s29, b4060_2, b4060_3, b4024_0, b4024_1, b4024_2, b4188, b420 =>
  if decide (s29 < s28) = true then
  if (0 : Int) ≤ s1 then
  if s1 < b4188.length then
  if (0 : Int) ≤ s1 then
  if s1 < b4188.length then
  if (0 : Int) ≤ s29 then
  if s29 < (b4188.getD s1.toNat []).length then
  (z5x fuel (((b4188.getD s1.toNat []).getD s29.toNat (false, ([], []))).1, (((b4188.getD s1.toNat []).getD s29.toNat (false, ([], []))).2)) (b4024_0, (b4024_1, b4024_2))).bind fun r1 =>
  if (0 : Int) ≤ s29 then
  if s29 < (b4188.getD s1.toNat []).length then
  z0k m s1 s28 (IntKind.i64.wrap (s29 + 1)) b4060_2 b4060_3 b4024_0 b4024_1 b4024_2 (b4188.set s1.toNat ((b4188.getD s1.toNat []).set s29.toNat r1)) b420
  else none
  else none
  else none
  else none
  else none
  else none
  else none
  else none
  else
  some (.exit (b4060_2, b4060_3, b4024_0, b4024_1, b4024_2, b4188, b420, ()))
def l_simplex_table_pivot__simplex_table_run__simplex_Solve_2L : LSpec := { h := l_simplex_table_pivot__simplex_table_run__simplex_Solve_2H, x := z2k, r := z2j, xid := 0, rt := false, pins := [4060, 4024, 4188, 420], f := fun k d => z0k k d.1 d.2.1 d.2.2.1 d.2.2.2.1 d.2.2.2.2.1 d.2.2.2.2.2.1 d.2.2.2.2.2.2.1 d.2.2.2.2.2.2.2.1 d.2.2.2.2.2.2.2.2.1 d.2.2.2.2.2.2.2.2.2.1 }
def z0h : Nat → Int → Int → Int → Int → Int → Int → Bool → List Int → List Int → List (List (Bool × ((List Int) × (List Int)))) → List Int → Option (LR z2f z2e)
 | 0, _, _, _, _, _, _, _, _, _, _, _ => none
 | m + 1, s1, s8, s87, s88, b4060_2, b4060_3, b36_0, b36_1, b36_2, b4188, b420 =>
  if decide (s88 < s87) = true then
  if (0 : Int) ≤ s8 then
  if s8 < b4188.length then
  if (0 : Int) ≤ s8 then
  if s8 < b4188.length then
  if (0 : Int) ≤ s88 then
  if s88 < (b4188.getD s8.toNat []).length then
  if (0 : Int) ≤ s1 then
  if s1 < b4188.length then
  if (0 : Int) ≤ s88 then
  if s88 < (b4188.getD s1.toNat []).length then
  (z36 fuel (b36_0, (b36_1, b36_2)) (((b4188.getD s1.toNat []).getD s88.toNat (false, ([], []))).1, (((b4188.getD s1.toNat []).getD s88.toNat (false, ([], []))).2))).bind fun r1 =>
  (z58 fuel (((b4188.getD s8.toNat []).getD s88.toNat (false, ([], []))).1, (((b4188.getD s8.toNat []).getD s88.toNat (false, ([], []))).2)) r1).bind fun r2 =>
  if (0 : Int) ≤ s88 then
  if s88 < (b4188.getD s8.toNat []).length then
  z0h m s1 s8 s87 (IntKind.i64.wrap (s88 + 1)) b4060_2 b4060_3 b36_0 b36_1 b36_2 (b4188.set s8.toNat ((b4188.getD s8.toNat []).set s88.toNat r2)) b420
  else none
  else none
  else none
  else none
  else none
  else none
  else none
  else none
  else none
  else none
  else none
  else none
  else
  some (.exit (b4060_2, b4060_3, b36_0, b36_1, b36_2, b4188, b420, ()))
def l_simplex_table_pivot__simplex_table_run__simplex_Solve_12L : LSpec := { h := l_simplex_table_pivot__simplex_table_run__simplex_Solve_12H, x := z2f, r := z2e, xid := 4, rt := false, pins := [4060, 36, 4188, 420], f := fun k d => z0h k d.1 d.2.1 d.2.2.1 d.2.2.2.1 d.2.2.2.2.1 d.2.2.2.2.2.1 d.2.2.2.2.2.2.1 d.2.2.2.2.2.2.2.1 d.2.2.2.2.2.2.2.2.1 d.2.2.2.2.2.2.2.2.2.1 d.2.2.2.2.2.2.2.2.2.2.1 }
def z07 : Nat → Int → Int → Int → Int → Int → Int → List (List (Bool × ((List Int) × (List Int)))) → List Int → Option (LR z2m z2l)
 | 0, _, _, _, _, _, _, _, _ => none
 | m + 1, s1, s2, s58, s59, b4060_2, b4060_3, b4188, b420 =>
  if decide (s59 < s58) = true then
  if (0 : Int) ≤ s59 then
  if s59 < b4188.length then
  if (0 : Int) ≤ s2 then
  if s2 < (b4188.getD s59.toNat []).length then
  if (s59 == s1) = false then
  (z1k fuel (((b4188.getD s59.toNat []).getD s2.toNat (false, ([], []))).1, (((b4188.getD s59.toNat []).getD s2.toNat (false, ([], []))).2))).bind fun r1 =>
  if (r1 == 0) = true then
  z07 m s1 s2 s58 (IntKind.i64.wrap (s59 + 1)) b4060_2 b4060_3 b4188 b420
  else
  if (0 : Int) ≤ s59 then
  if s59 < b4188.length then
  match z0h m s1 s59 ((b4188.getD s59.toNat []).length : Int) 0 b4060_2 b4060_3 (((b4188.getD s59.toNat []).getD s2.toNat (false, ([], []))).1) ((((b4188.getD s59.toNat []).getD s2.toNat (false, ([], []))).2).1) ((((b4188.getD s59.toNat []).getD s2.toNat (false, ([], []))).2).2) b4188 b420 with
  | none => none
  | some (.exit d2) =>
   z07 m s1 s2 s58 (IntKind.i64.wrap (s59 + 1)) d2.1 d2.2.1 d2.2.2.2.2.2.1 d2.2.2.2.2.2.2.1
  | some (.ret d2) =>
   none
  else none
  else none
  else
  z07 m s1 s2 s58 (IntKind.i64.wrap (s59 + 1)) b4060_2 b4060_3 b4188 b420
  else none
  else none
  else none
  else none
  else
  some (.exit (b4060_2, b4060_3, b4188, b420, ()))
def l_simplex_table_pivot__simplex_table_run__simplex_Solve_7L : LSpec := { h := l_simplex_table_pivot__simplex_table_run__simplex_Solve_7H, x := z2m, r := z2l, xid := 2, rt := false, pins := [4060, 4188, 420], f := fun k d => z07 k d.1 d.2.1 d.2.2.1 d.2.2.2.1 d.2.2.2.2.1 d.2.2.2.2.2.1 d.2.2.2.2.2.2.1 d.2.2.2.2.2.2.2.1 }
def z11 : Nat → Int → Int → Int → List (List (Bool × ((List Int) × (List Int)))) → List Int → Option (LR z4r z4q)
 | 0, _, _, _, _, _ => none
 | m + 1, s1, b4060_2, b4060_3, b4188, b420 =>
  match z1h m s1 0 b4060_2 b4060_3 b4188 b420 with
  | none => none
  | some (.exit d1) =>
   if (d1.1 == s1) = true then
   some (.ret ((-1), d1.2.1, d1.2.2.1, d1.2.2.2.1, d1.2.2.2.2.1, ()))
   else
   (z34 fuel (d1.2.2.2.1, (d1.2.2.2.2.1, (d1.2.1, d1.2.2.1))) d1.1).bind fun r2 =>
   if decide (r2 < 0) = true then
   some (.ret (d1.1, d1.2.1, d1.2.2.1, d1.2.2.2.1, d1.2.2.2.2.1, ()))
   else
   if (0 : Int) ≤ r2 then
   if r2 < d1.2.2.2.1.length then
   if (0 : Int) ≤ d1.1 then
   if d1.1 < (d1.2.2.2.1.getD r2.toNat []).length then
   if (0 : Int) ≤ r2 then
   if r2 < d1.2.2.2.1.length then
   match z0k m r2 ((d1.2.2.2.1.getD r2.toNat []).length : Int) 0 d1.2.1 d1.2.2.1 (((d1.2.2.2.1.getD r2.toNat []).getD d1.1.toNat (false, ([], []))).1) ((((d1.2.2.2.1.getD r2.toNat []).getD d1.1.toNat (false, ([], []))).2).1) ((((d1.2.2.2.1.getD r2.toNat []).getD d1.1.toNat (false, ([], []))).2).2) d1.2.2.2.1 d1.2.2.2.2.1 with
   | none => none
   | some (.exit d3) =>
    match z07 m r2 d1.1 (d3.2.2.2.2.2.1.length : Int) 0 d3.1 d3.2.1 d3.2.2.2.2.2.1 d3.2.2.2.2.2.2.1 with
    | none => none
    | some (.exit d4) =>
     if (0 : Int) ≤ r2 then
     if r2 < d4.2.2.2.1.length then
     z11 m s1 d4.1 d4.2.1 d4.2.2.1 (d4.2.2.2.1.set r2.toNat d1.1)
     else none
     else none
    | some (.ret d4) =>
     none
   | some (.ret d3) =>
    none
   else none
   else none
   else none
   else none
   else none
   else none
  | some (.ret d1) =>
   none
def l_simplex_table_run__simplex_Solve_1L : LSpec := { h := l_simplex_table_run__simplex_Solve_1H, x := z4r, r := z4q, xid := 0, rt := true, pins := [4060, 4188, 420], f := fun k d => z11 k d.1 d.2.1 d.2.2.1 d.2.2.2.1 d.2.2.2.2.1 }
def z0j : Nat → Int → Int → Int → Int → List (Bool × ((List Int) × (List Int))) → List Int → List (List (Bool × ((List Int) × (List Int)))) → Option (LR z3z z3y)
 | 0, _, _, _, _, _, _, _ => none
 | m + 1, s15, s16, b4060_2, b4060_3, b4040, b420, b4188 =>
  if decide (s16 < s15) = true then
  if (0 : Int) ≤ s16 then
  if s16 < b420.length then
  if decide (b420.getD s16.toNat 0 < b4060_2) = true then
  if (0 : Int) ≤ s16 then
  if s16 < b4188.length then
  (z1p fuel (b4188, (b420, (b4060_2, b4060_3)))).bind fun r1 =>
  if (0 : Int) ≤ r1 then
  if r1 < (b4188.getD s16.toNat []).length then
  if (0 : Int) ≤ b420.getD s16.toNat 0 then
  if b420.getD s16.toNat 0 < b4040.length then
  z0j m s15 (IntKind.i64.wrap (s16 + 1)) b4060_2 b4060_3 (b4040.set ((b420.getD s16.toNat 0).toNat) (((b4188.getD s16.toNat []).getD r1.toNat (false, ([], []))).1, (((b4188.getD s16.toNat []).getD r1.toNat (false, ([], []))).2))) b420 b4188
  else none
  else none
  else none
  else none
  else none
  else none
  else
  z0j m s15 (IntKind.i64.wrap (s16 + 1)) b4060_2 b4060_3 b4040 b420 b4188
  else none
  else none
  else
  some (.exit (b4040, b4060_2, b4060_3, b420, b4188, ()))
def l_simplex_table_solution__simplex_Solve_3L : LSpec := { h := l_simplex_table_solution__simplex_Solve_3H, x := z3z, r := z3y, xid := 0, rt := false, pins := [4060, 4040, 420, 4188], f := fun k d => z0j k d.1 d.2.1 d.2.2.1 d.2.2.2.1 d.2.2.2.2.1 d.2.2.2.2.2.1 d.2.2.2.2.2.2.1 }
def z1n : Nat → Int → Int → Int → Int → Int → List (Bool × ((List Int) × (List Int))) → List Int → List (List (Bool × ((List Int) × (List Int)))) → Option (LR zk7 zk6)
 | 0, _, _, _, _, _, _, _, _ => none
 | m + 1, s6, s131, s132, b4060_2, b4060_3, b464, b420, b4188 =>
  if decide (s132 < s131) = true then
  if (0 : Int) ≤ s132 then
  if s132 < b420.length then
  if decide (b420.getD s132.toNat 0 < b4060_2) = true then
  if (0 : Int) ≤ s132 then
  if s132 < b4188.length then
  if (0 : Int) ≤ s6 then
  if s6 < (b4188.getD s132.toNat []).length then
  (z8p fuel (((b4188.getD s132.toNat []).getD s6.toNat (false, ([], []))).1, (((b4188.getD s132.toNat []).getD s6.toNat (false, ([], []))).2))).bind fun r1 =>
  if (0 : Int) ≤ b420.getD s132.toNat 0 then
  if b420.getD s132.toNat 0 < b464.length then
  z1n m s6 s131 (IntKind.i64.wrap (s132 + 1)) b4060_2 b4060_3 (b464.set ((b420.getD s132.toNat 0).toNat) r1) b420 b4188
  else none
  else none
  else none
  else none
  else none
  else none
  else
  z1n m s6 s131 (IntKind.i64.wrap (s132 + 1)) b4060_2 b4060_3 b464 b420 b4188
  else none
  else none
  else
  some (.exit (b464, b4060_2, b4060_3, b420, b4188, ()))
def l_simplex_Solve_16L : LSpec := { h := l_simplex_Solve_16H, x := zk7, r := zk6, xid := 0, rt := false, pins := [4060, 464, 420, 4188], f := fun k d => z1n k d.1 d.2.1 d.2.2.1 d.2.2.2.1 d.2.2.2.2.1 d.2.2.2.2.2.1 d.2.2.2.2.2.2.1 d.2.2.2.2.2.2.2.1 }
def z0f : Nat → Int → Int → List (Bool × ((List Int) × (List Int))) → List (Bool × ((List Int) × (List Int))) → Option (LR z26 z25)
 | 0, _, _, _, _ => none
 | m + 1, s23, s24, b8084, b4268 =>
  if decide (s24 < s23) = true then
  if (0 : Int) ≤ s24 then
  if s24 < b4268.length then
  (z8p fuel ((b4268.getD s24.toNat (false, ([], []))).1, ((b4268.getD s24.toNat (false, ([], []))).2))).bind fun r1 =>
  if (0 : Int) ≤ s24 then
  if s24 < b8084.length then
  z0f m s23 (IntKind.i64.wrap (s24 + 1)) (b8084.set s24.toNat r1) b4268
  else none
  else none
  else none
  else none
  else
  some (.exit (b8084, b4268, ()))
def l_simplex_table_goal__simplex_table_feasible__simplex_Solve_2L : LSpec := { h := l_simplex_table_goal__simplex_table_feasible__simplex_Solve_2H, x := z26, r := z25, xid := 0, rt := false, pins := [8084, 4268], f := fun k d => z0f k d.1 d.2.1 d.2.2.1 d.2.2.2.1 }
def z0e : Nat → Nat → Int → Int → Int → Int → Int → List (List (Bool × ((List Int) × (List Int)))) → Bool → List Int → List Int → List Int → Option (LR z1z z1y)
 | 0, _, _, _, _, _, _, _, _, _, _, _ => none
 | m + 1, s4, s7, s68, s69, b4060_2, b4060_3, b8188, b36_0, b36_1, b36_2, b420 =>
  if decide (s69 < s68) = true then
  if (0 : Int) ≤ s69 then
  if s69 < (b8188.getD s4 []).length then
  if (0 : Int) ≤ s7 then
  if s7 < b8188.length then
  if (0 : Int) ≤ s69 then
  if s69 < (b8188.getD s7.toNat []).length then
  (z36 fuel (b36_0, (b36_1, b36_2)) (((b8188.getD s7.toNat []).getD s69.toNat (false, ([], []))).1, (((b8188.getD s7.toNat []).getD s69.toNat (false, ([], []))).2))).bind fun r1 =>
  (z58 fuel (((b8188.getD s4 []).getD s69.toNat (false, ([], []))).1, (((b8188.getD s4 []).getD s69.toNat (false, ([], []))).2)) r1).bind fun r2 =>
  if (0 : Int) ≤ s69 then
  if s69 < (b8188.getD s4 []).length then
  z0e m s4 s7 s68 (IntKind.i64.wrap (s69 + 1)) b4060_2 b4060_3 (b8188.set s4 ((b8188.getD s4 []).set s69.toNat r2)) b36_0 b36_1 b36_2 b420
  else none
  else none
  else none
  else none
  else none
  else none
  else none
  else none
  else
  some (.exit (s4, b4060_2, b4060_3, b8188, b36_0, b36_1, b36_2, b420, ()))
def l_simplex_table_goal__simplex_table_feasible__simplex_Solve_13L : LSpec := { h := l_simplex_table_goal__simplex_table_feasible__simplex_Solve_13H, x := z1z, r := z1y, xid := 4, rt := false, pins := [4060, 8188, 36, 420], f := fun k d => z0e k d.1 d.2.1 d.2.2.1 d.2.2.2.1 d.2.2.2.2.1 d.2.2.2.2.2.1 d.2.2.2.2.2.2.1 d.2.2.2.2.2.2.2.1 d.2.2.2.2.2.2.2.2.1 d.2.2.2.2.2.2.2.2.2.1 d.2.2.2.2.2.2.2.2.2.2.1 }
def z09 : Nat → Nat → Int → Int → Int → Int → List (List (Bool × ((List Int) × (List Int)))) → List Int → Option (LR z28 z27)
 | 0, _, _, _, _, _, _, _ => none
 | m + 1, s4, s54, s55, b4060_2, b4060_3, b8188, b420 =>
  if decide (s55 < s54) = true then
  if (0 : Int) ≤ s55 then
  if s55 < b420.length then
  if (0 : Int) ≤ b420.getD s55.toNat 0 then
  if b420.getD s55.toNat 0 < (b8188.getD s4 []).length then
  (z1k fuel (((b8188.getD s4 []).getD ((b420.getD s55.toNat 0).toNat) (false, ([], []))).1, (((b8188.getD s4 []).getD ((b420.getD s55.toNat 0).toNat) (false, ([], []))).2))).bind fun r1 =>
  if (r1 == 0) = true then
  z09 m s4 s54 (IntKind.i64.wrap (s55 + 1)) b4060_2 b4060_3 b8188 b420
  else
  match z0e m s4 s55 ((b8188.getD s4 []).length : Int) 0 b4060_2 b4060_3 b8188 (((b8188.getD s4 []).getD ((b420.getD s55.toNat 0).toNat) (false, ([], []))).1) ((((b8188.getD s4 []).getD ((b420.getD s55.toNat 0).toNat) (false, ([], []))).2).1) ((((b8188.getD s4 []).getD ((b420.getD s55.toNat 0).toNat) (false, ([], []))).2).2) b420 with
  | none => none
  | some (.exit d2) =>
   z09 m d2.1 s54 (IntKind.i64.wrap (s55 + 1)) d2.2.1 d2.2.2.1 d2.2.2.2.1 d2.2.2.2.2.2.2.2.1
  | some (.ret d2) =>
   none
  else none
  else none
  else none
  else none
  else
  some (.exit (b4060_2, b4060_3, b8188, b420, ()))
def l_simplex_table_goal__simplex_table_feasible__simplex_Solve_8L : LSpec := { h := l_simplex_table_goal__simplex_table_feasible__simplex_Solve_8H, x := z28, r := z27, xid := 2, rt := false, pins := [4060, 8188, 420], f := fun k d => z09 k d.1 d.2.1 d.2.2.1 d.2.2.2.1 d.2.2.2.2.1 d.2.2.2.2.2.1 d.2.2.2.2.2.2.1 }
def z08 : Nat → Int → Int → Int → Int → Int → Bool → List Int → List Int → List (List (Bool × ((List Int) × (List Int)))) → List Int → Option (LR z21 z20)
 | 0, _, _, _, _, _, _, _, _, _, _ => none
 | m + 1, s1, s28, s29, b4060_2, b4060_3, b8024_0, b8024_1, b8024_2, b8188, b420 =>
  if decide (s29 < s28) = true then
  if (0 : Int) ≤ s1 then
  if s1 < b8188.length then
  if (0 : Int) ≤ s1 then
  if s1 < b8188.length then
  if (0 : Int) ≤ s29 then
  if s29 < (b8188.getD s1.toNat []).length then
  (z5x fuel (((b8188.getD s1.toNat []).getD s29.toNat (false, ([], []))).1, (((b8188.getD s1.toNat []).getD s29.toNat (false, ([], []))).2)) (b8024_0, (b8024_1, b8024_2))).bind fun r1 =>
  if (0 : Int) ≤ s29 then
  if s29 < (b8188.getD s1.toNat []).length then
  z08 m s1 s28 (IntKind.i64.wrap (s29 + 1)) b4060_2 b4060_3 b8024_0 b8024_1 b8024_2 (b8188.set s1.toNat ((b8188.getD s1.toNat []).set s29.toNat r1)) b420
  else none
  else none
  else none
  else none
  else none
  else none
  else none
  else none
  else
  some (.exit (b4060_2, b4060_3, b8024_0, b8024_1, b8024_2, b8188, b420, ()))
def l_simplex_table_pivot__simplex_table_feasible__simplex_Solve_2L : LSpec := { h := l_simplex_table_pivot__simplex_table_feasible__simplex_Solve_2H, x := z21, r := z20, xid := 0, rt := false, pins := [4060, 8024, 8188, 420], f := fun k d => z08 k d.1 d.2.1 d.2.2.1 d.2.2.2.1 d.2.2.2.2.1 d.2.2.2.2.2.1 d.2.2.2.2.2.2.1 d.2.2.2.2.2.2.2.1 d.2.2.2.2.2.2.2.2.1 d.2.2.2.2.2.2.2.2.2.1 }
def z0b : Nat → Int → Int → Int → Int → Int → Int → Bool → List Int → List Int → List (List (Bool × ((List Int) × (List Int)))) → List Int → Option (LR z1w z1v)
 | 0, _, _, _, _, _, _, _, _, _, _, _ => none
 | m + 1, s1, s8, s87, s88, b4060_2, b4060_3, b36_0, b36_1, b36_2, b8188, b420 =>
  if decide (s88 < s87) = true then
  if (0 : Int) ≤ s8 then
  if s8 < b8188.length then
  if (0 : Int) ≤ s8 then
  if s8 < b8188.length then
  if (0 : Int) ≤ s88 then
  if s88 < (b8188.getD s8.toNat []).length then
  if (0 : Int) ≤ s1 then
  if s1 < b8188.length then
  if (0 : Int) ≤ s88 then
  if s88 < (b8188.getD s1.toNat []).length then
  (z36 fuel (b36_0, (b36_1, b36_2)) (((b8188.getD s1.toNat []).getD s88.toNat (false, ([], []))).1, (((b8188.getD s1.toNat []).getD s88.toNat (false, ([], []))).2))).bind fun r1 =>
  (z58 fuel (((b8188.getD s8.toNat []).getD s88.toNat (false, ([], []))).1, (((b8188.getD s8.toNat []).getD s88.toNat (false, ([], []))).2)) r1).bind fun r2 =>
  if (0 : Int) ≤ s88 then
  if s88 < (b8188.getD s8.toNat []).length then
  z0b m s1 s8 s87 (IntKind.i64.wrap (s88 + 1)) b4060_2 b4060_3 b36_0 b36_1 b36_2 (b8188.set s8.toNat ((b8188.getD s8.toNat []).set s88.toNat r2)) b420
  else none
  else none
  else none
  else none
  else none
  else none
  else none
  else none
  else none
  else none
  else none
  else none
  else
  some (.exit (b4060_2, b4060_3, b36_0, b36_1, b36_2, b8188, b420, ()))
def l_simplex_table_pivot__simplex_table_feasible__simplex_Solve_12L : LSpec := { h := l_simplex_table_pivot__simplex_table_feasible__simplex_Solve_12H, x := z1w, r := z1v, xid := 4, rt := false, pins := [4060, 36, 8188, 420], f := fun k d => z0b k d.1 d.2.1 d.2.2.1 d.2.2.2.1 d.2.2.2.2.1 d.2.2.2.2.2.1 d.2.2.2.2.2.2.1 d.2.2.2.2.2.2.2.1 d.2.2.2.2.2.2.2.2.1 d.2.2.2.2.2.2.2.2.2.1 d.2.2.2.2.2.2.2.2.2.2.1 }
def z04 : Nat → Int → Int → Int → Int → Int → Int → List (List (Bool × ((List Int) × (List Int)))) → List Int → Option (LR z23 z22)
 | 0, _, _, _, _, _, _, _, _ => none
 | m + 1, s1, s2, s58, s59, b4060_2, b4060_3, b8188, b420 =>
  if decide (s59 < s58) = true then
  if (0 : Int) ≤ s59 then
  if s59 < b8188.length then
  if (0 : Int) ≤ s2 then
  if s2 < (b8188.getD s59.toNat []).length then
  if (s59 == s1) = false then
  (z1k fuel (((b8188.getD s59.toNat []).getD s2.toNat (false, ([], []))).1, (((b8188.getD s59.toNat []).getD s2.toNat (false, ([], []))).2))).bind fun r1 =>
  if (r1 == 0) = true then
  z04 m s1 s2 s58 (IntKind.i64.wrap (s59 + 1)) b4060_2 b4060_3 b8188 b420
  else
  if (0 : Int) ≤ s59 then
  if s59 < b8188.length then
  match z0b m s1 s59 ((b8188.getD s59.toNat []).length : Int) 0 b4060_2 b4060_3 (((b8188.getD s59.toNat []).getD s2.toNat (false, ([], []))).1) ((((b8188.getD s59.toNat []).getD s2.toNat (false, ([], []))).2).1) ((((b8188.getD s59.toNat []).getD s2.toNat (false, ([], []))).2).2) b8188 b420 with
  | none => none
  | some (.exit d2) =>
   z04 m s1 s2 s58 (IntKind.i64.wrap (s59 + 1)) d2.1 d2.2.1 d2.2.2.2.2.2.1 d2.2.2.2.2.2.2.1
  | some (.ret d2) =>
   none
  else none
  else none
  else
  z04 m s1 s2 s58 (IntKind.i64.wrap (s59 + 1)) b4060_2 b4060_3 b8188 b420
  else none
  else none
  else none
  else none
  else
  some (.exit (b4060_2, b4060_3, b8188, b420, ()))
def l_simplex_table_pivot__simplex_table_feasible__simplex_Solve_7L : LSpec := { h := l_simplex_table_pivot__simplex_table_feasible__simplex_Solve_7H, x := z23, r := z22, xid := 2, rt := false, pins := [4060, 8188, 420], f := fun k d => z04 k d.1 d.2.1 d.2.2.1 d.2.2.2.1 d.2.2.2.2.1 d.2.2.2.2.2.1 d.2.2.2.2.2.2.1 d.2.2.2.2.2.2.2.1 }
def z0g : Nat → Int → Int → Int → Int → List (List (Bool × ((List Int) × (List Int)))) → List Int → Option (LR z2d z2c)
 | 0, _, _, _, _, _, _ => none
 | m + 1, s1, s5, b4060_2, b4060_3, b8188, b420 =>
  if decide (s5 < s1) = true then
  if (0 : Int) ≤ b4060_3 then
  if b4060_3 < b8188.length then
  if (0 : Int) ≤ s5 then
  if s5 < (b8188.getD b4060_3.toNat []).length then
  (z1k fuel (((b8188.getD b4060_3.toNat []).getD s5.toNat (false, ([], []))).1, (((b8188.getD b4060_3.toNat []).getD s5.toNat (false, ([], []))).2))).bind fun r1 =>
  if decide (r1 ≥ 0) = true then
  z0g m s1 (IntKind.i64.wrap (s5 + 1)) b4060_2 b4060_3 b8188 b420
  else
  some (.exit (s5, b4060_2, b4060_3, b8188, b420, ()))
  else none
  else none
  else none
  else none
  else
  some (.exit (s5, b4060_2, b4060_3, b8188, b420, ()))
def l_simplex_table_run__simplex_table_feasible__simplex_Solve_2L : LSpec := { h := l_simplex_table_run__simplex_table_feasible__simplex_Solve_2H, x := z2d, r := z2c, xid := 2, rt := false, pins := [4060, 8188, 420], f := fun k d => z0g k d.1 d.2.1 d.2.2.1 d.2.2.2.1 d.2.2.2.2.1 d.2.2.2.2.2.1 }
def z06 : Nat → Int → Int → Int → Int → Int → Bool → List Int → List Int → List (List (Bool × ((List Int) × (List Int)))) → List Int → Option (LR z1e z1d)
 | 0, _, _, _, _, _, _, _, _, _, _ => none
 | m + 1, s1, s28, s29, b4060_2, b4060_3, b4024_0, b4024_1, b4024_2, b8188, b420 =>
  if decide (s29 < s28) = true then
  if (0 : Int) ≤ s1 then
  if s1 < b8188.length then
  if (0 : Int) ≤ s1 then
  if s1 < b8188.length then
  if (0 : Int) ≤ s29 then
  if s29 < (b8188.getD s1.toNat []).length then
  (z5x fuel (((b8188.getD s1.toNat []).getD s29.toNat (false, ([], []))).1, (((b8188.getD s1.toNat []).getD s29.toNat (false, ([], []))).2)) (b4024_0, (b4024_1, b4024_2))).bind fun r1 =>
  if (0 : Int) ≤ s29 then
  if s29 < (b8188.getD s1.toNat []).length then
  z06 m s1 s28 (IntKind.i64.wrap (s29 + 1)) b4060_2 b4060_3 b4024_0 b4024_1 b4024_2 (b8188.set s1.toNat ((b8188.getD s1.toNat []).set s29.toNat r1)) b420
  else none
  else none
  else none
  else none
  else none
  else none
  else none
  else none
  else
  some (.exit (b4060_2, b4060_3, b4024_0, b4024_1, b4024_2, b8188, b420, ()))
def l_simplex_table_pivot__simplex_table_run__simplex_table_feasible__simplex_Solve_2L : LSpec := { h := l_simplex_table_pivot__simplex_table_run__simplex_table_feasible__simplex_Solve_2H, x := z1e, r := z1d, xid := 0, rt := false, pins := [4060, 4024, 8188, 420], f := fun k d => z06 k d.1 d.2.1 d.2.2.1 d.2.2.2.1 d.2.2.2.2.1 d.2.2.2.2.2.1 d.2.2.2.2.2.2.1 d.2.2.2.2.2.2.2.1 d.2.2.2.2.2.2.2.2.1 d.2.2.2.2.2.2.2.2.2.1 }
def z05 : Nat → Int → Int → Int → Int → Int → Int → Bool → List Int → List Int → List (List (Bool × ((List Int) × (List Int)))) → List Int → Option (LR z1c z1b)
 | 0, _, _, _, _, _, _, _, _, _, _, _ => none
 | m + 1, s1, s8, s87, s88, b4060_2, b4060_3, b36_0, b36_1, b36_2, b8188, b420 =>
  if decide (s88 < s87) = true then
  if (0 : Int) ≤ s8 then
  if s8 < b8188.length then
  if (0 : Int) ≤ s8 then
  if s8 < b8188.length then
  if (0 : Int) ≤ s88 then
  if s88 < (b8188.getD s8.toNat []).length then
  if (0 : Int) ≤ s1 then
  if s1 < b8188.length then
  if (0 : Int) ≤ s88 then
  if s88 < (b8188.getD s1.toNat []).length then
  (z36 fuel (b36_0, (b36_1, b36_2)) (((b8188.getD s1.toNat []).getD s88.toNat (false, ([], []))).1, (((b8188.getD s1.toNat []).getD s88.toNat (false, ([], []))).2))).bind fun r1 =>
  (z58 fuel (((b8188.getD s8.toNat []).getD s88.toNat (false, ([], []))).1, (((b8188.getD s8.toNat []).getD s88.toNat (false, ([], []))).2)) r1).bind fun r2 =>
  if (0 : Int) ≤ s88 then
  if s88 < (b8188.getD s8.toNat []).length then
  z05 m s1 s8 s87 (IntKind.i64.wrap (s88 + 1)) b4060_2 b4060_3 b36_0 b36_1 b36_2 (b8188.set s8.toNat ((b8188.getD s8.toNat []).set s88.toNat r2)) b420
  else none
  else none
  else none
  else none
  else none
  else none
  else none
  else none
  else none
  else none
  else none
  else none
  else
  some (.exit (b4060_2, b4060_3, b36_0, b36_1, b36_2, b8188, b420, ()))
def l_simplex_table_pivot__simplex_table_run__simplex_table_feasible__simplex_Solve_12L : LSpec := { h := l_simplex_table_pivot__simplex_table_run__simplex_table_feasible__simplex_Solve_12H, x := z1c, r := z1b, xid := 4, rt := false, pins := [4060, 36, 8188, 420], f := fun k d => z05 k d.1 d.2.1 d.2.2.1 d.2.2.2.1 d.2.2.2.2.1 d.2.2.2.2.2.1 d.2.2.2.2.2.2.1 d.2.2.2.2.2.2.2.1 d.2.2.2.2.2.2.2.2.1 d.2.2.2.2.2.2.2.2.2.1 d.2.2.2.2.2.2.2.2.2.2.1 }
def z02 : Nat → Int → Int → Int → Int → Int → Int → List (List (Bool × ((List Int) × (List Int)))) → List Int → Option (LR z1g z1f)
 | 0, _, _, _, _, _, _, _, _ => none
 | m + 1, s1, s2, s58, s59, b4060_2, b4060_3, b8188, b420 =>
  if decide (s59 < s58) = true then
  if (0 : Int) ≤ s59 then
  if s59 < b8188.length then
  if (0 : Int) ≤ s2 then
  if s2 < (b8188.getD s59.toNat []).length then
  if (s59 == s1) = false then
  (z1k fuel (((b8188.getD s59.toNat []).getD s2.toNat (false, ([], []))).1, (((b8188.getD s59.toNat []).getD s2.toNat (false, ([], []))).2))).bind fun r1 =>
  if (r1 == 0) = true then
  z02 m s1 s2 s58 (IntKind.i64.wrap (s59 + 1)) b4060_2 b4060_3 b8188 b420
  else
  if (0 : Int) ≤ s59 then
  if s59 < b8188.length then
  match z05 m s1 s59 ((b8188.getD s59.toNat []).length : Int) 0 b4060_2 b4060_3 (((b8188.getD s59.toNat []).getD s2.toNat (false, ([], []))).1) ((((b8188.getD s59.toNat []).getD s2.toNat (false, ([], []))).2).1) ((((b8188.getD s59.toNat []).getD s2.toNat (false, ([], []))).2).2) b8188 b420 with
  | none => none
  | some (.exit d2) =>
   z02 m s1 s2 s58 (IntKind.i64.wrap (s59 + 1)) d2.1 d2.2.1 d2.2.2.2.2.2.1 d2.2.2.2.2.2.2.1
  | some (.ret d2) =>
   none
  else none
  else none
  else
  z02 m s1 s2 s58 (IntKind.i64.wrap (s59 + 1)) b4060_2 b4060_3 b8188 b420
  else none
  else none
  else none
  else none
  else
  some (.exit (b4060_2, b4060_3, b8188, b420, ()))
def l_simplex_table_pivot__simplex_table_run__simplex_table_feasible__simplex_Solve_7L : LSpec := { h := l_simplex_table_pivot__simplex_table_run__simplex_table_feasible__simplex_Solve_7H, x := z1g, r := z1f, xid := 2, rt := false, pins := [4060, 8188, 420], f := fun k d => z02 k d.1 d.2.1 d.2.2.1 d.2.2.2.1 d.2.2.2.2.1 d.2.2.2.2.2.1 d.2.2.2.2.2.2.1 d.2.2.2.2.2.2.2.1 }
def z0m : Nat → Int → Int → Int → List (List (Bool × ((List Int) × (List Int)))) → List Int → Option (LR z2b z2a)
 | 0, _, _, _, _, _ => none
 | m + 1, s1, b4060_2, b4060_3, b8188, b420 =>
  match z0g m s1 0 b4060_2 b4060_3 b8188 b420 with
  | none => none
  | some (.exit d1) =>
   if (d1.1 == s1) = true then
   some (.ret ((-1), d1.2.1, d1.2.2.1, d1.2.2.2.1, d1.2.2.2.2.1, ()))
   else
   (z34 fuel (d1.2.2.2.1, (d1.2.2.2.2.1, (d1.2.1, d1.2.2.1))) d1.1).bind fun r2 =>
   if decide (r2 < 0) = true then
   some (.ret (d1.1, d1.2.1, d1.2.2.1, d1.2.2.2.1, d1.2.2.2.2.1, ()))
   else
   if (0 : Int) ≤ r2 then
   if r2 < d1.2.2.2.1.length then
   if (0 : Int) ≤ d1.1 then
   if d1.1 < (d1.2.2.2.1.getD r2.toNat []).length then
   if (0 : Int) ≤ r2 then
   if r2 < d1.2.2.2.1.length then
   match z06 m r2 ((d1.2.2.2.1.getD r2.toNat []).length : Int) 0 d1.2.1 d1.2.2.1 (((d1.2.2.2.1.getD r2.toNat []).getD d1.1.toNat (false, ([], []))).1) ((((d1.2.2.2.1.getD r2.toNat []).getD d1.1.toNat (false, ([], []))).2).1) ((((d1.2.2.2.1.getD r2.toNat []).getD d1.1.toNat (false, ([], []))).2).2) d1.2.2.2.1 d1.2.2.2.2.1 with
   | none => none
   | some (.exit d3) =>
    match z02 m r2 d1.1 (d3.2.2.2.2.2.1.length : Int) 0 d3.1 d3.2.1 d3.2.2.2.2.2.1 d3.2.2.2.2.2.2.1 with
    | none => none
    | some (.exit d4) =>
     if (0 : Int) ≤ r2 then
     if r2 < d4.2.2.2.1.length then
     z0m m s1 d4.1 d4.2.1 d4.2.2.1 (d4.2.2.2.1.set r2.toNat d1.1)
     else none
     else none
    | some (.ret d4) =>
     none
   | some (.ret d3) =>
    none
   else none
   else none
   else none
   else none
   else none
   else none
  | some (.ret d1) =>
   none
def l_simplex_table_run__simplex_table_feasible__simplex_Solve_1L : LSpec := { h := l_simplex_table_run__simplex_table_feasible__simplex_Solve_1H, x := z2b, r := z2a, xid := 0, rt := true, pins := [4060, 8188, 420], f := fun k d => z0m k d.1 d.2.1 d.2.2.1 d.2.2.2.1 d.2.2.2.2.1 }
def z0z : Nat → Int → Int → Int → Int → Int → List (List (Bool × ((List Int) × (List Int)))) → List Int → Option (LR z3o z3n)
 | 0, _, _, _, _, _, _, _ => none
 | m + 1, s8, s112, s113, b4060_2, b4060_3, b8188, b420 =>
  if decide (s113 < s112) = true then
  if (0 : Int) ≤ s8 then
  if s8 < b8188.length then
  if (0 : Int) ≤ s113 then
  if s113 < (b8188.getD s8.toNat []).length then
  (z1k fuel (((b8188.getD s8.toNat []).getD s113.toNat (false, ([], []))).1, (((b8188.getD s8.toNat []).getD s113.toNat (false, ([], []))).2))).bind fun r1 =>
  if (r1 != 0) = true then
  if (0 : Int) ≤ s8 then
  if s8 < b8188.length then
  if (0 : Int) ≤ s113 then
  if s113 < (b8188.getD s8.toNat []).length then
  if (0 : Int) ≤ s8 then
  if s8 < b8188.length then
  match z08 m s8 ((b8188.getD s8.toNat []).length : Int) 0 b4060_2 b4060_3 (((b8188.getD s8.toNat []).getD s113.toNat (false, ([], []))).1) ((((b8188.getD s8.toNat []).getD s113.toNat (false, ([], []))).2).1) ((((b8188.getD s8.toNat []).getD s113.toNat (false, ([], []))).2).2) b8188 b420 with
  | none => none
  | some (.exit d2) =>
   match z04 m s8 s113 (d2.2.2.2.2.2.1.length : Int) 0 d2.1 d2.2.1 d2.2.2.2.2.2.1 d2.2.2.2.2.2.2.1 with
   | none => none
   | some (.exit d3) =>
    if (0 : Int) ≤ s8 then
    if s8 < d3.2.2.2.1.length then
    some (.exit (d3.1, d3.2.1, d3.2.2.1, d3.2.2.2.1.set s8.toNat s113, ()))
    else none
    else none
   | some (.ret d3) =>
    none
  | some (.ret d2) =>
   none
  else none
  else none
  else none
  else none
  else none
  else none
  else
  z0z m s8 s112 (IntKind.i64.wrap (s113 + 1)) b4060_2 b4060_3 b8188 b420
  else none
  else none
  else none
  else none
  else
  some (.exit (b4060_2, b4060_3, b8188, b420, ()))
def l_simplex_table_feasible__simplex_Solve_23L : LSpec := { h := l_simplex_table_feasible__simplex_Solve_23H, x := z3o, r := z3n, xid := 4, rt := false, pins := [4060, 8188, 420], f := fun k d => z0z k d.1 d.2.1 d.2.2.1 d.2.2.2.1 d.2.2.2.2.1 d.2.2.2.2.2.1 d.2.2.2.2.2.2.1 }
def z0u : Nat → Int → Int → Int → Int → Int → List Int → List (List (Bool × ((List Int) × (List Int)))) → Option (LR z3m z3l)
 | 0, _, _, _, _, _, _, _ => none
 | m + 1, s4, s103, s104, b4060_2, b4060_3, b420, b8188 =>
  if decide (s104 < s103) = true then
  if (0 : Int) ≤ s104 then
  if s104 < b420.length then
  if (b420.getD s104.toNat 0 != s4) = true then
  z0u m s4 s103 (IntKind.i64.wrap (s104 + 1)) b4060_2 b4060_3 b420 b8188
  else
  match z0z m s104 s4 0 b4060_2 b4060_3 b8188 b420 with
  | none => none
  | some (.exit d1) =>
   z0u m s4 s103 (IntKind.i64.wrap (s104 + 1)) d1.1 d1.2.1 d1.2.2.2.1 d1.2.2.1
  | some (.ret d1) =>
   none
  else none
  else none
  else
  some (.exit (b4060_2, b4060_3, b420, b8188, ()))
def l_simplex_table_feasible__simplex_Solve_19L : LSpec := { h := l_simplex_table_feasible__simplex_Solve_19H, x := z3m, r := z3l, xid := 2, rt := false, pins := [4060, 420, 8188], f := fun k d => z0u k d.1 d.2.1 d.2.2.1 d.2.2.2.1 d.2.2.2.2.1 d.2.2.2.2.2.1 d.2.2.2.2.2.2.1 }
def z0l : z29 := [([29, 9], [(4, l_simplex_start__simplex_Solve_4L)]), ([30, 9], [(3, l_simplex_table_feasible__simplex_Solve_3L), (19, l_simplex_table_feasible__simplex_Solve_19L), (23, l_simplex_table_feasible__simplex_Solve_23L)]), ([32, 9], [(2, l_simplex_table_goal__simplex_Solve_2L), (8, l_simplex_table_goal__simplex_Solve_8L), (13, l_simplex_table_goal__simplex_Solve_13L)]), ([34, 9], [(1, l_simplex_table_run__simplex_Solve_1L), (2, l_simplex_table_run__simplex_Solve_2L)]), ([62, 34, 9], [(2, l_simplex_table_pivot__simplex_table_run__simplex_Solve_2L), (7, l_simplex_table_pivot__simplex_table_run__simplex_Solve_7L), (12, l_simplex_table_pivot__simplex_table_run__simplex_Solve_12L)]), ([35, 9], [(3, l_simplex_table_solution__simplex_Solve_3L)]), ([9], [(16, l_simplex_Solve_16L)]), ([32, 30, 9], [(2, l_simplex_table_goal__simplex_table_feasible__simplex_Solve_2L), (8, l_simplex_table_goal__simplex_table_feasible__simplex_Solve_8L), (13, l_simplex_table_goal__simplex_table_feasible__simplex_Solve_13L)]), ([62, 30, 9], [(2, l_simplex_table_pivot__simplex_table_feasible__simplex_Solve_2L), (7, l_simplex_table_pivot__simplex_table_feasible__simplex_Solve_7L), (12, l_simplex_table_pivot__simplex_table_feasible__simplex_Solve_12L)]), ([34, 30, 9], [(1, l_simplex_table_run__simplex_table_feasible__simplex_Solve_1L), (2, l_simplex_table_run__simplex_table_feasible__simplex_Solve_2L)]), ([62, 34, 30, 9], [(2, l_simplex_table_pivot__simplex_table_run__simplex_table_feasible__simplex_Solve_2L), (7, l_simplex_table_pivot__simplex_table_run__simplex_table_feasible__simplex_Solve_7L), (12, l_simplex_table_pivot__simplex_table_run__simplex_table_feasible__simplex_Solve_12L)])]
def z4c (k : Nat) (a0 : (List (List ByteArray)) × ((List ByteArray) × (List ByteArray))) : Option ((Int × ((List ByteArray) × ((List ByteArray) × ((List ByteArray) × ByteArray)))) × Int) :=
 (z39 fuel a0).bind fun r1 =>
 if (r1 != 0) = true then
 some ((0, ([], ([], ([], ByteArray.empty)))), r1)
 else
 (z71 fuel a0.1).bind fun r2 =>
 (z1x fuel a0.2.1).bind fun r3 =>
 match z1s k (a0.1.length : Int) 0 (a0.2.2.length : Int) (a0.1.length : Int) r2 r3 [] [] with
 | none => none
 | some (.exit d4) =>
  match z0i k (-1) d4.2.1 0 d4.1 d4.2.1 d4.2.2.2.2.1 d4.2.2.2.2.2.1 with
  | none => none
  | some (.exit d5) =>
   if decide (d5.1 < 0) = true then
   (z1x fuel a0.2.2).bind fun r6 =>
   if (0 : Int) ≤ IntKind.i64.wrap ((IntKind.i64.wrap (d5.2.1 + d5.2.2.1)) + 2) then
   if IntKind.i64.wrap ((IntKind.i64.wrap (d5.2.1 + d5.2.2.1)) + 2) ≤ IntKind.i64.wrap ((IntKind.i64.wrap (d5.2.1 + d5.2.2.1)) + 2) then
   if (IntKind.i64.wrap ((IntKind.i64.wrap (d5.2.1 + d5.2.2.1)) + 2)) * 56 ≤ 281474976710656 then
   match z0v k (r6.length : Int) 0 (List.replicate ((IntKind.i64.wrap ((IntKind.i64.wrap (d5.2.1 + d5.2.2.1)) + 2)).toNat) ((false, ([], [])) : Bool × ((List Int) × (List Int)))) r6 with
   | none => none
   | some (.exit d7) =>
    if (0 : Int) ≤ d5.2.2.1 then
    if d5.2.2.1 ≤ d5.2.2.2.1.length then
    if ((d5.2.2.2.1.take d5.2.2.1.toNat).length + 1) * 24 ≤ 140737488355328 then
    match z0n k ((d5.2.2.2.1.take d5.2.2.1.toNat).length) (d5.2.2.2.2.1.length : Int) 0 d5.2.1 d5.2.2.1 ((d5.2.2.2.1.take d5.2.2.1.toNat) ++ [d7.1]) d5.2.2.2.2.1 with
    | none => none
    | some (.exit d8) =>
     match z11 k (IntKind.i64.wrap (d8.1 + d8.2.1)) d8.1 d8.2.1 d8.2.2.1 d8.2.2.2.1 with
     | none => none
     | some (.exit d9) =>
      none
     | some (.ret d9) =>
      if (0 : Int) ≤ d9.2.1 then
      if d9.2.1 ≤ d9.2.1 then
      if d9.2.1 * 56 ≤ 281474976710656 then
      match z0j k (d9.2.2.2.2.1.length : Int) 0 d9.2.1 d9.2.2.1 (List.replicate d9.2.1.toNat ((false, ([], [])) : Bool × ((List Int) × (List Int)))) d9.2.2.2.2.1 d9.2.2.2.1 with
      | none => none
      | some (.exit d10) =>
       if decide (d9.1 < 0) = true then
       if (0 : Int) ≤ d10.2.2.1 then
       if d10.2.2.1 < d10.2.2.2.2.1.length then
       if (0 : Int) ≤ IntKind.i64.wrap (d10.2.1 + d10.2.2.1) then
       if IntKind.i64.wrap (d10.2.1 + d10.2.2.1) ≤ (d10.2.2.2.2.1.getD d10.2.2.1.toNat []).length then
       if (0 : Int) ≤ d10.2.1 then
       if d10.2.1 ≤ IntKind.i64.wrap (d10.2.1 + d10.2.2.1) then
       if (0 : Int) ≤ d10.2.2.1 then
       if d10.2.2.1 < d10.2.2.2.2.1.length then
       (z1p fuel (d10.2.2.2.2.1, (d10.2.2.2.1, (d10.2.1, d10.2.2.1)))).bind fun r11 =>
       if (0 : Int) ≤ r11 then
       if r11 < (d10.2.2.2.2.1.getD d10.2.2.1.toNat []).length then
       (z18 fuel 0 d10.1 (((d10.2.2.2.2.1.getD d10.2.2.1.toNat []).take (IntKind.i64.wrap (d10.2.1 + d10.2.2.1)).toNat).drop d10.2.1.toNat) [] (((d10.2.2.2.2.1.getD d10.2.2.1.toNat []).getD r11.toNat (false, ([], []))).1, (((d10.2.2.2.2.1.getD d10.2.2.1.toNat []).getD r11.toNat (false, ([], []))).2))).bind fun r12 =>
       some (r12.1, r12.2)
       else none
       else none
       else none
       else none
       else none
       else none
       else none
       else none
       else none
       else none
       else
       if (0 : Int) ≤ d10.2.1 then
       if d10.2.1 ≤ d10.2.1 then
       if d10.2.1 * 56 ≤ 281474976710656 then
       if decide (d9.1 < d10.2.1) = true then
       (z75 fuel 1).bind fun r13 =>
       if (0 : Int) ≤ d9.1 then
       if d9.1 < (List.replicate d10.2.1.toNat ((false, ([], [])) : Bool × ((List Int) × (List Int)))).length then
       match z1n k d9.1 (d10.2.2.2.1.length : Int) 0 d10.2.1 d10.2.2.1 ((List.replicate d10.2.1.toNat ((false, ([], [])) : Bool × ((List Int) × (List Int)))).set d9.1.toNat r13) d10.2.2.2.1 d10.2.2.2.2.1 with
       | none => none
       | some (.exit d14) =>
        (z18 fuel 2 d10.1 [] d14.1 (false, ([], []))).bind fun r15 =>
        some (r15.1, r15.2)
       | some (.ret d14) =>
        none
       else none
       else none
       else
       match z1n k d9.1 (d10.2.2.2.1.length : Int) 0 d10.2.1 d10.2.2.1 (List.replicate d10.2.1.toNat ((false, ([], [])) : Bool × ((List Int) × (List Int)))) d10.2.2.2.1 d10.2.2.2.2.1 with
       | none => none
       | some (.exit d16) =>
        (z18 fuel 2 d10.1 [] d16.1 (false, ([], []))).bind fun r17 =>
        some (r17.1, r17.2)
       | some (.ret d16) =>
        none
       else none
       else none
       else none
      | some (.ret d10) =>
       none
      else none
      else none
      else none
    | some (.ret d8) =>
     none
    else none
    else none
    else none
   | some (.ret d7) =>
    none
   else none
   else none
   else none
   else
   if (0 : Int) ≤ IntKind.i64.wrap ((IntKind.i64.wrap (d4.1 + d4.2.1)) + 1) then
   if IntKind.i64.wrap ((IntKind.i64.wrap (d4.1 + d4.2.1)) + 1) ≤ IntKind.i64.wrap ((IntKind.i64.wrap (d4.1 + d4.2.1)) + 1) then
   if (IntKind.i64.wrap ((IntKind.i64.wrap (d4.1 + d4.2.1)) + 1)) * 56 ≤ 281474976710656 then
   (z75 fuel (-1)).bind fun r18 =>
   if (0 : Int) ≤ IntKind.i64.wrap (d4.1 + d4.2.1) then
   if IntKind.i64.wrap (d4.1 + d4.2.1) < (List.replicate ((IntKind.i64.wrap ((IntKind.i64.wrap (d4.1 + d4.2.1)) + 1)).toNat) ((false, ([], [])) : Bool × ((List Int) × (List Int)))).length then
   if (0 : Int) ≤ IntKind.i64.wrap ((IntKind.i64.wrap (d5.2.1 + d5.2.2.1)) + 2) then
   if IntKind.i64.wrap ((IntKind.i64.wrap (d5.2.1 + d5.2.2.1)) + 2) ≤ IntKind.i64.wrap ((IntKind.i64.wrap (d5.2.1 + d5.2.2.1)) + 2) then
   if (IntKind.i64.wrap ((IntKind.i64.wrap (d5.2.1 + d5.2.2.1)) + 2)) * 56 ≤ 281474976710656 then
   match z0f k (((List.replicate ((IntKind.i64.wrap ((IntKind.i64.wrap (d4.1 + d4.2.1)) + 1)).toNat) ((false, ([], [])) : Bool × ((List Int) × (List Int)))).set ((IntKind.i64.wrap (d4.1 + d4.2.1)).toNat) r18).length : Int) 0 (List.replicate ((IntKind.i64.wrap ((IntKind.i64.wrap (d5.2.1 + d5.2.2.1)) + 2)).toNat) ((false, ([], [])) : Bool × ((List Int) × (List Int)))) ((List.replicate ((IntKind.i64.wrap ((IntKind.i64.wrap (d4.1 + d4.2.1)) + 1)).toNat) ((false, ([], [])) : Bool × ((List Int) × (List Int)))).set ((IntKind.i64.wrap (d4.1 + d4.2.1)).toNat) r18) with
   | none => none
   | some (.exit d19) =>
    if (0 : Int) ≤ d5.2.2.1 then
    if d5.2.2.1 ≤ d5.2.2.2.1.length then
    if ((d5.2.2.2.1.take d5.2.2.1.toNat).length + 1) * 24 ≤ 140737488355328 then
    match z09 k ((d5.2.2.2.1.take d5.2.2.1.toNat).length) (d5.2.2.2.2.1.length : Int) 0 d5.2.1 d5.2.2.1 ((d5.2.2.2.1.take d5.2.2.1.toNat) ++ [d19.1]) d5.2.2.2.2.1 with
    | none => none
    | some (.exit d20) =>
     if (0 : Int) ≤ d5.1 then
     if d5.1 < d20.2.2.1.length then
     if (0 : Int) ≤ IntKind.i64.wrap (d4.1 + d4.2.1) then
     if IntKind.i64.wrap (d4.1 + d4.2.1) < (d20.2.2.1.getD d5.1.toNat []).length then
     if (0 : Int) ≤ d5.1 then
     if d5.1 < d20.2.2.1.length then
     match z08 k d5.1 ((d20.2.2.1.getD d5.1.toNat []).length : Int) 0 d20.1 d20.2.1 (((d20.2.2.1.getD d5.1.toNat []).getD ((IntKind.i64.wrap (d4.1 + d4.2.1)).toNat) (false, ([], []))).1) ((((d20.2.2.1.getD d5.1.toNat []).getD ((IntKind.i64.wrap (d4.1 + d4.2.1)).toNat) (false, ([], []))).2).1) ((((d20.2.2.1.getD d5.1.toNat []).getD ((IntKind.i64.wrap (d4.1 + d4.2.1)).toNat) (false, ([], []))).2).2) d20.2.2.1 d20.2.2.2.1 with
     | none => none
     | some (.exit d21) =>
      match z04 k d5.1 (IntKind.i64.wrap (d4.1 + d4.2.1)) (d21.2.2.2.2.2.1.length : Int) 0 d21.1 d21.2.1 d21.2.2.2.2.2.1 d21.2.2.2.2.2.2.1 with
      | none => none
      | some (.exit d22) =>
       if (0 : Int) ≤ d5.1 then
       if d5.1 < d22.2.2.2.1.length then
       match z0m k (IntKind.i64.wrap ((IntKind.i64.wrap (d4.1 + d4.2.1)) + 1)) d22.1 d22.2.1 d22.2.2.1 (d22.2.2.2.1.set d5.1.toNat (IntKind.i64.wrap (d4.1 + d4.2.1))) with
       | none => none
       | some (.exit d23) =>
        none
       | some (.ret d23) =>
        if (0 : Int) ≤ d23.2.2.1 then
        if d23.2.2.1 < d23.2.2.2.1.length then
        (z1p fuel (d23.2.2.2.1, (d23.2.2.2.2.1, (d23.2.1, d23.2.2.1)))).bind fun r24 =>
        if (0 : Int) ≤ r24 then
        if r24 < (d23.2.2.2.1.getD d23.2.2.1.toNat []).length then
        (z1k fuel (((d23.2.2.2.1.getD d23.2.2.1.toNat []).getD r24.toNat (false, ([], []))).1, (((d23.2.2.2.1.getD d23.2.2.1.toNat []).getD r24.toNat (false, ([], []))).2))).bind fun r25 =>
        if decide (r25 < 0) = true then
        if (0 : Int) ≤ d23.2.2.1 then
        if d23.2.2.1 < d23.2.2.2.1.length then
        if (0 : Int) ≤ IntKind.i64.wrap (d23.2.1 + d23.2.2.1) then
        if IntKind.i64.wrap (d23.2.1 + d23.2.2.1) ≤ (d23.2.2.2.1.getD d23.2.2.1.toNat []).length then
        if (0 : Int) ≤ d23.2.1 then
        if d23.2.1 ≤ IntKind.i64.wrap (d23.2.1 + d23.2.2.1) then
        (z18 fuel 1 [] (((d23.2.2.2.1.getD d23.2.2.1.toNat []).take (IntKind.i64.wrap (d23.2.1 + d23.2.2.1)).toNat).drop d23.2.1.toNat) [] (false, ([], []))).bind fun r26 =>
        some (r26.1, r26.2)
        else none
        else none
        else none
        else none
        else none
        else none
        else
        match z0u k (IntKind.i64.wrap (d4.1 + d4.2.1)) (d23.2.2.2.2.1.length : Int) 0 d23.2.1 d23.2.2.1 d23.2.2.2.2.1 d23.2.2.2.1 with
        | none => none
        | some (.exit d27) =>
         (z1x fuel a0.2.2).bind fun r28 =>
         if (0 : Int) ≤ IntKind.i64.wrap ((IntKind.i64.wrap (d27.1 + d27.2.1)) + 2) then
         if IntKind.i64.wrap ((IntKind.i64.wrap (d27.1 + d27.2.1)) + 2) ≤ IntKind.i64.wrap ((IntKind.i64.wrap (d27.1 + d27.2.1)) + 2) then
         if (IntKind.i64.wrap ((IntKind.i64.wrap (d27.1 + d27.2.1)) + 2)) * 56 ≤ 281474976710656 then
         match z0v k (r28.length : Int) 0 (List.replicate ((IntKind.i64.wrap ((IntKind.i64.wrap (d27.1 + d27.2.1)) + 2)).toNat) ((false, ([], [])) : Bool × ((List Int) × (List Int)))) r28 with
         | none => none
         | some (.exit d29) =>
          if (0 : Int) ≤ d27.2.1 then
          if d27.2.1 ≤ d27.2.2.2.1.length then
          if ((d27.2.2.2.1.take d27.2.1.toNat).length + 1) * 24 ≤ 140737488355328 then
          match z0n k ((d27.2.2.2.1.take d27.2.1.toNat).length) (d27.2.2.1.length : Int) 0 d27.1 d27.2.1 ((d27.2.2.2.1.take d27.2.1.toNat) ++ [d29.1]) d27.2.2.1 with
          | none => none
          | some (.exit d30) =>
           match z11 k (IntKind.i64.wrap (d30.1 + d30.2.1)) d30.1 d30.2.1 d30.2.2.1 d30.2.2.2.1 with
           | none => none
           | some (.exit d31) =>
            none
           | some (.ret d31) =>
            if (0 : Int) ≤ d31.2.1 then
            if d31.2.1 ≤ d31.2.1 then
            if d31.2.1 * 56 ≤ 281474976710656 then
            match z0j k (d31.2.2.2.2.1.length : Int) 0 d31.2.1 d31.2.2.1 (List.replicate d31.2.1.toNat ((false, ([], [])) : Bool × ((List Int) × (List Int)))) d31.2.2.2.2.1 d31.2.2.2.1 with
            | none => none
            | some (.exit d32) =>
             if decide (d31.1 < 0) = true then
             if (0 : Int) ≤ d32.2.2.1 then
             if d32.2.2.1 < d32.2.2.2.2.1.length then
             if (0 : Int) ≤ IntKind.i64.wrap (d32.2.1 + d32.2.2.1) then
             if IntKind.i64.wrap (d32.2.1 + d32.2.2.1) ≤ (d32.2.2.2.2.1.getD d32.2.2.1.toNat []).length then
             if (0 : Int) ≤ d32.2.1 then
             if d32.2.1 ≤ IntKind.i64.wrap (d32.2.1 + d32.2.2.1) then
             if (0 : Int) ≤ d32.2.2.1 then
             if d32.2.2.1 < d32.2.2.2.2.1.length then
             (z1p fuel (d32.2.2.2.2.1, (d32.2.2.2.1, (d32.2.1, d32.2.2.1)))).bind fun r33 =>
             if (0 : Int) ≤ r33 then
             if r33 < (d32.2.2.2.2.1.getD d32.2.2.1.toNat []).length then
             (z18 fuel 0 d32.1 (((d32.2.2.2.2.1.getD d32.2.2.1.toNat []).take (IntKind.i64.wrap (d32.2.1 + d32.2.2.1)).toNat).drop d32.2.1.toNat) [] (((d32.2.2.2.2.1.getD d32.2.2.1.toNat []).getD r33.toNat (false, ([], []))).1, (((d32.2.2.2.2.1.getD d32.2.2.1.toNat []).getD r33.toNat (false, ([], []))).2))).bind fun r34 =>
             some (r34.1, r34.2)
             else none
             else none
             else none
             else none
             else none
             else none
             else none
             else none
             else none
             else none
             else
             if (0 : Int) ≤ d32.2.1 then
             if d32.2.1 ≤ d32.2.1 then
             if d32.2.1 * 56 ≤ 281474976710656 then
             if decide (d31.1 < d32.2.1) = true then
             (z75 fuel 1).bind fun r35 =>
             if (0 : Int) ≤ d31.1 then
             if d31.1 < (List.replicate d32.2.1.toNat ((false, ([], [])) : Bool × ((List Int) × (List Int)))).length then
             match z1n k d31.1 (d32.2.2.2.1.length : Int) 0 d32.2.1 d32.2.2.1 ((List.replicate d32.2.1.toNat ((false, ([], [])) : Bool × ((List Int) × (List Int)))).set d31.1.toNat r35) d32.2.2.2.1 d32.2.2.2.2.1 with
             | none => none
             | some (.exit d36) =>
              (z18 fuel 2 d32.1 [] d36.1 (false, ([], []))).bind fun r37 =>
              some (r37.1, r37.2)
             | some (.ret d36) =>
              none
             else none
             else none
             else
             match z1n k d31.1 (d32.2.2.2.1.length : Int) 0 d32.2.1 d32.2.2.1 (List.replicate d32.2.1.toNat ((false, ([], [])) : Bool × ((List Int) × (List Int)))) d32.2.2.2.1 d32.2.2.2.2.1 with
             | none => none
             | some (.exit d38) =>
              (z18 fuel 2 d32.1 [] d38.1 (false, ([], []))).bind fun r39 =>
              some (r39.1, r39.2)
             | some (.ret d38) =>
              none
             else none
             else none
             else none
            | some (.ret d32) =>
             none
            else none
            else none
            else none
          | some (.ret d30) =>
           none
          else none
          else none
          else none
         | some (.ret d29) =>
          none
         else none
         else none
         else none
        | some (.ret d27) =>
         none
        else none
        else none
        else none
        else none
       else none
       else none
      | some (.ret d22) =>
       none
     | some (.ret d21) =>
      none
     else none
     else none
     else none
     else none
     else none
     else none
    | some (.ret d20) =>
     none
    else none
    else none
    else none
   | some (.ret d19) =>
    none
   else none
   else none
   else none
   else none
   else none
   else none
   else none
   else none
  | some (.ret d5) =>
   none
 | some (.ret d4) =>
  none
theorem z8d (m : Nat) (d : dens l_simplex_start__simplex_Solve_4H.tys) : l_simplex_start__simplex_Solve_4L.f (m + 1) d = round z0q z0l m [29, 9] 110 (z2w (z1j Tryd.f29) 0) l_simplex_start__simplex_Solve_4L (l_simplex_start__simplex_Solve_4L.f m) d := by kernel_rfl
theorem z63 (m : Nat) (d : dens l_simplex_table_feasible__simplex_Solve_3H.tys) : l_simplex_table_feasible__simplex_Solve_3L.f (m + 1) d = round z0q z0l m [30, 9] 134 (z2w (z1j Tryd.f30) 0) l_simplex_table_feasible__simplex_Solve_3L (l_simplex_table_feasible__simplex_Solve_3L.f m) d := by kernel_rfl
theorem z6k (m : Nat) (d : dens l_simplex_table_goal__simplex_Solve_2H.tys) : l_simplex_table_goal__simplex_Solve_2L.f (m + 1) d = round z0q z0l m [32, 9] 94 (z2w (z1j Tryd.f32) 0) l_simplex_table_goal__simplex_Solve_2L (l_simplex_table_goal__simplex_Solve_2L.f m) d := by kernel_rfl
theorem z6f (m : Nat) (d : dens l_simplex_table_goal__simplex_Solve_13H.tys) : l_simplex_table_goal__simplex_Solve_13L.f (m + 1) d = round z0q z0l m [32, 9] 94 (z2w (z1j Tryd.f32) 2) l_simplex_table_goal__simplex_Solve_13L (l_simplex_table_goal__simplex_Solve_13L.f m) d := by kernel_rfl
theorem z6l (m : Nat) (d : dens l_simplex_table_goal__simplex_Solve_8H.tys) : l_simplex_table_goal__simplex_Solve_8L.f (m + 1) d = round z0q z0l m [32, 9] 94 (z2w (z1j Tryd.f32) 1) l_simplex_table_goal__simplex_Solve_8L (l_simplex_table_goal__simplex_Solve_8L.f m) d := by kernel_rfl
theorem z6v (m : Nat) (d : dens l_simplex_table_run__simplex_Solve_2H.tys) : l_simplex_table_run__simplex_Solve_2L.f (m + 1) d = round z0q z0l m [34, 9] 42 (z2w (z1j Tryd.f34) 1) l_simplex_table_run__simplex_Solve_2L (l_simplex_table_run__simplex_Solve_2L.f m) d := by kernel_rfl
theorem z3s (m : Nat) (d : dens l_simplex_table_pivot__simplex_table_run__simplex_Solve_2H.tys) : l_simplex_table_pivot__simplex_table_run__simplex_Solve_2L.f (m + 1) d = round z0q z0l m [62, 34, 9] 132 (z2w (z1j Tryd.f62) 0) l_simplex_table_pivot__simplex_table_run__simplex_Solve_2L (l_simplex_table_pivot__simplex_table_run__simplex_Solve_2L.f m) d := by kernel_rfl
theorem z3p (m : Nat) (d : dens l_simplex_table_pivot__simplex_table_run__simplex_Solve_12H.tys) : l_simplex_table_pivot__simplex_table_run__simplex_Solve_12L.f (m + 1) d = round z0q z0l m [62, 34, 9] 132 (z2w (z1j Tryd.f62) 2) l_simplex_table_pivot__simplex_table_run__simplex_Solve_12L (l_simplex_table_pivot__simplex_table_run__simplex_Solve_12L.f m) d := by kernel_rfl
theorem z3t (m : Nat) (d : dens l_simplex_table_pivot__simplex_table_run__simplex_Solve_7H.tys) : l_simplex_table_pivot__simplex_table_run__simplex_Solve_7L.f (m + 1) d = round z0q z0l m [62, 34, 9] 132 (z2w (z1j Tryd.f62) 1) l_simplex_table_pivot__simplex_table_run__simplex_Solve_7L (l_simplex_table_pivot__simplex_table_run__simplex_Solve_7L.f m) d := by kernel_rfl
theorem z6u (m : Nat) (d : dens l_simplex_table_run__simplex_Solve_1H.tys) : l_simplex_table_run__simplex_Solve_1L.f (m + 1) d = round z0q z0l m [34, 9] 42 (z2w (z1j Tryd.f34) 0) l_simplex_table_run__simplex_Solve_1L (l_simplex_table_run__simplex_Solve_1L.f m) d := by kernel_rfl
theorem z64 (m : Nat) (d : dens l_simplex_table_solution__simplex_Solve_3H.tys) : l_simplex_table_solution__simplex_Solve_3L.f (m + 1) d = round z0q z0l m [35, 9] 43 (z2w (z1j Tryd.f35) 0) l_simplex_table_solution__simplex_Solve_3L (l_simplex_table_solution__simplex_Solve_3L.f m) d := by kernel_rfl
theorem zu9 (m : Nat) (d : dens l_simplex_Solve_16H.tys) : l_simplex_Solve_16L.f (m + 1) d = round z0q z0l m [9] 164 (z2w (z1j Tryd.f9) 0) l_simplex_Solve_16L (l_simplex_Solve_16L.f m) d := by kernel_rfl
theorem z3h (m : Nat) (d : dens l_simplex_table_goal__simplex_table_feasible__simplex_Solve_2H.tys) : l_simplex_table_goal__simplex_table_feasible__simplex_Solve_2L.f (m + 1) d = round z0q z0l m [32, 30, 9] 94 (z2w (z1j Tryd.f32) 0) l_simplex_table_goal__simplex_table_feasible__simplex_Solve_2L (l_simplex_table_goal__simplex_table_feasible__simplex_Solve_2L.f m) d := by kernel_rfl
theorem z3d (m : Nat) (d : dens l_simplex_table_goal__simplex_table_feasible__simplex_Solve_13H.tys) : l_simplex_table_goal__simplex_table_feasible__simplex_Solve_13L.f (m + 1) d = round z0q z0l m [32, 30, 9] 94 (z2w (z1j Tryd.f32) 2) l_simplex_table_goal__simplex_table_feasible__simplex_Solve_13L (l_simplex_table_goal__simplex_table_feasible__simplex_Solve_13L.f m) d := by kernel_rfl
theorem z3i (m : Nat) (d : dens l_simplex_table_goal__simplex_table_feasible__simplex_Solve_8H.tys) : l_simplex_table_goal__simplex_table_feasible__simplex_Solve_8L.f (m + 1) d = round z0q z0l m [32, 30, 9] 94 (z2w (z1j Tryd.f32) 1) l_simplex_table_goal__simplex_table_feasible__simplex_Solve_8L (l_simplex_table_goal__simplex_table_feasible__simplex_Solve_8L.f m) d := by kernel_rfl
theorem z3e (m : Nat) (d : dens l_simplex_table_pivot__simplex_table_feasible__simplex_Solve_2H.tys) : l_simplex_table_pivot__simplex_table_feasible__simplex_Solve_2L.f (m + 1) d = round z0q z0l m [62, 30, 9] 132 (z2w (z1j Tryd.f62) 0) l_simplex_table_pivot__simplex_table_feasible__simplex_Solve_2L (l_simplex_table_pivot__simplex_table_feasible__simplex_Solve_2L.f m) d := by kernel_rfl
theorem z3c (m : Nat) (d : dens l_simplex_table_pivot__simplex_table_feasible__simplex_Solve_12H.tys) : l_simplex_table_pivot__simplex_table_feasible__simplex_Solve_12L.f (m + 1) d = round z0q z0l m [62, 30, 9] 132 (z2w (z1j Tryd.f62) 2) l_simplex_table_pivot__simplex_table_feasible__simplex_Solve_12L (l_simplex_table_pivot__simplex_table_feasible__simplex_Solve_12L.f m) d := by kernel_rfl
theorem z3f (m : Nat) (d : dens l_simplex_table_pivot__simplex_table_feasible__simplex_Solve_7H.tys) : l_simplex_table_pivot__simplex_table_feasible__simplex_Solve_7L.f (m + 1) d = round z0q z0l m [62, 30, 9] 132 (z2w (z1j Tryd.f62) 1) l_simplex_table_pivot__simplex_table_feasible__simplex_Solve_7L (l_simplex_table_pivot__simplex_table_feasible__simplex_Solve_7L.f m) d := by kernel_rfl
theorem z3k (m : Nat) (d : dens l_simplex_table_run__simplex_table_feasible__simplex_Solve_2H.tys) : l_simplex_table_run__simplex_table_feasible__simplex_Solve_2L.f (m + 1) d = round z0q z0l m [34, 30, 9] 42 (z2w (z1j Tryd.f34) 1) l_simplex_table_run__simplex_table_feasible__simplex_Solve_2L (l_simplex_table_run__simplex_table_feasible__simplex_Solve_2L.f m) d := by kernel_rfl
theorem z2h (m : Nat) (d : dens l_simplex_table_pivot__simplex_table_run__simplex_table_feasible__simplex_Solve_2H.tys) : l_simplex_table_pivot__simplex_table_run__simplex_table_feasible__simplex_Solve_2L.f (m + 1) d = round z0q z0l m [62, 34, 30, 9] 132 (z2w (z1j Tryd.f62) 0) l_simplex_table_pivot__simplex_table_run__simplex_table_feasible__simplex_Solve_2L (l_simplex_table_pivot__simplex_table_run__simplex_table_feasible__simplex_Solve_2L.f m) d := by kernel_rfl
theorem z2g (m : Nat) (d : dens l_simplex_table_pivot__simplex_table_run__simplex_table_feasible__simplex_Solve_12H.tys) : l_simplex_table_pivot__simplex_table_run__simplex_table_feasible__simplex_Solve_12L.f (m + 1) d = round z0q z0l m [62, 34, 30, 9] 132 (z2w (z1j Tryd.f62) 2) l_simplex_table_pivot__simplex_table_run__simplex_table_feasible__simplex_Solve_12L (l_simplex_table_pivot__simplex_table_run__simplex_table_feasible__simplex_Solve_12L.f m) d := by kernel_rfl
theorem z2i (m : Nat) (d : dens l_simplex_table_pivot__simplex_table_run__simplex_table_feasible__simplex_Solve_7H.tys) : l_simplex_table_pivot__simplex_table_run__simplex_table_feasible__simplex_Solve_7L.f (m + 1) d = round z0q z0l m [62, 34, 30, 9] 132 (z2w (z1j Tryd.f62) 1) l_simplex_table_pivot__simplex_table_run__simplex_table_feasible__simplex_Solve_7L (l_simplex_table_pivot__simplex_table_run__simplex_table_feasible__simplex_Solve_7L.f m) d := by kernel_rfl
theorem z3j (m : Nat) (d : dens l_simplex_table_run__simplex_table_feasible__simplex_Solve_1H.tys) : l_simplex_table_run__simplex_table_feasible__simplex_Solve_1L.f (m + 1) d = round z0q z0l m [34, 30, 9] 42 (z2w (z1j Tryd.f34) 0) l_simplex_table_run__simplex_table_feasible__simplex_Solve_1L (l_simplex_table_run__simplex_table_feasible__simplex_Solve_1L.f m) d := by kernel_rfl
theorem z62 (m : Nat) (d : dens l_simplex_table_feasible__simplex_Solve_23H.tys) : l_simplex_table_feasible__simplex_Solve_23L.f (m + 1) d = round z0q z0l m [30, 9] 134 (z2w (z1j Tryd.f30) 2) l_simplex_table_feasible__simplex_Solve_23L (l_simplex_table_feasible__simplex_Solve_23L.f m) d := by kernel_rfl
theorem z61 (m : Nat) (d : dens l_simplex_table_feasible__simplex_Solve_19H.tys) : l_simplex_table_feasible__simplex_Solve_19L.f (m + 1) d = round z0q z0l m [30, 9] 134 (z2w (z1j Tryd.f30) 1) l_simplex_table_feasible__simplex_Solve_19L (l_simplex_table_feasible__simplex_Solve_19L.f m) d := by kernel_rfl
def zw6 (k : Nat) : Vm.Spec := { ps := [.pair (.slice (.slice .str)) (.pair (.slice .str) (.slice .str))], rs := [.imm (.pair (.int .i64) (.pair (.slice .str) (.pair (.slice .str) (.pair (.slice .str) .str)))), .imm (.int .i64)], f := fun x => z4c k x }
noncomputable def zj0 : Vm.Spec := zw6 fuel
theorem zd5 : Vm.Spec.holds Tryd.prog 9 zj0 := z16 (E := z0q) (L := z0l) (fn := Tryd.f9) (Z := zw6) (z1u ok) (z0s (by exact ⟨⟨by kernel_rfl, z77⟩, ⟨by kernel_rfl, zy3⟩, ⟨by kernel_rfl, z5k⟩, ⟨by kernel_rfl, z7y⟩, ⟨by kernel_rfl, y8y⟩, ⟨by kernel_rfl, zq6⟩, ⟨by kernel_rfl, za4⟩, ⟨by kernel_rfl, z7k⟩, ⟨by kernel_rfl, z38⟩, ⟨by kernel_rfl, z7m⟩, ⟨by kernel_rfl, z7l⟩, ⟨by kernel_rfl, zf4⟩, ⟨by kernel_rfl, zq7⟩, trivial⟩)) z17 (zd1 (by exact ⟨by kernel_rfl, by kernel_rfl, by kernel_rfl, by kernel_rfl, by kernel_rfl, by kernel_rfl, by kernel_rfl, by kernel_rfl, by kernel_rfl, by kernel_rfl, by kernel_rfl, by kernel_rfl, trivial⟩)) (z4z (by exact ⟨(z2x [[9]] (by exact ⟨z0o (ls := [(4, l_simplex_start__simplex_Solve_4L)]) rfl rfl ⟨by kernel_rfl, fun _ => rfl, z8d, z0p (by kernel_rfl)⟩,  trivial⟩) rfl), (z2x [[9]] (by exact ⟨z0o (ls := [(3, l_simplex_table_feasible__simplex_Solve_3L), (19, l_simplex_table_feasible__simplex_Solve_19L), (23, l_simplex_table_feasible__simplex_Solve_23L)]) rfl rfl ⟨by kernel_rfl, fun _ => rfl, z63, by kernel_rfl, fun _ => rfl, z61, by kernel_rfl, fun _ => rfl, z62, z0p (by kernel_rfl)⟩,  trivial⟩) rfl), (z2x [[9], [30, 9]] (by exact ⟨z0o (ls := [(2, l_simplex_table_goal__simplex_Solve_2L), (8, l_simplex_table_goal__simplex_Solve_8L), (13, l_simplex_table_goal__simplex_Solve_13L)]) rfl rfl ⟨by kernel_rfl, fun _ => rfl, z6k, by kernel_rfl, fun _ => rfl, z6l, by kernel_rfl, fun _ => rfl, z6f, z0p (by kernel_rfl)⟩, z0o (ls := [(2, l_simplex_table_goal__simplex_table_feasible__simplex_Solve_2L), (8, l_simplex_table_goal__simplex_table_feasible__simplex_Solve_8L), (13, l_simplex_table_goal__simplex_table_feasible__simplex_Solve_13L)]) rfl rfl ⟨by kernel_rfl, fun _ => rfl, z3h, by kernel_rfl, fun _ => rfl, z3i, by kernel_rfl, fun _ => rfl, z3d, z0p (by kernel_rfl)⟩,  trivial⟩) rfl), (z2x [[9], [30, 9]] (by exact ⟨z0o (ls := [(1, l_simplex_table_run__simplex_Solve_1L), (2, l_simplex_table_run__simplex_Solve_2L)]) rfl rfl ⟨by kernel_rfl, fun _ => rfl, z6u, by kernel_rfl, fun _ => rfl, z6v, z0p (by kernel_rfl)⟩, z0o (ls := [(1, l_simplex_table_run__simplex_table_feasible__simplex_Solve_1L), (2, l_simplex_table_run__simplex_table_feasible__simplex_Solve_2L)]) rfl rfl ⟨by kernel_rfl, fun _ => rfl, z3j, by kernel_rfl, fun _ => rfl, z3k, z0p (by kernel_rfl)⟩,  trivial⟩) rfl), (z2x [[9]] (by exact ⟨z0o (ls := [(3, l_simplex_table_solution__simplex_Solve_3L)]) rfl rfl ⟨by kernel_rfl, fun _ => rfl, z64, z0p (by kernel_rfl)⟩,  trivial⟩) rfl), (z2x [[34, 9], [30, 9], [34, 30, 9]] (by exact ⟨z0o (ls := [(2, l_simplex_table_pivot__simplex_table_run__simplex_Solve_2L), (7, l_simplex_table_pivot__simplex_table_run__simplex_Solve_7L), (12, l_simplex_table_pivot__simplex_table_run__simplex_Solve_12L)]) rfl rfl ⟨by kernel_rfl, fun _ => rfl, z3s, by kernel_rfl, fun _ => rfl, z3t, by kernel_rfl, fun _ => rfl, z3p, z0p (by kernel_rfl)⟩, z0o (ls := [(2, l_simplex_table_pivot__simplex_table_feasible__simplex_Solve_2L), (7, l_simplex_table_pivot__simplex_table_feasible__simplex_Solve_7L), (12, l_simplex_table_pivot__simplex_table_feasible__simplex_Solve_12L)]) rfl rfl ⟨by kernel_rfl, fun _ => rfl, z3e, by kernel_rfl, fun _ => rfl, z3f, by kernel_rfl, fun _ => rfl, z3c, z0p (by kernel_rfl)⟩, z0o (ls := [(2, l_simplex_table_pivot__simplex_table_run__simplex_table_feasible__simplex_Solve_2L), (7, l_simplex_table_pivot__simplex_table_run__simplex_table_feasible__simplex_Solve_7L), (12, l_simplex_table_pivot__simplex_table_run__simplex_table_feasible__simplex_Solve_12L)]) rfl rfl ⟨by kernel_rfl, fun _ => rfl, z2h, by kernel_rfl, fun _ => rfl, z2i, by kernel_rfl, fun _ => rfl, z2g, z0p (by kernel_rfl)⟩,  trivial⟩) rfl),  trivial⟩)) (by kernel_rfl) (by kernel_rfl) (z0o (ls := [(16, l_simplex_Solve_16L)]) rfl rfl ⟨by kernel_rfl, fun _ => rfl, zu9, z0p (by kernel_rfl)⟩) fun k x => by kernel_rfl
noncomputable def zz2 : Env := { te := te, spec := [(19, z41), (52, zt5)], body := [] }
def l_simplex_shape_2H : Ann := { slots := [(18, .one (.own 72 (.slice .str))), (19, .one (.val (.int .i64))), (20, .one (.val (.int .i64)))], objs := [(72, .buf (.slice .str))] }
def zn7 : Ann := { slots := [], objs := [(72, .buf (.slice .str))] }
def zn6 : Ann := { slots := [(4, .one (.val (.int .i64)))], objs := [(72, .buf (.slice .str))] }
def zb2 : Nat → Int → Int → List (List ByteArray) → Option (LR zn7 zn6)
 | 0, _, _, _ => none
 | m + 1, s19, s20, b72 =>
  if decide (s20 < s19) = true then
  if (0 : Int) ≤ s20 then
  if s20 < b72.length then
  (z15 fuel (b72.getD s20.toNat [])).bind fun r1 =>
  if (r1 != 0) = true then
  some (.ret (r1, b72, ()))
  else
  zb2 m s19 (IntKind.i64.wrap (s20 + 1)) b72
  else none
  else none
  else
  some (.exit (b72, ()))
def l_simplex_shape_2L : LSpec := { h := l_simplex_shape_2H, x := zn7, r := zn6, xid := 0, rt := true, pins := [72], f := fun k d => zb2 k d.1 d.2.1 d.2.2.1 }
def zw0 : z29 := [([41], [(2, l_simplex_shape_2L)])]
def y0d (k : Nat) (a0 : (List (List ByteArray)) × ((List ByteArray) × (List ByteArray))) (a1 : Int × ((List ByteArray) × ((List ByteArray) × ((List ByteArray) × ByteArray)))) : Option (Int) :=
 match zb2 k 3 0 [a1.2.1, a1.2.2.1, a1.2.2.2.1] with
 | none => none
 | some (.exit d1) =>
  if decide (a1.1 < 0) = false then
  if decide (a1.1 > 2) = true then
  some 1
  else
  if (0 : Int) ≤ a1.1 then
  if a1.1 < 3 then
  if ((a1.2.1.length : Int) != ([[(a0.2.2.length : Int), (a0.1.length : Int), 0], [0, (a0.1.length : Int), 0], [(a0.2.2.length : Int), 0, (a0.2.2.length : Int)]].getD a1.1.toNat (List.replicate 3 0)).getD 0 0) = false then
  if ((a1.2.2.1.length : Int) != ([[(a0.2.2.length : Int), (a0.1.length : Int), 0], [0, (a0.1.length : Int), 0], [(a0.2.2.length : Int), 0, (a0.2.2.length : Int)]].getD a1.1.toNat (List.replicate 3 0)).getD 1 0) = false then
  if ((a1.2.2.2.1.length : Int) != ([[(a0.2.2.length : Int), (a0.1.length : Int), 0], [0, (a0.1.length : Int), 0], [(a0.2.2.length : Int), 0, (a0.2.2.length : Int)]].getD a1.1.toNat (List.replicate 3 0)).getD 2 0) = true then
  some 3
  else
  if (a1.1 == 0) = true then
  (z74 fuel a1.2.2.2.2).bind fun r2 =>
  some r2
  else
  if (!(a1.2.2.2.2.toList == (⟨#[]⟩ : ByteArray).toList)) = true then
  some 3
  else
  some 0
  else
  some 3
  else
  some 3
  else none
  else none
  else
  some 1
 | some (.ret d1) =>
  some d1.1
theorem zy8 (m : Nat) (d : dens l_simplex_shape_2H.tys) : l_simplex_shape_2L.f (m + 1) d = round zz2 zw0 m [41] 88 (z2w (z1j Tryd.f41) 0) l_simplex_shape_2L (l_simplex_shape_2L.f m) d := by kernel_rfl
def zw9 (k : Nat) : Vm.Spec := { ps := [.pair (.slice (.slice .str)) (.pair (.slice .str) (.slice .str)), .pair (.int .i64) (.pair (.slice .str) (.pair (.slice .str) (.pair (.slice .str) .str)))], rs := [.imm (.int .i64)], f := fun x => y0d k x.1 x.2 }
noncomputable def y03 : Vm.Spec := zw9 fuel
theorem y0e : Vm.Spec.holds Tryd.prog 41 y03 := z16 (E := zz2) (L := zw0) (fn := Tryd.f41) (Z := zw9) (z1u ok) (z0s (by exact ⟨⟨by kernel_rfl, z32⟩, ⟨by kernel_rfl, za6⟩, trivial⟩)) z17 (z0a rfl) (z01 rfl) (by kernel_rfl) (by kernel_rfl) (z0o (ls := [(2, l_simplex_shape_2L)]) rfl rfl ⟨by kernel_rfl, fun _ => rfl, zy8, z0p (by kernel_rfl)⟩) fun k x => by kernel_rfl
noncomputable def zl8 : Env := { te := te, spec := [(49, z5g)], body := [] }
def l_simplex_negative_2H : Ann := { slots := [(5, .one (.val (.slice qT))), (6, .one (.val (.int .i64))), (7, .one (.val (.int .i64)))], objs := [] }
def ze2 : Ann := { slots := [], objs := [] }
def ze1 : Ann := { slots := [(2, .one (.val .bool))], objs := [] }
def z8c : Nat → List (Bool × ((List Int) × (List Int))) → Int → Int → Option (LR ze2 ze1)
 | 0, _, _, _ => none
 | m + 1, s5, s6, s7 =>
  if decide (s7 < s6) = true then
  if (0 : Int) ≤ s7 then
  if s7 < s5.length then
  (z1k fuel ((s5.getD s7.toNat (false, ([], []))).1, ((s5.getD s7.toNat (false, ([], []))).2))).bind fun r1 =>
  if decide (r1 < 0) = true then
  some (.ret (true, ()))
  else
  z8c m s5 s6 (IntKind.i64.wrap (s7 + 1))
  else none
  else none
  else
  some (.exit ())
def l_simplex_negative_2L : LSpec := { h := l_simplex_negative_2H, x := ze2, r := ze1, xid := 0, rt := true, pins := [], f := fun k d => z8c k d.1 d.2.1 d.2.2.1 }
def zi3 : z29 := [([43], [(2, l_simplex_negative_2L)])]
def z6x (k : Nat) (a0 : List (Bool × ((List Int) × (List Int)))) : Option (Bool) :=
 match z8c k a0 (a0.length : Int) 0 with
 | none => none
 | some (.exit d1) =>
  some false
 | some (.ret d1) =>
  some d1.1
theorem zo8 (m : Nat) (d : dens l_simplex_negative_2H.tys) : l_simplex_negative_2L.f (m + 1) d = round zl8 zi3 m [43] 15 (z2w (z1j Tryd.f43) 0) l_simplex_negative_2L (l_simplex_negative_2L.f m) d := by kernel_rfl
def zj1 (k : Nat) : Vm.Spec := { ps := [.slice qT], rs := [.imm .bool], f := fun x => z6x k x }
noncomputable def zm0 : Vm.Spec := zj1 fuel
theorem zq8 : Vm.Spec.holds Tryd.prog 43 zm0 := z16 (E := zl8) (L := zi3) (fn := Tryd.f43) (Z := zj1) (z1u ok) (z0s (by exact ⟨⟨by kernel_rfl, z38⟩, trivial⟩)) z17 (z0a rfl) (z01 rfl) (by kernel_rfl) (by kernel_rfl) (z0o (ls := [(2, l_simplex_negative_2L)]) rfl rfl ⟨by kernel_rfl, fun _ => rfl, zo8, z0p (by kernel_rfl)⟩) fun k x => by kernel_rfl
noncomputable def zv8 : Env := { te := te, spec := [(55, zi6), (64, zi8)], body := [] }
def l_simplex_scalar_3H : Ann := { slots := [(1, .one (.val (.slice qT))), (5, .one (.fix (.pbox 20 0))), (8, .one (.val (.slice qT))), (9, .one (.val (.int .i64))), (10, .one (.val (.int .i64)))], objs := [(20, .box [.val .bool, .val (.slice (.int .u32)), .val (.slice (.int .u32))])] }
def zk9 : Ann := { slots := [(5, .one (.fix (.pbox 20 0)))], objs := [(20, .box [.val .bool, .val (.slice (.int .u32)), .val (.slice (.int .u32))])] }
def zk8 : Ann := { slots := [], objs := [] }
def z9s : Nat → List (Bool × ((List Int) × (List Int))) → List (Bool × ((List Int) × (List Int))) → Int → Int → Bool → List Int → List Int → Option (LR zk9 zk8)
 | 0, _, _, _, _, _, _, _ => none
 | m + 1, s1, s8, s9, s10, b20_0, b20_1, b20_2 =>
  if decide (s10 < s9) = true then
  if (0 : Int) ≤ s10 then
  if s10 < s8.length then
  if (0 : Int) ≤ s10 then
  if s10 < s1.length then
  (z36 fuel ((s8.getD s10.toNat (false, ([], []))).1, ((s8.getD s10.toNat (false, ([], []))).2)) ((s1.getD s10.toNat (false, ([], []))).1, ((s1.getD s10.toNat (false, ([], []))).2))).bind fun r1 =>
  (z76 fuel (b20_0, (b20_1, b20_2)) r1).bind fun r2 =>
  z9s m s1 s8 s9 (IntKind.i64.wrap (s10 + 1)) r2.1 r2.2.1 r2.2.2
  else none
  else none
  else none
  else none
  else
  some (.exit (b20_0, b20_1, b20_2, ()))
def l_simplex_scalar_3L : LSpec := { h := l_simplex_scalar_3H, x := zk9, r := zk8, xid := 0, rt := false, pins := [20], f := fun k d => z9s k d.1 d.2.1 d.2.2.1 d.2.2.2.1 d.2.2.2.2.1 d.2.2.2.2.2.1 d.2.2.2.2.2.2.1 }
def zp3 : z29 := [([47], [(3, l_simplex_scalar_3L)])]
def z5e (k : Nat) (a0 : List (Bool × ((List Int) × (List Int)))) (a1 : List (Bool × ((List Int) × (List Int)))) : Option (Bool × ((List Int) × (List Int))) :=
 match z9s k a1 a0 (a0.length : Int) 0 false [] [] with
 | none => none
 | some (.exit d1) =>
  some (d1.1, (d1.2.1, d1.2.2.1))
 | some (.ret d1) =>
  none
theorem zv0 (m : Nat) (d : dens l_simplex_scalar_3H.tys) : l_simplex_scalar_3L.f (m + 1) d = round zv8 zp3 m [47] 25 (z2w (z1j Tryd.f47) 0) l_simplex_scalar_3L (l_simplex_scalar_3L.f m) d := by kernel_rfl
def zq0 (k : Nat) : Vm.Spec := { ps := [.slice qT, .slice qT], rs := [.imm qT], f := fun x => z5e k x.1 x.2 }
noncomputable def ze9 : Vm.Spec := zq0 fuel
theorem za1 : Vm.Spec.holds Tryd.prog 47 ze9 := z16 (E := zv8) (L := zp3) (fn := Tryd.f47) (Z := zq0) (z1u ok) (z0s (by exact ⟨⟨by kernel_rfl, z7j⟩, ⟨by kernel_rfl, z7l⟩, trivial⟩)) z17 (z0a rfl) (z01 rfl) (by kernel_rfl) (by kernel_rfl) (z0o (ls := [(3, l_simplex_scalar_3L)]) rfl rfl ⟨by kernel_rfl, fun _ => rfl, zv0, z0p (by kernel_rfl)⟩) fun k x => by kernel_rfl
noncomputable def zz1 : Env := { te := te, spec := [(47, ze9), (49, z5g), (63, zi9)], body := [] }
def l_simplex_below_2H : Ann := { slots := [(1, .one (.val (.slice qT))), (2, .one (.val (.nsl qT))), (10, .one (.val (.slice (.slice qT)))), (11, .one (.val (.int .i64))), (12, .one (.val (.int .i64)))], objs := [] }
def zn5 : Ann := { slots := [], objs := [] }
def zn4 : Ann := { slots := [(6, .one (.val .bool))], objs := [] }
def z7u : Nat → List (Bool × ((List Int) × (List Int))) → Option (List (Bool × ((List Int) × (List Int)))) → List (List (Bool × ((List Int) × (List Int)))) → Int → Int → Option (LR zn5 zn4)
 | 0, _, _, _, _, _ => none
 | m + 1, s1, s2, s10, s11, s12 =>
  if decide (s12 < s11) = true then
  if (0 : Int) ≤ s12 then
  if s12 < s10.length then
  (z5e fuel (s10.getD s12.toNat []) s1).bind fun r1 =>
  if (!(s2.isNone)) = true then
  if (0 : Int) ≤ s12 then
  if s12 < (s2.getD []).length then
  (z58 fuel r1 (((s2.getD []).getD s12.toNat (false, ([], []))).1, (((s2.getD []).getD s12.toNat (false, ([], []))).2))).bind fun r2 =>
  (z1k fuel r2).bind fun r3 =>
  if decide (r3 > 0) = true then
  some (.ret (false, ()))
  else
  z7u m s1 s2 s10 s11 (IntKind.i64.wrap (s12 + 1))
  else none
  else none
  else
  (z1k fuel r1).bind fun r4 =>
  if decide (r4 > 0) = true then
  some (.ret (false, ()))
  else
  z7u m s1 s2 s10 s11 (IntKind.i64.wrap (s12 + 1))
  else none
  else none
  else
  some (.exit ())
def l_simplex_below_2L : LSpec := { h := l_simplex_below_2H, x := zn5, r := zn4, xid := 0, rt := true, pins := [], f := fun k d => z7u k d.1 d.2.1 d.2.2.1 d.2.2.2.1 d.2.2.2.2.1 }
def zv9 : z29 := [([45], [(2, l_simplex_below_2L)])]
def z9o (k : Nat) (a0 : List (List (Bool × ((List Int) × (List Int))))) (a1 : List (Bool × ((List Int) × (List Int)))) (a2 : Option (List (Bool × ((List Int) × (List Int))))) : Option (Bool) :=
 match z7u k a1 a2 a0 (a0.length : Int) 0 with
 | none => none
 | some (.exit d1) =>
  some true
 | some (.ret d1) =>
  some d1.1
theorem zy7 (m : Nat) (d : dens l_simplex_below_2H.tys) : l_simplex_below_2L.f (m + 1) d = round zz1 zv9 m [45] 32 (z2w (z1j Tryd.f45) 0) l_simplex_below_2L (l_simplex_below_2L.f m) d := by kernel_rfl
def zw8 (k : Nat) : Vm.Spec := { ps := [.slice (.slice qT), .slice qT, .nsl qT], rs := [.imm .bool], f := fun x => z9o k x.1 x.2.1 x.2.2 }
noncomputable def y02 : Vm.Spec := zw8 fuel
theorem zd7 : Vm.Spec.holds Tryd.prog 45 y02 := z16 (E := zz1) (L := zv9) (fn := Tryd.f45) (Z := zw8) (z1u ok) (z0s (by exact ⟨⟨by kernel_rfl, za1⟩, ⟨by kernel_rfl, z38⟩, ⟨by kernel_rfl, z7m⟩, trivial⟩)) z17 (z0a rfl) (z01 rfl) (by kernel_rfl) (by kernel_rfl) (z0o (ls := [(2, l_simplex_below_2L)]) rfl rfl ⟨by kernel_rfl, fun _ => rfl, zy7, z0p (by kernel_rfl)⟩) fun k x => by kernel_rfl
def zf3 (x0 : List (List (Bool × ((List Int) × (List Int))))) (x1 : List (Bool × ((List Int) × (List Int)))) (x2 : List (Bool × ((List Int) × (List Int)))) : Option (Bool) := (z9o fuel x0 x1 (some x2)).bind fun r => if x2.isEmpty then (if z9o fuel x0 x1 none = some r then some r else none) else some r
noncomputable def zw3 : Vm.Spec := { ps := [.slice (.slice qT), .slice qT, .slice qT], rs := [.imm .bool], f := fun x => zf3 x.1 x.2.1 x.2.2 }
theorem zy2 : Vm.Spec.holds Tryd.prog 45 zw3 := yw5 zd7
noncomputable def zi2 : Env := { te := te, spec := [(49, z5g), (55, zi6), (63, zi9), (64, zi8)], body := [] }
def l_simplex_above_6H : Ann := { slots := [(1, .one (.val (.slice qT))), (9, .one (.val (.int .i64))), (10, .one (.fix (.pbox 40 0))), (17, .one (.val (.slice (.slice qT)))), (18, .one (.val (.int .i64))), (19, .one (.val (.int .i64)))], objs := [(40, .box [.val .bool, .val (.slice (.int .u32)), .val (.slice (.int .u32))])] }
def zn3 : Ann := { slots := [(10, .one (.fix (.pbox 40 0)))], objs := [(40, .box [.val .bool, .val (.slice (.int .u32)), .val (.slice (.int .u32))])] }
def zn2 : Ann := { slots := [], objs := [] }
def l_simplex_above_2H : Ann := { slots := [(0, .one (.val (.slice (.slice qT)))), (1, .one (.val (.slice qT))), (2, .one (.val (.nsl qT))), (13, .one (.val (.int .i64))), (14, .one (.val (.int .i64)))], objs := [] }
def zn1 : Ann := { slots := [], objs := [] }
def zn0 : Ann := { slots := [(8, .one (.val .bool))], objs := [] }
def zb1 : Nat → List (Bool × ((List Int) × (List Int))) → Int → List (List (Bool × ((List Int) × (List Int)))) → Int → Int → Bool → List Int → List Int → Option (LR zn3 zn2)
 | 0, _, _, _, _, _, _, _, _ => none
 | m + 1, s1, s9, s17, s18, s19, b40_0, b40_1, b40_2 =>
  if decide (s19 < s18) = true then
  if (0 : Int) ≤ s19 then
  if s19 < s17.length then
  if (0 : Int) ≤ s19 then
  if s19 < s1.length then
  if (0 : Int) ≤ s9 then
  if s9 < (s17.getD s19.toNat []).length then
  (z36 fuel ((s1.getD s19.toNat (false, ([], []))).1, ((s1.getD s19.toNat (false, ([], []))).2)) (((s17.getD s19.toNat []).getD s9.toNat (false, ([], []))).1, (((s17.getD s19.toNat []).getD s9.toNat (false, ([], []))).2))).bind fun r1 =>
  (z76 fuel (b40_0, (b40_1, b40_2)) r1).bind fun r2 =>
  zb1 m s1 s9 s17 s18 (IntKind.i64.wrap (s19 + 1)) r2.1 r2.2.1 r2.2.2
  else none
  else none
  else none
  else none
  else none
  else none
  else
  some (.exit (b40_0, b40_1, b40_2, ()))
def l_simplex_above_6L : LSpec := { h := l_simplex_above_6H, x := zn3, r := zn2, xid := 2, rt := false, pins := [40], f := fun k d => zb1 k d.1 d.2.1 d.2.2.1 d.2.2.2.1 d.2.2.2.2.1 d.2.2.2.2.2.1 d.2.2.2.2.2.2.1 d.2.2.2.2.2.2.2.1 }
def z7t : Nat → List (List (Bool × ((List Int) × (List Int)))) → List (Bool × ((List Int) × (List Int))) → Option (List (Bool × ((List Int) × (List Int)))) → Int → Int → Option (LR zn1 zn0)
 | 0, _, _, _, _, _ => none
 | m + 1, s0, s1, s2, s13, s14 =>
  if decide (s14 < s13) = true then
  match zb1 m s1 s14 s0 (s0.length : Int) 0 false [] [] with
  | none => none
  | some (.exit d1) =>
   if (!(s2.isNone)) = true then
   if (0 : Int) ≤ s14 then
   if s14 < (s2.getD []).length then
   (z58 fuel (d1.1, (d1.2.1, d1.2.2.1)) (((s2.getD []).getD s14.toNat (false, ([], []))).1, (((s2.getD []).getD s14.toNat (false, ([], []))).2))).bind fun r2 =>
   (z1k fuel r2).bind fun r3 =>
   if decide (r3 < 0) = true then
   some (.ret (false, ()))
   else
   z7t m s0 s1 s2 s13 (IntKind.i64.wrap (s14 + 1))
   else none
   else none
   else
   (z1k fuel (d1.1, (d1.2.1, d1.2.2.1))).bind fun r4 =>
   if decide (r4 < 0) = true then
   some (.ret (false, ()))
   else
   z7t m s0 s1 s2 s13 (IntKind.i64.wrap (s14 + 1))
  | some (.ret d1) =>
   none
  else
  some (.exit ())
def l_simplex_above_2L : LSpec := { h := l_simplex_above_2H, x := zn1, r := zn0, xid := 0, rt := true, pins := [], f := fun k d => z7t k d.1 d.2.1 d.2.2.1 d.2.2.2.1 d.2.2.2.2.1 }
def ze6 : z29 := [([46], [(2, l_simplex_above_2L), (6, l_simplex_above_6L)])]
def z9n (k : Nat) (a0 : List (List (Bool × ((List Int) × (List Int))))) (a1 : List (Bool × ((List Int) × (List Int)))) (a2 : Option (List (Bool × ((List Int) × (List Int))))) (a3 : Int) : Option (Bool) :=
 match z7t k a0 a1 a2 a3 0 with
 | none => none
 | some (.exit d1) =>
  some true
 | some (.ret d1) =>
  some d1.1
theorem zy6 (m : Nat) (d : dens l_simplex_above_6H.tys) : l_simplex_above_6L.f (m + 1) d = round zi2 ze6 m [46] 48 (z2w (z1j Tryd.f46) 1) l_simplex_above_6L (l_simplex_above_6L.f m) d := by kernel_rfl
theorem zy5 (m : Nat) (d : dens l_simplex_above_2H.tys) : l_simplex_above_2L.f (m + 1) d = round zi2 ze6 m [46] 48 (z2w (z1j Tryd.f46) 0) l_simplex_above_2L (l_simplex_above_2L.f m) d := by kernel_rfl
def zw7 (k : Nat) : Vm.Spec := { ps := [.slice (.slice qT), .slice qT, .nsl qT, .int .i64], rs := [.imm .bool], f := fun x => z9n k x.1 x.2.1 x.2.2.1 x.2.2.2 }
noncomputable def y01 : Vm.Spec := zw7 fuel
theorem zd6 : Vm.Spec.holds Tryd.prog 46 y01 := z16 (E := zi2) (L := ze6) (fn := Tryd.f46) (Z := zw7) (z1u ok) (z0s (by exact ⟨⟨by kernel_rfl, z38⟩, ⟨by kernel_rfl, z7j⟩, ⟨by kernel_rfl, z7m⟩, ⟨by kernel_rfl, z7l⟩, trivial⟩)) z17 (z0a rfl) (z01 rfl) (by kernel_rfl) (by kernel_rfl) (z0o (ls := [(2, l_simplex_above_2L), (6, l_simplex_above_6L)]) rfl rfl ⟨by kernel_rfl, fun _ => rfl, zy5, by kernel_rfl, fun _ => rfl, zy6, z0p (by kernel_rfl)⟩) fun k x => by kernel_rfl
def zx2 (x0 : List (List (Bool × ((List Int) × (List Int))))) (x1 : List (Bool × ((List Int) × (List Int)))) (x2 : List (Bool × ((List Int) × (List Int)))) (x3 : Int) : Option (Bool) := (z9n fuel x0 x1 (some x2) x3).bind fun r => if x2.isEmpty then (if z9n fuel x0 x1 none x3 = some r then some r else none) else some r
noncomputable def zw2 : Vm.Spec := { ps := [.slice (.slice qT), .slice qT, .slice qT, .int .i64], rs := [.imm .bool], f := fun x => zx2 x.1 x.2.1 x.2.2.1 x.2.2.2 }
theorem zy1 : Vm.Spec.holds Tryd.prog 46 zw2 := yw6 zd6
noncomputable def y7i : Env := { te := te, spec := [(10, z9c), (33, z8w), (41, y03), (42, zt4), (43, zm0), (44, y3x), (45, y02), (46, y01), (47, ze9), (48, zi7), (49, z5g)], body := [], spec2 := [(45, zw3), (46, zw2)] }
def y5h : z29 := []
def zf2 (k : Nat) (a0 : (List (List ByteArray)) × ((List ByteArray) × (List ByteArray))) (a1 : Int × ((List ByteArray) × ((List ByteArray) × ((List ByteArray) × ByteArray)))) : Option (Int) :=
 (z39 fuel a0).bind fun r1 =>
 if (r1 != 0) = true then
 some r1
 else
 (y0d fuel a0 a1).bind fun r2 =>
 if (r2 != 0) = true then
 some r2
 else
 (z71 fuel a0.1).bind fun r3 =>
 (z1x fuel a0.2.1).bind fun r4 =>
 (z1x fuel a0.2.2).bind fun r5 =>
 (z1x fuel a1.2.1).bind fun r6 =>
 (z1x fuel a1.2.2.1).bind fun r7 =>
 (z1x fuel a1.2.2.2.1).bind fun r8 =>
 (z6x fuel r6).bind fun r9 =>
 if (!r9) = true then
 (z6x fuel r7).bind fun r10 =>
 if (!r10) = true then
 (z6x fuel r8).bind fun r11 =>
 if (a1.1 == 0) = true then
 (zc2 fuel a1.2.2.2.2).bind fun r12 =>
 if (!r11) = true then
 (zf3 r3 r6 r4).bind fun r13 =>
 if r13 = true then
 (zx2 r3 r7 r5 (r5.length : Int)).bind fun r14 =>
 if r14 = true then
 (z5e fuel r5 r6).bind fun r15 =>
 (z6a fuel r15 r12).bind fun r16 =>
 if (r16 == 0) = true then
 (z5e fuel r4 r7).bind fun r17 =>
 (z6a fuel r17 r12).bind fun r18 =>
 if (!(r18 == 0)) = true then
 some 16
 else
 some 0
 else
 some 16
 else
 some 16
 else
 some 16
 else
 some 16
 else
 if (a1.1 == 1) = true then
 if (!r11) = true then
 (z9n fuel r3 r7 none (r5.length : Int)).bind fun r19 =>
 if r19 = true then
 (z5e fuel r4 r7).bind fun r20 =>
 (z1k fuel r20).bind fun r21 =>
 if (!(decide (r21 < 0))) = true then
 some 16
 else
 some 0
 else
 some 16
 else
 some 16
 else
 if (!r11) = true then
 (zf3 r3 r6 r4).bind fun r22 =>
 if r22 = true then
 (z9o fuel r3 r8 none).bind fun r23 =>
 if r23 = true then
 (z5e fuel r5 r8).bind fun r24 =>
 (z1k fuel r24).bind fun r25 =>
 if (!(decide (r25 > 0))) = true then
 some 16
 else
 some 0
 else
 some 16
 else
 some 16
 else
 some 16
 else
 if (a1.1 == 0) = true then
 (zc2 fuel a1.2.2.2.2).bind fun r26 =>
 some 16
 else
 if (a1.1 == 1) = true then
 some 16
 else
 some 16
 else
 if (a1.1 == 0) = true then
 (zc2 fuel a1.2.2.2.2).bind fun r27 =>
 some 16
 else
 if (a1.1 == 1) = true then
 some 16
 else
 some 16
def zp8 (k : Nat) : Vm.Spec := { ps := [.pair (.slice (.slice .str)) (.pair (.slice .str) (.slice .str)), .pair (.int .i64) (.pair (.slice .str) (.pair (.slice .str) (.pair (.slice .str) .str)))], rs := [.imm (.int .i64)], f := fun x => zf2 k x.1 x.2 }
noncomputable def zw1 : Vm.Spec := zp8 fuel
theorem zy0 : Vm.Spec.holds Tryd.prog 11 zw1 := z16 (E := y7i) (L := y5h) (fn := Tryd.f11) (Z := zp8) (z1u ok) (z0s (by exact ⟨⟨by kernel_rfl, z77⟩, ⟨by kernel_rfl, z5k⟩, ⟨by kernel_rfl, y0e⟩, ⟨by kernel_rfl, za4⟩, ⟨by kernel_rfl, zq8⟩, ⟨by kernel_rfl, zc3⟩, ⟨by kernel_rfl, zd7⟩, ⟨by kernel_rfl, zd6⟩, ⟨by kernel_rfl, za1⟩, ⟨by kernel_rfl, z7k⟩, ⟨by kernel_rfl, z38⟩, trivial⟩) (by exact ⟨⟨by kernel_rfl, zy2⟩, ⟨by kernel_rfl, zy1⟩, trivial⟩)) z17 (z0a rfl) (z01 rfl) (by kernel_rfl) (by kernel_rfl) (z0t rfl) fun k x => by kernel_rfl
noncomputable def zy9 : Env := { te := te, spec := [], body := [] }
def zx9 : z29 := []
def z5j (k : Nat) : Option ((List (List ByteArray)) × ((List ByteArray) × (List ByteArray))) :=
 some ([[(⟨#[49]⟩ : ByteArray), (⟨#[49]⟩ : ByteArray)]], ([(⟨#[52]⟩ : ByteArray)], [(⟨#[50]⟩ : ByteArray), (⟨#[49]⟩ : ByteArray)]))
def z9y (k : Nat) : Vm.Spec := { ps := [], rs := [.imm (.pair (.slice (.slice .str)) (.pair (.slice .str) (.slice .str)))], f := fun x => z5j k }
noncomputable def zc7 : Vm.Spec := z9y fuel
theorem zj5 : Vm.Spec.holds Tryd.prog 24 zc7 := z16 (E := zy9) (L := zx9) (fn := Tryd.f24) (Z := z9y) (z1u ok) (z0s (by exact trivial)) z17 (z0a rfl) (z01 rfl) (by kernel_rfl) (by kernel_rfl) (z0t rfl) fun k x => by kernel_rfl
noncomputable def zi1 : Env := { te := te, spec := [(9, zj0), (10, z9c), (11, zw1), (24, zc7)], body := [] }
def zg9 : z29 := []
def z57 (k : Nat) : Option (Bool) :=
 (z5j fuel).bind fun r1 =>
 (z4c fuel r1).bind fun r2 =>
 if (r2.2 == 0) = true then
 if (r2.1.1 == 0) = true then
 if ((r2.1.2.2.2.2.toList == (⟨#[56]⟩ : ByteArray).toList)) = true then
 (z5j fuel).bind fun r3 =>
 (zf2 fuel r3 r2.1).bind fun r4 =>
 if (r4 == 0) = true then
 (z5j fuel).bind fun r5 =>
 (zf2 fuel r5 (r2.1.1, (r2.1.2.1, (r2.1.2.2.1, (r2.1.2.2.2.1, (⟨#[57]⟩ : ByteArray)))))).bind fun r6 =>
 if (r6 == 16) = true then
 (z39 fuel ([], ([(⟨#[49]⟩ : ByteArray)], []))).bind fun r7 =>
 some (r7 == 3)
 else
 some false
 else
 some false
 else
 some false
 else
 some false
 else
 some false
def z6w (k : Nat) : Vm.Spec := { ps := [], rs := [.imm .bool], f := fun x => z57 k }
noncomputable def z6z : Vm.Spec := z6w fuel
theorem z9k : Vm.Spec.holds Tryd.prog 7 z6z := z16 (E := zi1) (L := zg9) (fn := Tryd.f7) (Z := z6w) (z1u ok) (z0s (by exact ⟨⟨by kernel_rfl, zd5⟩, ⟨by kernel_rfl, z77⟩, ⟨by kernel_rfl, zy0⟩, ⟨by kernel_rfl, zj5⟩, trivial⟩)) z17 (z0a rfl) (z01 rfl) (by kernel_rfl) (by kernel_rfl) (z0t rfl) fun k x => by kernel_rfl
noncomputable def z5f : Env := { te := te, spec := [], body := [(25, Tryd.f25), (26, Tryd.f26), (27, Tryd.f27), (28, Tryd.f28), (60, Tryd.f60), (61, Tryd.f61)] }
def l_slices_IndexFunc_Rat__slices_ContainsFunc_Rat__gamehallkeep2_small_1__slices_IndexFunc_Vec__slices_ContainsFunc_Vec__gamehallkeep2_small_2H : Ann := { slots := [(0, .one (.val (.slice .str))), (1, .one (.fix (.func 28))), (7, .one (.val (.int .i64))), (8, .one (.val (.int .i64)))], objs := [] }
def z0d : Ann := { slots := [], objs := [] }
def z0c : Ann := { slots := [(4, .one (.val (.int .i64)))], objs := [] }
def l_slices_IndexFunc_Vec__slices_ContainsFunc_Vec__gamehallkeep2_small_2H : Ann := { slots := [(0, .one (.val (.slice (.slice .str)))), (1, .one (.fix (.clos 76))), (7, .one (.val (.int .i64))), (8, .one (.val (.int .i64)))], objs := [(76, .clos 26 [.fix (.pbox 8 0)]), (8, .box [.val (.int .i64)])] }
def z1r : Ann := { slots := [], objs := [(76, .clos 26 [.fix (.pbox 8 0)]), (8, .box [.val (.int .i64)])] }
def z1q : Ann := { slots := [(4, .one (.val (.int .i64)))], objs := [(76, .clos 26 [.fix (.pbox 8 0)]), (8, .box [.val (.int .i64)])] }
def l_gamehallkeep2_small_2H : Ann := { slots := [(2, .one (.fix (.pbox 8 0))), (7, .one (.val (.slice (.slice (.slice .str))))), (8, .one (.val (.int .i64))), (9, .one (.val (.int .i64)))], objs := [(8, .box [.val (.int .i64)])] }
def z93 : Ann := { slots := [], objs := [(8, .box [.val (.int .i64)])] }
def z92 : Ann := { slots := [(4, .one (.val .bool))], objs := [(8, .box [.val (.int .i64)])] }
def z00 : Nat → List ByteArray → Int → Int → Option (LR z0d z0c)
 | 0, _, _, _ => none
 | m + 1, s0, s7, s8 =>
  if decide (s8 < s7) = true then
  if (0 : Int) ≤ s8 then
  if s8 < s0.length then
  if decide (((s0.getD s8.toNat ByteArray.empty).size : Int) > 12) = true then
  some (.ret (s8, ()))
  else
  z00 m s0 s7 (IntKind.i64.wrap (s8 + 1))
  else none
  else none
  else
  some (.exit ())
def l_slices_IndexFunc_Rat__slices_ContainsFunc_Rat__gamehallkeep2_small_1__slices_IndexFunc_Vec__slices_ContainsFunc_Vec__gamehallkeep2_small_2L : LSpec := { h := l_slices_IndexFunc_Rat__slices_ContainsFunc_Rat__gamehallkeep2_small_1__slices_IndexFunc_Vec__slices_ContainsFunc_Vec__gamehallkeep2_small_2H, x := z0d, r := z0c, xid := 0, rt := true, pins := [], f := fun k d => z00 k d.1 d.2.1 d.2.2.1 }
def z03 : Nat → List (List ByteArray) → Int → Int → Int → Option (LR z1r z1q)
 | 0, _, _, _, _ => none
 | m + 1, s0, s7, s8, b8_0 =>
  if decide (s8 < s7) = true then
  if (0 : Int) ≤ s8 then
  if s8 < s0.length then
  if decide (((s0.getD s8.toNat []).length : Int) > b8_0) = false then
  match z00 m (s0.getD s8.toNat []) ((s0.getD s8.toNat []).length : Int) 0 with
  | none => none
  | some (.exit d1) =>
   z03 m s0 s7 (IntKind.i64.wrap (s8 + 1)) b8_0
  | some (.ret d1) =>
   if decide (d1.1 ≥ 0) = true then
   some (.ret (s8, b8_0, ()))
   else
   z03 m s0 s7 (IntKind.i64.wrap (s8 + 1)) b8_0
  else
  some (.ret (s8, b8_0, ()))
  else none
  else none
  else
  some (.exit (b8_0, ()))
def l_slices_IndexFunc_Vec__slices_ContainsFunc_Vec__gamehallkeep2_small_2L : LSpec := { h := l_slices_IndexFunc_Vec__slices_ContainsFunc_Vec__gamehallkeep2_small_2H, x := z1r, r := z1q, xid := 0, rt := true, pins := [76, 8], f := fun k d => z03 k d.1 d.2.1 d.2.2.1 d.2.2.2.1 }
def z35 : Nat → List (List (List ByteArray)) → Int → Int → Int → Option (LR z93 z92)
 | 0, _, _, _, _ => none
 | m + 1, s7, s8, s9, b8_0 =>
  if decide (s9 < s8) = true then
  if (0 : Int) ≤ s9 then
  if s9 < s7.length then
  if decide (((s7.getD s9.toNat []).length : Int) > b8_0) = false then
  match z03 m (s7.getD s9.toNat []) ((s7.getD s9.toNat []).length : Int) 0 b8_0 with
  | none => none
  | some (.exit d1) =>
   z35 m s7 s8 (IntKind.i64.wrap (s9 + 1)) d1.1
  | some (.ret d1) =>
   if decide (d1.1 ≥ 0) = true then
   some (.ret (false, d1.2.1, ()))
   else
   z35 m s7 s8 (IntKind.i64.wrap (s9 + 1)) d1.2.1
  else
  some (.ret (false, b8_0, ()))
  else none
  else none
  else
  some (.exit (b8_0, ()))
def l_gamehallkeep2_small_2L : LSpec := { h := l_gamehallkeep2_small_2H, x := z93, r := z92, xid := 0, rt := true, pins := [8], f := fun k d => z35 k d.1 d.2.1 d.2.2.1 d.2.2.2.1 }
def z5c : z29 := [([61, 27, 26, 60, 25, 8], [(2, l_slices_IndexFunc_Rat__slices_ContainsFunc_Rat__gamehallkeep2_small_1__slices_IndexFunc_Vec__slices_ContainsFunc_Vec__gamehallkeep2_small_2L)]), ([60, 25, 8], [(2, l_slices_IndexFunc_Vec__slices_ContainsFunc_Vec__gamehallkeep2_small_2L)]), ([8], [(2, l_gamehallkeep2_small_2L)])]
def z4a (k : Nat) (a0 : Int) (a1 : List (List (List ByteArray))) : Option (Bool) :=
 match z35 k a1 (a1.length : Int) 0 a0 with
 | none => none
 | some (.exit d1) =>
  some true
 | some (.ret d1) =>
  some d1.1
theorem z0x (m : Nat) (d : dens l_slices_IndexFunc_Rat__slices_ContainsFunc_Rat__gamehallkeep2_small_1__slices_IndexFunc_Vec__slices_ContainsFunc_Vec__gamehallkeep2_small_2H.tys) : l_slices_IndexFunc_Rat__slices_ContainsFunc_Rat__gamehallkeep2_small_1__slices_IndexFunc_Vec__slices_ContainsFunc_Vec__gamehallkeep2_small_2L.f (m + 1) d = round z5f z5c m [61, 27, 26, 60, 25, 8] 19 (z2w (z1j Tryd.f61) 0) l_slices_IndexFunc_Rat__slices_ContainsFunc_Rat__gamehallkeep2_small_1__slices_IndexFunc_Vec__slices_ContainsFunc_Vec__gamehallkeep2_small_2L (l_slices_IndexFunc_Rat__slices_ContainsFunc_Rat__gamehallkeep2_small_1__slices_IndexFunc_Vec__slices_ContainsFunc_Vec__gamehallkeep2_small_2L.f m) d := by kernel_rfl
theorem z31 (m : Nat) (d : dens l_slices_IndexFunc_Vec__slices_ContainsFunc_Vec__gamehallkeep2_small_2H.tys) : l_slices_IndexFunc_Vec__slices_ContainsFunc_Vec__gamehallkeep2_small_2L.f (m + 1) d = round z5f z5c m [60, 25, 8] 19 (z2w (z1j Tryd.f60) 0) l_slices_IndexFunc_Vec__slices_ContainsFunc_Vec__gamehallkeep2_small_2L (l_slices_IndexFunc_Vec__slices_ContainsFunc_Vec__gamehallkeep2_small_2L.f m) d := by kernel_rfl
theorem zh3 (m : Nat) (d : dens l_gamehallkeep2_small_2H.tys) : l_gamehallkeep2_small_2L.f (m + 1) d = round z5f z5c m [8] 23 (z2w (z1j Tryd.f8) 0) l_gamehallkeep2_small_2L (l_gamehallkeep2_small_2L.f m) d := by kernel_rfl
def z9z (k : Nat) : Vm.Spec := { ps := [.int .i64, .slice (.slice (.slice .str))], rs := [.imm .bool], f := fun x => z4a k x.1 x.2 }
noncomputable def zc8 : Vm.Spec := z9z fuel
theorem zj6 : Vm.Spec.holds Tryd.prog 8 zc8 := z16 (E := z5f) (L := z5c) (fn := Tryd.f8) (Z := z9z) (z1u ok) (z0s (by exact trivial)) z17 (zd1 (by exact ⟨by kernel_rfl, by kernel_rfl, by kernel_rfl, by kernel_rfl, by kernel_rfl, by kernel_rfl, by kernel_rfl, by kernel_rfl, by kernel_rfl, by kernel_rfl, by kernel_rfl, by kernel_rfl, trivial⟩)) (z4z (by exact ⟨(fun _ => z6r (by kernel_rfl)), (fun _ => z6r (by kernel_rfl)), (fun _ => z6r (by kernel_rfl)), (fun _ => z6r (by kernel_rfl)), (z2x [[25, 8]] (by exact ⟨z0o (ls := [(2, l_slices_IndexFunc_Vec__slices_ContainsFunc_Vec__gamehallkeep2_small_2L)]) rfl rfl ⟨by kernel_rfl, fun _ => rfl, z31, z0p (by kernel_rfl)⟩,  trivial⟩) rfl), (z2x [[27, 26, 60, 25, 8]] (by exact ⟨z0o (ls := [(2, l_slices_IndexFunc_Rat__slices_ContainsFunc_Rat__gamehallkeep2_small_1__slices_IndexFunc_Vec__slices_ContainsFunc_Vec__gamehallkeep2_small_2L)]) rfl rfl ⟨by kernel_rfl, fun _ => rfl, z0x, z0p (by kernel_rfl)⟩,  trivial⟩) rfl),  trivial⟩)) (by kernel_rfl) (by kernel_rfl) (z0o (ls := [(2, l_gamehallkeep2_small_2L)]) rfl rfl ⟨by kernel_rfl, fun _ => rfl, zh3, z0p (by kernel_rfl)⟩) fun k x => by kernel_rfl
noncomputable def zg2 : Env := { te := te, spec := [], body := [(50, Tryd.f50), (51, Tryd.f51), (70, Tryd.f70)] }
def l_slices_IndexFunc_Errno__slices_ContainsFunc_Errno__gamehallkeep2_fine_2H : Ann := { slots := [(0, .one (.val (.slice (.int .i64)))), (1, .one (.fix (.func 51))), (7, .one (.val (.int .i64))), (8, .one (.val (.int .i64)))], objs := [] }
def z1m : Ann := { slots := [], objs := [] }
def z1l : Ann := { slots := [(4, .one (.val (.int .i64)))], objs := [] }
def z0y : Nat → List Int → Int → Int → Option (LR z1m z1l)
 | 0, _, _, _ => none
 | m + 1, s0, s7, s8 =>
  if decide (s8 < s7) = true then
  if (0 : Int) ≤ s8 then
  if s8 < s0.length then
  if (s0.getD s8.toNat 0 != 0) = true then
  some (.ret (s8, ()))
  else
  z0y m s0 s7 (IntKind.i64.wrap (s8 + 1))
  else none
  else none
  else
  some (.exit ())
def l_slices_IndexFunc_Errno__slices_ContainsFunc_Errno__gamehallkeep2_fine_2L : LSpec := { h := l_slices_IndexFunc_Errno__slices_ContainsFunc_Errno__gamehallkeep2_fine_2H, x := z1m, r := z1l, xid := 0, rt := true, pins := [], f := fun k d => z0y k d.1 d.2.1 d.2.2.1 }
def zc6 : z29 := [([70, 50, 14], [(2, l_slices_IndexFunc_Errno__slices_ContainsFunc_Errno__gamehallkeep2_fine_2L)])]
def z88 (k : Nat) (a0 : List Int) : Option (Bool) :=
 match z0y k a0 (a0.length : Int) 0 with
 | none => none
 | some (.exit d1) =>
  some true
 | some (.ret d1) =>
  some (!(decide (d1.1 ≥ 0)))
theorem z2v (m : Nat) (d : dens l_slices_IndexFunc_Errno__slices_ContainsFunc_Errno__gamehallkeep2_fine_2H.tys) : l_slices_IndexFunc_Errno__slices_ContainsFunc_Errno__gamehallkeep2_fine_2L.f (m + 1) d = round zg2 zc6 m [70, 50, 14] 19 (z2w (z1j Tryd.f70) 0) l_slices_IndexFunc_Errno__slices_ContainsFunc_Errno__gamehallkeep2_fine_2L (l_slices_IndexFunc_Errno__slices_ContainsFunc_Errno__gamehallkeep2_fine_2L.f m) d := by kernel_rfl
def zc9 (k : Nat) : Vm.Spec := { ps := [.slice (.int .i64)], rs := [.imm .bool], f := fun x => z88 k x }
noncomputable def zg3 : Vm.Spec := zc9 fuel
theorem zl7 : Vm.Spec.holds Tryd.prog 14 zg3 := z16 (E := zg2) (L := zc6) (fn := Tryd.f14) (Z := zc9) (z1u ok) (z0s (by exact trivial)) z17 (zd1 (by exact ⟨by kernel_rfl, by kernel_rfl, by kernel_rfl, by kernel_rfl, by kernel_rfl, by kernel_rfl, trivial⟩)) (z4z (by exact ⟨(fun _ => z6r (by kernel_rfl)), (fun _ => z6r (by kernel_rfl)), (z2x [[50, 14]] (by exact ⟨z0o (ls := [(2, l_slices_IndexFunc_Errno__slices_ContainsFunc_Errno__gamehallkeep2_fine_2L)]) rfl rfl ⟨by kernel_rfl, fun _ => rfl, z2v, z0p (by kernel_rfl)⟩,  trivial⟩) rfl),  trivial⟩)) (by kernel_rfl) (by kernel_rfl) (z0t rfl) fun k x => by kernel_rfl
noncomputable def zv7 : Env := { te := te, spec := [(55, zi6), (64, zi8)], body := [] }
def l_matrix_product_3H : Ann := { slots := [(1, .one (.val (.slice qT))), (5, .one (.fix (.pbox 20 0))), (8, .one (.val (.slice qT))), (9, .one (.val (.int .i64))), (10, .one (.val (.int .i64)))], objs := [(20, .box [.val .bool, .val (.slice (.int .u32)), .val (.slice (.int .u32))])] }
def zk3 : Ann := { slots := [(5, .one (.fix (.pbox 20 0)))], objs := [(20, .box [.val .bool, .val (.slice (.int .u32)), .val (.slice (.int .u32))])] }
def zk2 : Ann := { slots := [], objs := [] }
def z4g : Nat → List (Bool × ((List Int) × (List Int))) → List (Bool × ((List Int) × (List Int))) → Int → Int → Bool → List Int → List Int → Option (LR zk3 zk2)
 | 0, _, _, _, _, _, _, _ => none
 | m + 1, s1, s8, s9, s10, b20_0, b20_1, b20_2 =>
  if decide (s10 < s9) = true then
  if (0 : Int) ≤ s10 then
  if s10 < s8.length then
  if (0 : Int) ≤ s10 then
  if s10 < s1.length then
  (z36 fuel ((s8.getD s10.toNat (false, ([], []))).1, ((s8.getD s10.toNat (false, ([], []))).2)) ((s1.getD s10.toNat (false, ([], []))).1, ((s1.getD s10.toNat (false, ([], []))).2))).bind fun r1 =>
  (z76 fuel (b20_0, (b20_1, b20_2)) r1).bind fun r2 =>
  z4g m s1 s8 s9 (IntKind.i64.wrap (s10 + 1)) r2.1 r2.2.1 r2.2.2
  else none
  else none
  else none
  else none
  else
  some (.exit (b20_0, b20_1, b20_2, ()))
def l_matrix_product_3L : LSpec := { h := l_matrix_product_3H, x := zk3, r := zk2, xid := 0, rt := false, pins := [20], f := fun k d => z4g k d.1 d.2.1 d.2.2.1 d.2.2.2.1 d.2.2.2.2.1 d.2.2.2.2.2.1 d.2.2.2.2.2.2.1 }
def zp2 : z29 := [([57], [(3, l_matrix_product_3L)])]
def z6i (k : Nat) (a0 : List (Bool × ((List Int) × (List Int)))) (a1 : List (Bool × ((List Int) × (List Int)))) : Option (Bool × ((List Int) × (List Int))) :=
 match z4g k a1 a0 (a0.length : Int) 0 false [] [] with
 | none => none
 | some (.exit d1) =>
  some (d1.1, (d1.2.1, d1.2.2.1))
 | some (.ret d1) =>
  none
theorem zu8 (m : Nat) (d : dens l_matrix_product_3H.tys) : l_matrix_product_3L.f (m + 1) d = round zv7 zp2 m [57] 25 (z2w (z1j Tryd.f57) 0) l_matrix_product_3L (l_matrix_product_3L.f m) d := by kernel_rfl
def zp7 (k : Nat) : Vm.Spec := { ps := [.slice qT, .slice qT], rs := [.imm qT], f := fun x => z6i k x.1 x.2 }
noncomputable def ze8 : Vm.Spec := zp7 fuel
theorem za0 : Vm.Spec.holds Tryd.prog 57 ze8 := z16 (E := zv7) (L := zp2) (fn := Tryd.f57) (Z := zp7) (z1u ok) (z0s (by exact ⟨⟨by kernel_rfl, z7j⟩, ⟨by kernel_rfl, z7l⟩, trivial⟩)) z17 (z0a rfl) (z01 rfl) (by kernel_rfl) (by kernel_rfl) (z0o (ls := [(3, l_matrix_product_3L)]) rfl rfl ⟨by kernel_rfl, fun _ => rfl, zu8, z0p (by kernel_rfl)⟩) fun k x => by kernel_rfl
noncomputable def y1q : Env := { te := te, spec := [(19, z41), (33, z8w), (39, zo2), (40, zo3), (42, zt4), (57, ze8), (58, zz8)], body := [] }
def l_matrix_Apply_12H : Ann := { slots := [(8, .one (.own 184 qT)), (9, .one (.val (.slice qT))), (35, .one (.own 140 (.slice qT))), (36, .one (.val (.int .i64))), (37, .one (.val (.int .i64)))], objs := [(184, .buf qT), (140, .buf (.slice qT))] }
def zm9 : Ann := { slots := [(8, .one (.own 184 qT))], objs := [(184, .buf qT), (140, .buf (.slice qT))] }
def zm8 : Ann := { slots := [], objs := [] }
def z3g : Nat → List (Bool × ((List Int) × (List Int))) → Int → Int → List (Bool × ((List Int) × (List Int))) → List (List (Bool × ((List Int) × (List Int)))) → Option (LR zm9 zm8)
 | 0, _, _, _, _, _ => none
 | m + 1, s9, s36, s37, b184, b140 =>
  if decide (s37 < s36) = true then
  if (0 : Int) ≤ s37 then
  if s37 < b140.length then
  (z6i fuel (b140.getD s37.toNat []) s9).bind fun r1 =>
  if (b184.length + 1) * 56 ≤ 140737488355328 then
  z3g m s9 s36 (IntKind.i64.wrap (s37 + 1)) (b184 ++ [r1]) b140
  else none
  else none
  else none
  else
  some (.exit (b184, b140, ()))
def l_matrix_Apply_12L : LSpec := { h := l_matrix_Apply_12H, x := zm9, r := zm8, xid := 0, rt := false, pins := [140], f := fun k d => z3g k d.1 d.2.1 d.2.2.1 d.2.2.2.1 d.2.2.2.2.1 }
def zz3 : z29 := [([20], [(12, l_matrix_Apply_12L)])]
def z52 (k : Nat) (a0 : List (List ByteArray)) (a1 : List ByteArray) : Option (List ByteArray × Int) :=
 (z53 fuel a0).bind fun r1 =>
 if (r1 != 0) = true then
 some ([], r1)
 else
 (z15 fuel a1).bind fun r2 =>
 if (r2 != 0) = true then
 some ([], r2)
 else
 (z6m fuel a0).bind fun r3 =>
 if (r3 != (a1.length : Int)) = true then
 if decide ((a0.length : Int) > 0) = true then
 some ([], 3)
 else
 (z1x fuel a1).bind fun r4 =>
 (z71 fuel a0).bind fun r5 =>
 match z3g k r4 (r5.length : Int) 0 [] r5 with
 | none => none
 | some (.exit d6) =>
  (z4b fuel d6.1).bind fun r7 =>
  some (r7.1, r7.2)
 | some (.ret d6) =>
  none
 else
 (z1x fuel a1).bind fun r8 =>
 (z71 fuel a0).bind fun r9 =>
 match z3g k r8 (r9.length : Int) 0 [] r9 with
 | none => none
 | some (.exit d10) =>
  (z4b fuel d10.1).bind fun r11 =>
  some (r11.1, r11.2)
 | some (.ret d10) =>
  none
theorem zy4 (m : Nat) (d : dens l_matrix_Apply_12H.tys) : l_matrix_Apply_12L.f (m + 1) d = round y1q zz3 m [20] 52 (z2w (z1j Tryd.f20) 0) l_matrix_Apply_12L (l_matrix_Apply_12L.f m) d := by kernel_rfl
def y04 (k : Nat) : Vm.Spec := { ps := [.slice (.slice .str), .slice .str], rs := [.fresh .str, .imm (.int .i64)], f := fun x => z52 k x.1 x.2 }
noncomputable def y1u : Vm.Spec := y04 fuel
theorem y1l : Vm.Spec.holds Tryd.prog 20 y1u := z16 (E := y1q) (L := zz3) (fn := Tryd.f20) (Z := y04) (z1u ok) (z0s (by exact ⟨⟨by kernel_rfl, z32⟩, ⟨by kernel_rfl, z5k⟩, ⟨by kernel_rfl, zg5⟩, ⟨by kernel_rfl, zg6⟩, ⟨by kernel_rfl, za4⟩, ⟨by kernel_rfl, za0⟩, ⟨by kernel_rfl, zm5⟩, trivial⟩)) z17 (z0a rfl) (z01 rfl) (by kernel_rfl) (by kernel_rfl) (z0o (ls := [(12, l_matrix_Apply_12L)]) rfl rfl ⟨by kernel_rfl, fun _ => rfl, zy4, z0p (by kernel_rfl)⟩) fun k x => by kernel_rfl
noncomputable def yj9 : Env := { te := te, spec := [(19, z41), (33, z8w), (53, zt6), (57, ze8), (59, y14)], body := [] }
def yf4 : z29 := []
def zm4 (k : Nat) (a0 : List ByteArray) (a1 : List ByteArray) : Option (ByteArray × Int) :=
 (z15 fuel a0).bind fun r1 =>
 if (r1 != 0) = true then
 some ((⟨#[]⟩ : ByteArray), r1)
 else
 (z15 fuel a1).bind fun r2 =>
 if (r2 != 0) = true then
 some ((⟨#[]⟩ : ByteArray), r2)
 else
 if ((a0.length : Int) != (a1.length : Int)) = true then
 some ((⟨#[]⟩ : ByteArray), 3)
 else
 (z1x fuel a0).bind fun r3 =>
 (z1x fuel a1).bind fun r4 =>
 (z6i fuel r3 r4).bind fun r5 =>
 (za7 fuel r5).bind fun r6 =>
 if (r6 != 0) = true then
 some ((⟨#[]⟩ : ByteArray), r6)
 else
 (z8q fuel r5).bind fun r7 =>
 some (r7, 0)
def y3z (k : Nat) : Vm.Spec := { ps := [.slice .str, .slice .str], rs := [.imm .str, .imm (.int .i64)], f := fun x => zm4 k x.1 x.2 }
noncomputable def y6p : Vm.Spec := y3z fuel
theorem y4f : Vm.Spec.holds Tryd.prog 21 y6p := z16 (E := yj9) (L := yf4) (fn := Tryd.f21) (Z := y3z) (z1u ok) (z0s (by exact ⟨⟨by kernel_rfl, z32⟩, ⟨by kernel_rfl, z5k⟩, ⟨by kernel_rfl, za8⟩, ⟨by kernel_rfl, za0⟩, ⟨by kernel_rfl, zf1⟩, trivial⟩)) z17 (z0a rfl) (z01 rfl) (by kernel_rfl) (by kernel_rfl) (z0t rfl) fun k x => by kernel_rfl
noncomputable def yf1 : Env := { te := te, spec := [(44, y3x), (48, zi7), (56, zo4)], body := [] }
def ya3 : z29 := []
def z9m (k : Nat) (a0 : ByteArray) (a1 : ByteArray) : Option (Int × Int) :=
 (z44 fuel [a0, a1]).bind fun r1 =>
 if (r1 != 0) = true then
 some (0, r1)
 else
 (zc2 fuel a0).bind fun r2 =>
 (zc2 fuel a1).bind fun r3 =>
 (z6a fuel r2 r3).bind fun r4 =>
 some (r4, 0)
def y1x (k : Nat) : Vm.Spec := { ps := [.str, .str], rs := [.imm (.int .i64), .imm (.int .i64)], f := fun x => z9m k x.1 x.2 }
noncomputable def y3w : Vm.Spec := y1x fuel
theorem y34 : Vm.Spec.holds Tryd.prog 22 y3w := z16 (E := yf1) (L := ya3) (fn := Tryd.f22) (Z := y1x) (z1u ok) (z0s (by exact ⟨⟨by kernel_rfl, zc3⟩, ⟨by kernel_rfl, z7k⟩, ⟨by kernel_rfl, zg7⟩, trivial⟩)) z17 (z0a rfl) (z01 rfl) (by kernel_rfl) (by kernel_rfl) (z0t rfl) fun k x => by kernel_rfl
noncomputable def w23 : Env := { te := te, spec := [(44, y3x), (49, z5g), (52, zt5)], body := [] }
def yt7 : z29 := []
def y1a (k : Nat) (a0 : ByteArray) : Option (Int × Int) :=
 (z74 fuel a0).bind fun r1 =>
 if (r1 != 0) = true then
 some (0, r1)
 else
 (zc2 fuel a0).bind fun r2 =>
 (z1k fuel r2).bind fun r3 =>
 some (r3, 0)
def y8h (k : Nat) : Vm.Spec := { ps := [.str], rs := [.imm (.int .i64), .imm (.int .i64)], f := fun x => y1a k x }
noncomputable def yb7 : Vm.Spec := y8h fuel
theorem y7o : Vm.Spec.holds Tryd.prog 23 yb7 := z16 (E := w23) (L := yt7) (fn := Tryd.f23) (Z := y8h) (z1u ok) (z0s (by exact ⟨⟨by kernel_rfl, zc3⟩, ⟨by kernel_rfl, z38⟩, ⟨by kernel_rfl, za6⟩, trivial⟩)) z17 (z0a rfl) (z01 rfl) (by kernel_rfl) (by kernel_rfl) (z0t rfl) fun k x => by kernel_rfl
noncomputable def z4m : Env := { te := te, spec := [(7, z6z), (8, zc8), (9, zj0), (14, zg3), (19, z41), (20, y1u), (21, y6p), (22, y3w), (23, yb7)], body := [] }
def l_gamehallkeep2_SimplexBounds_13H : Ann := { slots := [(2, .one (.fix (.pbox 8 0))), (73, .one (.own 232 .str)), (74, .one (.val (.int .i64))), (75, .one (.val (.int .i64)))], objs := [(8, .box [.val (.slice (.slice .str)), .val (.slice .str), .val (.slice .str)]), (232, .buf .str)] }
def z5n : Ann := { slots := [], objs := [(8, .box [.val (.slice (.slice .str)), .val (.slice .str), .val (.slice .str)]), (232, .buf .str)] }
def z5m : Ann := { slots := [(4, .one (.val .bool))], objs := [(8, .box [.val (.slice (.slice .str)), .val (.slice .str), .val (.slice .str)]), (232, .buf .str)] }
def l_gamehallkeep2_SimplexBounds_20H : Ann := { slots := [(97, .one (.val (.slice .str))), (98, .one (.val (.int .i64))), (99, .one (.val (.int .i64)))], objs := [] }
def z5p : Ann := { slots := [], objs := [] }
def z5o : Ann := { slots := [(4, .one (.val .bool))], objs := [] }
def z12 : Nat → Int → Int → List (List ByteArray) → List ByteArray → List ByteArray → List ByteArray → Option (LR z5n z5m)
 | 0, _, _, _, _, _, _ => none
 | m + 1, s74, s75, b8_0, b8_1, b8_2, b232 =>
  if decide (s75 < s74) = true then
  if (0 : Int) ≤ s75 then
  if s75 < b232.length then
  if (0 : Int) ≤ s75 then
  if s75 < b8_1.length then
  (z9m fuel (b232.getD s75.toNat ByteArray.empty) (b8_1.getD s75.toNat ByteArray.empty)).bind fun r1 =>
  if (r1.2 != 0) = false then
  if decide (r1.1 > 0) = true then
  some (.ret (true, b8_0, b8_1, b8_2, b232, ()))
  else
  z12 m s74 (IntKind.i64.wrap (s75 + 1)) b8_0 b8_1 b8_2 b232
  else
  some (.ret (true, b8_0, b8_1, b8_2, b232, ()))
  else none
  else none
  else none
  else none
  else
  some (.exit (b8_0, b8_1, b8_2, b232, ()))
def l_gamehallkeep2_SimplexBounds_13L : LSpec := { h := l_gamehallkeep2_SimplexBounds_13H, x := z5n, r := z5m, xid := 0, rt := true, pins := [8, 232], f := fun k d => z12 k d.1 d.2.1 d.2.2.1 d.2.2.2.1 d.2.2.2.2.1 d.2.2.2.2.2.1 }
def z13 : Nat → List ByteArray → Int → Int → Option (LR z5p z5o)
 | 0, _, _, _ => none
 | m + 1, s97, s98, s99 =>
  if decide (s99 < s98) = true then
  if (0 : Int) ≤ s99 then
  if s99 < s97.length then
  (y1a fuel (s97.getD s99.toNat ByteArray.empty)).bind fun r1 =>
  if (r1.2 != 0) = false then
  if decide (r1.1 < 0) = true then
  some (.ret (true, ()))
  else
  z13 m s97 s98 (IntKind.i64.wrap (s99 + 1))
  else
  some (.ret (true, ()))
  else none
  else none
  else
  some (.exit ())
def l_gamehallkeep2_SimplexBounds_20L : LSpec := { h := l_gamehallkeep2_SimplexBounds_20H, x := z5p, r := z5o, xid := 2, rt := true, pins := [], f := fun k d => z13 k d.1 d.2.1 d.2.2.1 }
def z49 : z29 := [([6], [(13, l_gamehallkeep2_SimplexBounds_13L), (20, l_gamehallkeep2_SimplexBounds_20L)])]
def z3b (k : Nat) (a0 : (List (List ByteArray)) × ((List ByteArray) × (List ByteArray))) (a1 : List ByteArray) : Option (Bool) :=
 (z57 fuel).bind fun r1 =>
 if (!r1) = true then
 some false
 else
 (z4a fuel 5 [a0.1, [a0.2.1, a0.2.2, a1]]).bind fun r2 =>
 if (!r2) = false then
 if ((a1.length : Int) != (a0.2.2.length : Int)) = true then
 some true
 else
 (z4c fuel a0).bind fun r3 =>
 if (r3.2 != 0) = false then
 (z15 fuel a1).bind fun r4 =>
 if (r4 != 0) = true then
 some true
 else
 (z52 fuel a0.1 a1).bind fun r5 =>
 (zm4 fuel a0.2.2 a1).bind fun r6 =>
 (z88 fuel [r5.2, r6.2]).bind fun r7 =>
 if (!r7) = true then
 some false
 else
 match z12 k (r5.1.length : Int) 0 a0.1 a0.2.1 a0.2.2 r5.1 with
 | none => none
 | some (.exit d8) =>
  match z13 k a1 (a1.length : Int) 0 with
  | none => none
  | some (.exit d9) =>
   if (r3.1.1 != 0) = true then
   some (r3.1.1 == 2)
   else
   (z9m fuel r6.1 r3.1.2.2.2.2).bind fun r10 =>
   if (r10.2 == 0) = true then
   some (decide (r10.1 ≤ 0))
   else
   some false
  | some (.ret d9) =>
   some d9.1
 | some (.ret d8) =>
  some d8.1
 else
 some true
 else
 some true
theorem z8a (m : Nat) (d : dens l_gamehallkeep2_SimplexBounds_13H.tys) : l_gamehallkeep2_SimplexBounds_13L.f (m + 1) d = round z4m z49 m [6] 134 (z2w (z1j Tryd.f6) 0) l_gamehallkeep2_SimplexBounds_13L (l_gamehallkeep2_SimplexBounds_13L.f m) d := by kernel_rfl
theorem z8b (m : Nat) (d : dens l_gamehallkeep2_SimplexBounds_20H.tys) : l_gamehallkeep2_SimplexBounds_20L.f (m + 1) d = round z4m z49 m [6] 134 (z2w (z1j Tryd.f6) 1) l_gamehallkeep2_SimplexBounds_20L (l_gamehallkeep2_SimplexBounds_20L.f m) d := by kernel_rfl
def z67 (k : Nat) : Vm.Spec := { ps := [.pair (.slice (.slice .str)) (.pair (.slice .str) (.slice .str)), .slice .str], rs := [.imm .bool], f := fun x => z3b k x.1 x.2 }
noncomputable def ze7 : Vm.Spec := z67 fuel
theorem z8o : Vm.Spec.holds Tryd.prog 6 ze7 := z16 (E := z4m) (L := z49) (fn := Tryd.f6) (Z := z67) (z1u ok) (z0s (by exact ⟨⟨by kernel_rfl, z9k⟩, ⟨by kernel_rfl, zj6⟩, ⟨by kernel_rfl, zd5⟩, ⟨by kernel_rfl, zl7⟩, ⟨by kernel_rfl, z32⟩, ⟨by kernel_rfl, y1l⟩, ⟨by kernel_rfl, y4f⟩, ⟨by kernel_rfl, y34⟩, ⟨by kernel_rfl, y7o⟩, trivial⟩)) z17 (z0a rfl) (z01 rfl) (by kernel_rfl) (by kernel_rfl) (z0o (ls := [(13, l_gamehallkeep2_SimplexBounds_13L), (20, l_gamehallkeep2_SimplexBounds_20L)]) rfl rfl ⟨by kernel_rfl, fun _ => rfl, z8a, by kernel_rfl, fun _ => rfl, z8b, z0p (by kernel_rfl)⟩) fun k x => by kernel_rfl
end Go.Proofs.YtcdcoeofhnfjdaaDoor
