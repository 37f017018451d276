/- Pure functions, printed by a program of this session out of the program. -/
import Derived.Test.YtcdcoeofhnfjdaaDoorPe
set_option linter.unusedVariables false
namespace Go.Proofs.YtcdcoeofhnfjdaaDoor
open Go Vm Go.Proofs
noncomputable def y1e : Env := { te := te, spec := [], body := [] }
def zz4 : z2a := []
def z1m (k : Nat) (a0 : (List (List (Bool × ((List Int) × (List Int))))) × ((List Int) × (Int × Int))) : Option (Int) :=
 some (IntKind.i64.wrap ((IntKind.i64.wrap (a0.2.2.1 + a0.2.2.2)) + 1))
def zc9 (k : Nat) : Vm.Spec := { ps := [.ptr (.pair (.slice (.slice qT)) (.pair (.slice (.int .i64)) (.pair (.int .i64) (.int .i64))))], rs := [.imm (.int .i64)], f := fun x => z1m k x }
noncomputable def z7z : Vm.Spec := zc9 fuel
theorem z7o : Vm.Spec.holds Tryd.prog 36 z7z := z15 (E := y1e) (L := zz4) (fn := Tryd.f36) (Z := zc9) (z1t ok) (z0u (by exact trivial)) z16 (z0a rfl) (z01 rfl) (by kernel_rfl) (by kernel_rfl) (z0v rfl) fun k x => by kernel_rfl
noncomputable def z97 : Env := { te := te, spec := [(36, z7z), (48, zt6), (49, z5y), (82, y2p)], body := [] }
def l_simplex_table_leaving_4H : Ann := { slots := [(0, .one (.val (.ptr (.pair (.slice (.slice qT)) (.pair (.slice (.int .i64)) (.pair (.int .i64) (.int .i64))))))), (1, .one (.val (.int .i64))), (5, .one (.val (.int .i64))), (6, .one (.fix (.pbox 24 0))), (13, .one (.val (.int .i64))), (14, .one (.val (.int .i64)))], objs := [(24, .box [.val .bool, .val (.slice (.int .u32)), .val (.slice (.int .u32))])] }
def z7y : Ann := { slots := [(5, .one (.val (.int .i64)))], objs := [(24, .box [.val .bool, .val (.slice (.int .u32)), .val (.slice (.int .u32))])] }
def z7x : Ann := { slots := [], objs := [] }
def z10 : Nat → (List (List (Bool × ((List Int) × (List Int))))) × ((List Int) × (Int × Int)) → Int → Int → Int → Int → Bool → List Int → List Int → Option (LR z7y z7x)
 | 0, _, _, _, _, _, _, _, _ => none
 | m + 1, s0, s1, s5, s13, s14, b24_0, b24_1, b24_2 =>
  if decide (s14 < s13) = true then
  if (0 : Int) ≤ s14 then
  if s14 < s0.1.length then
  if (0 : Int) ≤ s1 then
  if s1 < (s0.1.getD s14.toNat []).length then
  (z1k fuel (((s0.1.getD s14.toNat []).getD s1.toNat (false, ([], []))).1, (((s0.1.getD s14.toNat []).getD s1.toNat (false, ([], []))).2))).bind fun r1 =>
  if decide (r1 ≤ 0) = true then
  z10 m s0 s1 s5 s13 (IntKind.i64.wrap (s14 + 1)) b24_0 b24_1 b24_2
  else
  if (0 : Int) ≤ s14 then
  if s14 < s0.1.length then
  if (0 : Int) ≤ s14 then
  if s14 < s0.1.length then
  if (0 : Int) ≤ s1 then
  if s1 < (s0.1.getD s14.toNat []).length then
  (z1m fuel s0).bind fun r2 =>
  if (0 : Int) ≤ r2 then
  if r2 < (s0.1.getD s14.toNat []).length then
  (z5m fuel (((s0.1.getD s14.toNat []).getD r2.toNat (false, ([], []))).1, (((s0.1.getD s14.toNat []).getD r2.toNat (false, ([], []))).2)) (((s0.1.getD s14.toNat []).getD s1.toNat (false, ([], []))).1, (((s0.1.getD s14.toNat []).getD s1.toNat (false, ([], []))).2))).bind fun r3 =>
  if decide (s5 ≥ 0) = true then
  (z70 fuel r3 (b24_0, (b24_1, b24_2))).bind fun r4 =>
  if decide (r4 < 0) = false then
  if (r4 == 0) = true then
  if (0 : Int) ≤ s14 then
  if s14 < s0.2.1.length then
  if (0 : Int) ≤ s5 then
  if s5 < s0.2.1.length then
  if decide (s0.2.1.getD s14.toNat 0 < s0.2.1.getD s5.toNat 0) = true then
  z10 m s0 s1 s14 s13 (IntKind.i64.wrap (s14 + 1)) r3.1 r3.2.1 r3.2.2
  else
  z10 m s0 s1 s5 s13 (IntKind.i64.wrap (s14 + 1)) b24_0 b24_1 b24_2
  else none
  else none
  else none
  else none
  else
  z10 m s0 s1 s5 s13 (IntKind.i64.wrap (s14 + 1)) b24_0 b24_1 b24_2
  else
  z10 m s0 s1 s14 s13 (IntKind.i64.wrap (s14 + 1)) r3.1 r3.2.1 r3.2.2
  else
  z10 m s0 s1 s14 s13 (IntKind.i64.wrap (s14 + 1)) r3.1 r3.2.1 r3.2.2
  else none
  else none
  else none
  else none
  else none
  else none
  else none
  else none
  else none
  else none
  else none
  else none
  else
  some (.exit (s5, b24_0, b24_1, b24_2, ()))
def l_simplex_table_leaving_4L : LSpec := { h := l_simplex_table_leaving_4H, x := z7y, r := z7x, xid := 0, rt := false, pins := [24], f := fun k d => z10 k d.1 d.2.1 d.2.2.1 d.2.2.2.1 d.2.2.2.2.1 d.2.2.2.2.2.1 d.2.2.2.2.2.2.1 d.2.2.2.2.2.2.2.1 }
def z8q : z2a := [([65], [(4, l_simplex_table_leaving_4L)])]
def z35 (k : Nat) (a0 : (List (List (Bool × ((List Int) × (List Int))))) × ((List Int) × (Int × Int))) (a1 : Int) : Option (Int) :=
 match z10 k a0 a1 (-1) a0.2.2.2 0 false [] [] with
 | none => none
 | some (.exit d1) =>
  some d1.1
 | some (.ret d1) =>
  none
theorem ze5 (m : Nat) (d : dens l_simplex_table_leaving_4H.tys) : l_simplex_table_leaving_4L.f (m + 1) d = round z97 z8q m [65] 83 (z2w (z1g Tryd.f65) 0) l_simplex_table_leaving_4L (l_simplex_table_leaving_4L.f m) d := by kernel_rfl
def z8s (k : Nat) : Vm.Spec := { ps := [.ptr (.pair (.slice (.slice qT)) (.pair (.slice (.int .i64)) (.pair (.int .i64) (.int .i64)))), .int .i64], rs := [.imm (.int .i64)], f := fun x => z35 k x.1 x.2 }
noncomputable def z9b : Vm.Spec := z8s fuel
theorem zf4 : Vm.Spec.holds Tryd.prog 65 z9b := z15 (E := z97) (L := z8q) (fn := Tryd.f65) (Z := z8s) (z1t ok) (z0u (by exact ⟨⟨by kernel_rfl, z7o⟩, ⟨by kernel_rfl, za6⟩, ⟨by kernel_rfl, z3k⟩, ⟨by kernel_rfl, zq6⟩, trivial⟩)) z16 (z0a rfl) (z01 rfl) (by kernel_rfl) (by kernel_rfl) (z0o (ls := [(4, l_simplex_table_leaving_4L)]) rfl rfl ⟨by kernel_rfl, fun _ => rfl, ze5, z0p (by kernel_rfl)⟩) fun k x => by kernel_rfl
noncomputable def z0q : Env := { te := te, spec := [(10, z6u), (31, zw3), (33, zl9), (36, z7z), (37, yj3), (38, zt8), (42, y2m), (48, zt6), (49, z5y), (63, zi8), (64, zt7), (65, z9b), (82, y2p)], body := [(29, Tryd.f29), (30, Tryd.f30), (32, Tryd.f32), (34, Tryd.f34), (35, Tryd.f35), (62, Tryd.f62)], rows := true }
def l_simplex_start__simplex_Solve_4H : Ann := { slots := [(3, .one (.fix (.pbox 4060 0))), (4, .one (.own 4072 (.slice qT))), (5, .one (.own 4084 qT)), (25, .one (.val (.int .i64))), (26, .one (.val (.int .i64)))], objs := [(4060, .box [.grd 360 qT, .own 420 (.int .i64), .val (.int .i64), .val (.int .i64)]), (4072, .buf (.slice qT)), (4084, .buf qT), (360, .mat qT), (420, .buf (.int .i64))] }
def z5h : Ann := { slots := [(3, .one (.fix (.pbox 4060 0)))], objs := [(4060, .box [.grd 360 qT, .own 420 (.int .i64), .val (.int .i64), .val (.int .i64)]), (4072, .buf (.slice qT)), (4084, .buf qT), (360, .mat qT), (420, .buf (.int .i64))] }
def z5g : Ann := { slots := [], objs := [] }
def l_simplex_table_feasible__simplex_Solve_3H : Ann := { slots := [(0, .one (.fix (.pbox 4060 0))), (3, .one (.val (.int .i64))), (23, .one (.val (.int .i64))), (24, .one (.val (.int .i64)))], objs := [(4060, .box [.grd 360 qT, .own 420 (.int .i64), .val (.int .i64), .val (.int .i64)]), (360, .mat qT), (420, .buf (.int .i64))] }
def z3z : Ann := { slots := [(0, .one (.fix (.pbox 4060 0))), (3, .one (.val (.int .i64)))], objs := [(4060, .box [.grd 360 qT, .own 420 (.int .i64), .val (.int .i64), .val (.int .i64)]), (360, .mat qT), (420, .buf (.int .i64))] }
def z3y : Ann := { slots := [], objs := [] }
def l_simplex_table_goal__simplex_Solve_2H : Ann := { slots := [(4, .one (.own 4084 qT)), (22, .one (.own 212 qT)), (23, .one (.val (.int .i64))), (24, .one (.val (.int .i64)))], objs := [(4084, .buf qT), (212, .buf qT)] }
def z4e : Ann := { slots := [(4, .one (.own 4084 qT))], objs := [(4084, .buf qT), (212, .buf qT)] }
def z4d : Ann := { slots := [], objs := [] }
def l_simplex_table_goal__simplex_Solve_13H : Ann := { slots := [(0, .one (.fix (.pbox 4060 0))), (4, .one (.row 4188 qT)), (7, .one (.val (.int .i64))), (9, .one (.fix (.pbox 36 0))), (68, .one (.val (.int .i64))), (69, .one (.val (.int .i64)))], objs := [(4060, .box [.grd 4188 qT, .own 420 (.int .i64), .val (.int .i64), .val (.int .i64)]), (4188, .mat qT), (36, .box [.val .bool, .val (.slice (.int .u32)), .val (.slice (.int .u32))]), (420, .buf (.int .i64))] }
def z4c : Ann := { slots := [(0, .one (.fix (.pbox 4060 0))), (4, .one (.row 4188 qT))], objs := [(4060, .box [.grd 4188 qT, .own 420 (.int .i64), .val (.int .i64), .val (.int .i64)]), (4188, .mat qT), (36, .box [.val .bool, .val (.slice (.int .u32)), .val (.slice (.int .u32))]), (420, .buf (.int .i64))] }
def z4b : Ann := { slots := [], objs := [] }
def l_simplex_table_goal__simplex_Solve_8H : Ann := { slots := [(0, .one (.fix (.pbox 4060 0))), (4, .one (.row 4188 qT)), (53, .one (.own 420 (.int .i64))), (54, .one (.val (.int .i64))), (55, .one (.val (.int .i64)))], objs := [(4060, .box [.grd 4188 qT, .own 420 (.int .i64), .val (.int .i64), .val (.int .i64)]), (4188, .mat qT), (420, .buf (.int .i64))] }
def z4g : Ann := { slots := [], objs := [(4060, .box [.grd 4188 qT, .own 420 (.int .i64), .val (.int .i64), .val (.int .i64)]), (4188, .mat qT), (420, .buf (.int .i64))] }
def z4f : Ann := { slots := [], objs := [] }
def l_simplex_table_run__simplex_Solve_2H : Ann := { slots := [(0, .one (.fix (.pbox 4060 0))), (1, .one (.val (.int .i64))), (5, .one (.val (.int .i64)))], objs := [(4060, .box [.grd 4188 qT, .own 420 (.int .i64), .val (.int .i64), .val (.int .i64)]), (4188, .mat qT), (420, .buf (.int .i64))] }
def z4o : Ann := { slots := [(0, .one (.fix (.pbox 4060 0))), (5, .one (.val (.int .i64)))], objs := [(4060, .box [.grd 4188 qT, .own 420 (.int .i64), .val (.int .i64), .val (.int .i64)]), (4188, .mat qT), (420, .buf (.int .i64))] }
def z4n : Ann := { slots := [], objs := [] }
def l_simplex_table_pivot__simplex_table_run__simplex_Solve_2H : Ann := { slots := [(0, .one (.fix (.pbox 4060 0))), (1, .one (.val (.int .i64))), (6, .one (.fix (.pbox 4024 0))), (28, .one (.val (.int .i64))), (29, .one (.val (.int .i64)))], objs := [(4060, .box [.grd 4188 qT, .own 420 (.int .i64), .val (.int .i64), .val (.int .i64)]), (4024, .box [.val .bool, .val (.slice (.int .u32)), .val (.slice (.int .u32))]), (4188, .mat qT), (420, .buf (.int .i64))] }
def z2j : Ann := { slots := [(0, .one (.fix (.pbox 4060 0)))], objs := [(4060, .box [.grd 4188 qT, .own 420 (.int .i64), .val (.int .i64), .val (.int .i64)]), (4024, .box [.val .bool, .val (.slice (.int .u32)), .val (.slice (.int .u32))]), (4188, .mat qT), (420, .buf (.int .i64))] }
def z2i : Ann := { slots := [], objs := [] }
def l_simplex_table_pivot__simplex_table_run__simplex_Solve_12H : Ann := { slots := [(0, .one (.fix (.pbox 4060 0))), (1, .one (.val (.int .i64))), (8, .one (.val (.int .i64))), (9, .one (.fix (.pbox 36 0))), (87, .one (.val (.int .i64))), (88, .one (.val (.int .i64)))], objs := [(4060, .box [.grd 4188 qT, .own 420 (.int .i64), .val (.int .i64), .val (.int .i64)]), (36, .box [.val .bool, .val (.slice (.int .u32)), .val (.slice (.int .u32))]), (4188, .mat qT), (420, .buf (.int .i64))] }
def z2e : Ann := { slots := [(0, .one (.fix (.pbox 4060 0)))], objs := [(4060, .box [.grd 4188 qT, .own 420 (.int .i64), .val (.int .i64), .val (.int .i64)]), (36, .box [.val .bool, .val (.slice (.int .u32)), .val (.slice (.int .u32))]), (4188, .mat qT), (420, .buf (.int .i64))] }
def z2d : Ann := { slots := [], objs := [] }
def l_simplex_table_pivot__simplex_table_run__simplex_Solve_7H : Ann := { slots := [(0, .one (.fix (.pbox 4060 0))), (1, .one (.val (.int .i64))), (2, .one (.val (.int .i64))), (58, .one (.val (.int .i64))), (59, .one (.val (.int .i64)))], objs := [(4060, .box [.grd 4188 qT, .own 420 (.int .i64), .val (.int .i64), .val (.int .i64)]), (4188, .mat qT), (420, .buf (.int .i64))] }
def z2l : Ann := { slots := [(0, .one (.fix (.pbox 4060 0)))], objs := [(4060, .box [.grd 4188 qT, .own 420 (.int .i64), .val (.int .i64), .val (.int .i64)]), (4188, .mat qT), (420, .buf (.int .i64))] }
def z2k : Ann := { slots := [], objs := [] }
def l_simplex_table_run__simplex_Solve_1H : Ann := { slots := [(0, .one (.fix (.pbox 4060 0))), (1, .one (.val (.int .i64)))], objs := [(4060, .box [.grd 4188 qT, .own 420 (.int .i64), .val (.int .i64), .val (.int .i64)]), (4188, .mat qT), (420, .buf (.int .i64))] }
def z4m : Ann := { slots := [], objs := [] }
def z4l : Ann := { slots := [(4, .one (.val (.int .i64)))], objs := [(4060, .box [.grd 4188 qT, .own 420 (.int .i64), .val (.int .i64), .val (.int .i64)]), (4188, .mat qT), (420, .buf (.int .i64))] }
def l_simplex_table_solution__simplex_Solve_3H : Ann := { slots := [(0, .one (.fix (.pbox 4060 0))), (3, .one (.own 4040 qT)), (14, .one (.own 420 (.int .i64))), (15, .one (.val (.int .i64))), (16, .one (.val (.int .i64)))], objs := [(4060, .box [.grd 4188 qT, .own 420 (.int .i64), .val (.int .i64), .val (.int .i64)]), (4040, .buf qT), (420, .buf (.int .i64)), (4188, .mat qT)] }
def z41 : Ann := { slots := [(3, .one (.own 4040 qT))], objs := [(4040, .buf qT), (4060, .box [.grd 4188 qT, .own 420 (.int .i64), .val (.int .i64), .val (.int .i64)]), (420, .buf (.int .i64)), (4188, .mat qT)] }
def z40 : Ann := { slots := [], objs := [] }
def l_simplex_Solve_16H : Ann := { slots := [(5, .one (.fix (.pbox 4060 0))), (6, .one (.val (.int .i64))), (8, .one (.own 464 qT)), (130, .one (.own 420 (.int .i64))), (131, .one (.val (.int .i64))), (132, .one (.val (.int .i64)))], objs := [(4060, .box [.grd 4188 qT, .own 420 (.int .i64), .val (.int .i64), .val (.int .i64)]), (464, .buf qT), (420, .buf (.int .i64)), (4188, .mat qT)] }
def zk5 : Ann := { slots := [(8, .one (.own 464 qT))], objs := [(464, .buf qT), (4060, .box [.grd 4188 qT, .own 420 (.int .i64), .val (.int .i64), .val (.int .i64)]), (420, .buf (.int .i64)), (4188, .mat qT)] }
def zk4 : Ann := { slots := [], objs := [] }
def l_simplex_table_goal__simplex_table_feasible__simplex_Solve_2H : Ann := { slots := [(4, .one (.own 8084 qT)), (22, .one (.own 4268 qT)), (23, .one (.val (.int .i64))), (24, .one (.val (.int .i64)))], objs := [(8084, .buf qT), (4268, .buf qT)] }
def z23 : Ann := { slots := [(4, .one (.own 8084 qT))], objs := [(8084, .buf qT), (4268, .buf qT)] }
def z22 : Ann := { slots := [], objs := [] }
def l_simplex_table_goal__simplex_table_feasible__simplex_Solve_13H : Ann := { slots := [(0, .one (.fix (.pbox 4060 0))), (4, .one (.row 8188 qT)), (7, .one (.val (.int .i64))), (9, .one (.fix (.pbox 36 0))), (68, .one (.val (.int .i64))), (69, .one (.val (.int .i64)))], objs := [(4060, .box [.grd 8188 qT, .own 420 (.int .i64), .val (.int .i64), .val (.int .i64)]), (8188, .mat qT), (36, .box [.val .bool, .val (.slice (.int .u32)), .val (.slice (.int .u32))]), (420, .buf (.int .i64))] }
def z1x : Ann := { slots := [(0, .one (.fix (.pbox 4060 0))), (4, .one (.row 8188 qT))], objs := [(4060, .box [.grd 8188 qT, .own 420 (.int .i64), .val (.int .i64), .val (.int .i64)]), (8188, .mat qT), (36, .box [.val .bool, .val (.slice (.int .u32)), .val (.slice (.int .u32))]), (420, .buf (.int .i64))] }
def z1w : Ann := { slots := [], objs := [] }
def l_simplex_table_goal__simplex_table_feasible__simplex_Solve_8H : Ann := { slots := [(0, .one (.fix (.pbox 4060 0))), (4, .one (.row 8188 qT)), (53, .one (.own 420 (.int .i64))), (54, .one (.val (.int .i64))), (55, .one (.val (.int .i64)))], objs := [(4060, .box [.grd 8188 qT, .own 420 (.int .i64), .val (.int .i64), .val (.int .i64)]), (8188, .mat qT), (420, .buf (.int .i64))] }
def z25 : Ann := { slots := [], objs := [(4060, .box [.grd 8188 qT, .own 420 (.int .i64), .val (.int .i64), .val (.int .i64)]), (8188, .mat qT), (420, .buf (.int .i64))] }
def z24 : Ann := { slots := [], objs := [] }
def l_simplex_table_pivot__simplex_table_feasible__simplex_Solve_2H : Ann := { slots := [(0, .one (.fix (.pbox 4060 0))), (1, .one (.val (.int .i64))), (6, .one (.fix (.pbox 8024 0))), (28, .one (.val (.int .i64))), (29, .one (.val (.int .i64)))], objs := [(4060, .box [.grd 8188 qT, .own 420 (.int .i64), .val (.int .i64), .val (.int .i64)]), (8024, .box [.val .bool, .val (.slice (.int .u32)), .val (.slice (.int .u32))]), (8188, .mat qT), (420, .buf (.int .i64))] }
def z1z : Ann := { slots := [(0, .one (.fix (.pbox 4060 0)))], objs := [(4060, .box [.grd 8188 qT, .own 420 (.int .i64), .val (.int .i64), .val (.int .i64)]), (8024, .box [.val .bool, .val (.slice (.int .u32)), .val (.slice (.int .u32))]), (8188, .mat qT), (420, .buf (.int .i64))] }
def z1y : Ann := { slots := [], objs := [] }
def l_simplex_table_pivot__simplex_table_feasible__simplex_Solve_12H : Ann := { slots := [(0, .one (.fix (.pbox 4060 0))), (1, .one (.val (.int .i64))), (8, .one (.val (.int .i64))), (9, .one (.fix (.pbox 36 0))), (87, .one (.val (.int .i64))), (88, .one (.val (.int .i64)))], objs := [(4060, .box [.grd 8188 qT, .own 420 (.int .i64), .val (.int .i64), .val (.int .i64)]), (36, .box [.val .bool, .val (.slice (.int .u32)), .val (.slice (.int .u32))]), (8188, .mat qT), (420, .buf (.int .i64))] }
def z1v : Ann := { slots := [(0, .one (.fix (.pbox 4060 0)))], objs := [(4060, .box [.grd 8188 qT, .own 420 (.int .i64), .val (.int .i64), .val (.int .i64)]), (36, .box [.val .bool, .val (.slice (.int .u32)), .val (.slice (.int .u32))]), (8188, .mat qT), (420, .buf (.int .i64))] }
def z1u : Ann := { slots := [], objs := [] }
def l_simplex_table_pivot__simplex_table_feasible__simplex_Solve_7H : Ann := { slots := [(0, .one (.fix (.pbox 4060 0))), (1, .one (.val (.int .i64))), (2, .one (.val (.int .i64))), (58, .one (.val (.int .i64))), (59, .one (.val (.int .i64)))], objs := [(4060, .box [.grd 8188 qT, .own 420 (.int .i64), .val (.int .i64), .val (.int .i64)]), (8188, .mat qT), (420, .buf (.int .i64))] }
def z21 : Ann := { slots := [(0, .one (.fix (.pbox 4060 0)))], objs := [(4060, .box [.grd 8188 qT, .own 420 (.int .i64), .val (.int .i64), .val (.int .i64)]), (8188, .mat qT), (420, .buf (.int .i64))] }
def z20 : Ann := { slots := [], objs := [] }
def l_simplex_table_run__simplex_table_feasible__simplex_Solve_2H : Ann := { slots := [(0, .one (.fix (.pbox 4060 0))), (1, .one (.val (.int .i64))), (5, .one (.val (.int .i64)))], objs := [(4060, .box [.grd 8188 qT, .own 420 (.int .i64), .val (.int .i64), .val (.int .i64)]), (8188, .mat qT), (420, .buf (.int .i64))] }
def z29 : Ann := { slots := [(0, .one (.fix (.pbox 4060 0))), (5, .one (.val (.int .i64)))], objs := [(4060, .box [.grd 8188 qT, .own 420 (.int .i64), .val (.int .i64), .val (.int .i64)]), (8188, .mat qT), (420, .buf (.int .i64))] }
def z28 : Ann := { slots := [], objs := [] }
def l_simplex_table_pivot__simplex_table_run__simplex_table_feasible__simplex_Solve_2H : Ann := { slots := [(0, .one (.fix (.pbox 4060 0))), (1, .one (.val (.int .i64))), (6, .one (.fix (.pbox 4024 0))), (28, .one (.val (.int .i64))), (29, .one (.val (.int .i64)))], objs := [(4060, .box [.grd 8188 qT, .own 420 (.int .i64), .val (.int .i64), .val (.int .i64)]), (4024, .box [.val .bool, .val (.slice (.int .u32)), .val (.slice (.int .u32))]), (8188, .mat qT), (420, .buf (.int .i64))] }
def z1b : Ann := { slots := [(0, .one (.fix (.pbox 4060 0)))], objs := [(4060, .box [.grd 8188 qT, .own 420 (.int .i64), .val (.int .i64), .val (.int .i64)]), (4024, .box [.val .bool, .val (.slice (.int .u32)), .val (.slice (.int .u32))]), (8188, .mat qT), (420, .buf (.int .i64))] }
def z1a : Ann := { slots := [], objs := [] }
def l_simplex_table_pivot__simplex_table_run__simplex_table_feasible__simplex_Solve_12H : Ann := { slots := [(0, .one (.fix (.pbox 4060 0))), (1, .one (.val (.int .i64))), (8, .one (.val (.int .i64))), (9, .one (.fix (.pbox 36 0))), (87, .one (.val (.int .i64))), (88, .one (.val (.int .i64)))], objs := [(4060, .box [.grd 8188 qT, .own 420 (.int .i64), .val (.int .i64), .val (.int .i64)]), (36, .box [.val .bool, .val (.slice (.int .u32)), .val (.slice (.int .u32))]), (8188, .mat qT), (420, .buf (.int .i64))] }
def z19 : Ann := { slots := [(0, .one (.fix (.pbox 4060 0)))], objs := [(4060, .box [.grd 8188 qT, .own 420 (.int .i64), .val (.int .i64), .val (.int .i64)]), (36, .box [.val .bool, .val (.slice (.int .u32)), .val (.slice (.int .u32))]), (8188, .mat qT), (420, .buf (.int .i64))] }
def z18 : Ann := { slots := [], objs := [] }
def l_simplex_table_pivot__simplex_table_run__simplex_table_feasible__simplex_Solve_7H : Ann := { slots := [(0, .one (.fix (.pbox 4060 0))), (1, .one (.val (.int .i64))), (2, .one (.val (.int .i64))), (58, .one (.val (.int .i64))), (59, .one (.val (.int .i64)))], objs := [(4060, .box [.grd 8188 qT, .own 420 (.int .i64), .val (.int .i64), .val (.int .i64)]), (8188, .mat qT), (420, .buf (.int .i64))] }
def z1d : Ann := { slots := [(0, .one (.fix (.pbox 4060 0)))], objs := [(4060, .box [.grd 8188 qT, .own 420 (.int .i64), .val (.int .i64), .val (.int .i64)]), (8188, .mat qT), (420, .buf (.int .i64))] }
def z1c : Ann := { slots := [], objs := [] }
def l_simplex_table_run__simplex_table_feasible__simplex_Solve_1H : Ann := { slots := [(0, .one (.fix (.pbox 4060 0))), (1, .one (.val (.int .i64)))], objs := [(4060, .box [.grd 8188 qT, .own 420 (.int .i64), .val (.int .i64), .val (.int .i64)]), (8188, .mat qT), (420, .buf (.int .i64))] }
def z27 : Ann := { slots := [], objs := [] }
def z26 : Ann := { slots := [(4, .one (.val (.int .i64)))], objs := [(4060, .box [.grd 8188 qT, .own 420 (.int .i64), .val (.int .i64), .val (.int .i64)]), (8188, .mat qT), (420, .buf (.int .i64))] }
def l_simplex_table_feasible__simplex_Solve_23H : Ann := { slots := [(0, .one (.fix (.pbox 4060 0))), (8, .one (.val (.int .i64))), (112, .one (.val (.int .i64))), (113, .one (.val (.int .i64)))], objs := [(4060, .box [.grd 8188 qT, .own 420 (.int .i64), .val (.int .i64), .val (.int .i64)]), (8188, .mat qT), (420, .buf (.int .i64))] }
def z3p : Ann := { slots := [(0, .one (.fix (.pbox 4060 0)))], objs := [(4060, .box [.grd 8188 qT, .own 420 (.int .i64), .val (.int .i64), .val (.int .i64)]), (8188, .mat qT), (420, .buf (.int .i64))] }
def z3o : Ann := { slots := [], objs := [] }
def l_simplex_table_feasible__simplex_Solve_19H : Ann := { slots := [(0, .one (.fix (.pbox 4060 0))), (4, .one (.val (.int .i64))), (102, .one (.own 420 (.int .i64))), (103, .one (.val (.int .i64))), (104, .one (.val (.int .i64)))], objs := [(4060, .box [.grd 8188 qT, .own 420 (.int .i64), .val (.int .i64), .val (.int .i64)]), (420, .buf (.int .i64)), (8188, .mat qT)] }
def z3n : Ann := { slots := [], objs := [(4060, .box [.grd 8188 qT, .own 420 (.int .i64), .val (.int .i64), .val (.int .i64)]), (420, .buf (.int .i64)), (8188, .mat qT)] }
def z3m : Ann := { slots := [], objs := [] }
def z1p : Nat → Int → Int → Int → Int → List (List (Bool × ((List Int) × (List Int)))) → List (Bool × ((List Int) × (List Int))) → List (List (Bool × ((List Int) × (List Int)))) → List Int → Option (LR z5h z5g)
 | 0, _, _, _, _, _, _, _, _ => none
 | m + 1, s25, s26, b4060_2, b4060_3, b4072, b4084, b360, b420 =>
  if decide (s26 < s25) = true then
  if (0 : Int) ≤ IntKind.i64.wrap ((IntKind.i64.wrap (b4060_2 + b4060_3)) + 2) then
  if IntKind.i64.wrap ((IntKind.i64.wrap (b4060_2 + b4060_3)) + 2) ≤ IntKind.i64.wrap ((IntKind.i64.wrap (b4060_2 + b4060_3)) + 2) then
  if (IntKind.i64.wrap ((IntKind.i64.wrap (b4060_2 + b4060_3)) + 2)) * 56 ≤ 281474976710656 then
  if (0 : Int) ≤ s26 then
  if s26 < b4072.length then
  (z6z fuel 1).bind fun r1 =>
  if (0 : Int) ≤ IntKind.i64.wrap (b4060_2 + s26) then
  if IntKind.i64.wrap (b4060_2 + s26) < ((b4072.getD s26.toNat []).take (List.replicate ((IntKind.i64.wrap ((IntKind.i64.wrap (b4060_2 + b4060_3)) + 2)).toNat) ((false, ([], [])) : Bool × ((List Int) × (List Int)))).length ++ (List.replicate ((IntKind.i64.wrap ((IntKind.i64.wrap (b4060_2 + b4060_3)) + 2)).toNat) ((false, ([], [])) : Bool × ((List Int) × (List Int)))).drop (b4072.getD s26.toNat []).length).length then
  (z6z fuel (-1)).bind fun r2 =>
  if (0 : Int) ≤ IntKind.i64.wrap (b4060_2 + b4060_3) then
  if IntKind.i64.wrap (b4060_2 + b4060_3) < (((b4072.getD s26.toNat []).take (List.replicate ((IntKind.i64.wrap ((IntKind.i64.wrap (b4060_2 + b4060_3)) + 2)).toNat) ((false, ([], [])) : Bool × ((List Int) × (List Int)))).length ++ (List.replicate ((IntKind.i64.wrap ((IntKind.i64.wrap (b4060_2 + b4060_3)) + 2)).toNat) ((false, ([], [])) : Bool × ((List Int) × (List Int)))).drop (b4072.getD s26.toNat []).length).set ((IntKind.i64.wrap (b4060_2 + s26)).toNat) r1).length then
  if (0 : Int) ≤ s26 then
  if s26 < b4084.length then
  if (0 : Int) ≤ IntKind.i64.wrap ((IntKind.i64.wrap (b4060_2 + b4060_3)) + 1) then
  if IntKind.i64.wrap ((IntKind.i64.wrap (b4060_2 + b4060_3)) + 1) < ((((b4072.getD s26.toNat []).take (List.replicate ((IntKind.i64.wrap ((IntKind.i64.wrap (b4060_2 + b4060_3)) + 2)).toNat) ((false, ([], [])) : Bool × ((List Int) × (List Int)))).length ++ (List.replicate ((IntKind.i64.wrap ((IntKind.i64.wrap (b4060_2 + b4060_3)) + 2)).toNat) ((false, ([], [])) : Bool × ((List Int) × (List Int)))).drop (b4072.getD s26.toNat []).length).set ((IntKind.i64.wrap (b4060_2 + s26)).toNat) r1).set ((IntKind.i64.wrap (b4060_2 + b4060_3)).toNat) r2).length then
  if (b360.length + 1) * 24 ≤ 140737488355328 then
  if (b420.length + 1) * 8 ≤ 140737488355328 then
  z1p m s25 (IntKind.i64.wrap (s26 + 1)) b4060_2 b4060_3 b4072 b4084 (b360 ++ [((((b4072.getD s26.toNat []).take (List.replicate ((IntKind.i64.wrap ((IntKind.i64.wrap (b4060_2 + b4060_3)) + 2)).toNat) ((false, ([], [])) : Bool × ((List Int) × (List Int)))).length ++ (List.replicate ((IntKind.i64.wrap ((IntKind.i64.wrap (b4060_2 + b4060_3)) + 2)).toNat) ((false, ([], [])) : Bool × ((List Int) × (List Int)))).drop (b4072.getD s26.toNat []).length).set ((IntKind.i64.wrap (b4060_2 + s26)).toNat) r1).set ((IntKind.i64.wrap (b4060_2 + b4060_3)).toNat) r2).set ((IntKind.i64.wrap ((IntKind.i64.wrap (b4060_2 + b4060_3)) + 1)).toNat) ((b4084.getD s26.toNat (false, ([], []))).1, ((b4084.getD s26.toNat (false, ([], []))).2))]) (b420 ++ [IntKind.i64.wrap (b4060_2 + s26)])
  else none
  else none
  else none
  else none
  else none
  else none
  else none
  else none
  else none
  else none
  else none
  else none
  else none
  else none
  else none
  else
  some (.exit (b4060_2, b4060_3, b4072, b4084, b360, b420, ()))
def l_simplex_start__simplex_Solve_4L : LSpec := { h := l_simplex_start__simplex_Solve_4H, x := z5h, r := z5g, xid := 0, rt := false, pins := [4060, 4072, 4084], f := fun k d => z1p k d.1 d.2.1 d.2.2.1 d.2.2.2.1 d.2.2.2.2.1 d.2.2.2.2.2.1 d.2.2.2.2.2.2.1 d.2.2.2.2.2.2.2.1 }
def z0i : Nat → Int → Int → Int → Int → Int → List (List (Bool × ((List Int) × (List Int)))) → List Int → Option (LR z3z z3y)
 | 0, _, _, _, _, _, _, _ => none
 | m + 1, s3, s23, s24, b4060_2, b4060_3, b360, b420 =>
  if decide (s24 < s23) = true then
  if (0 : Int) ≤ s24 then
  if s24 < b360.length then
  (z1m fuel (b360, (b420, (b4060_2, b4060_3)))).bind fun r1 =>
  if (0 : Int) ≤ r1 then
  if r1 < (b360.getD s24.toNat []).length then
  (z1k fuel (((b360.getD s24.toNat []).getD r1.toNat (false, ([], []))).1, (((b360.getD s24.toNat []).getD r1.toNat (false, ([], []))).2))).bind fun r2 =>
  if decide (r2 < 0) = true then
  if decide (s3 < 0) = false then
  if (0 : Int) ≤ s3 then
  if s3 < b360.length then
  (z1m fuel (b360, (b420, (b4060_2, b4060_3)))).bind fun r3 =>
  if (0 : Int) ≤ r3 then
  if r3 < (b360.getD s3.toNat []).length then
  (z70 fuel (((b360.getD s24.toNat []).getD r1.toNat (false, ([], []))).1, (((b360.getD s24.toNat []).getD r1.toNat (false, ([], []))).2)) (((b360.getD s3.toNat []).getD r3.toNat (false, ([], []))).1, (((b360.getD s3.toNat []).getD r3.toNat (false, ([], []))).2))).bind fun r4 =>
  if decide (r4 < 0) = true then
  z0i m s24 s23 (IntKind.i64.wrap (s24 + 1)) b4060_2 b4060_3 b360 b420
  else
  z0i m s3 s23 (IntKind.i64.wrap (s24 + 1)) b4060_2 b4060_3 b360 b420
  else none
  else none
  else none
  else none
  else
  z0i m s24 s23 (IntKind.i64.wrap (s24 + 1)) b4060_2 b4060_3 b360 b420
  else
  z0i m s3 s23 (IntKind.i64.wrap (s24 + 1)) b4060_2 b4060_3 b360 b420
  else none
  else none
  else none
  else none
  else
  some (.exit (s3, b4060_2, b4060_3, b360, b420, ()))
def l_simplex_table_feasible__simplex_Solve_3L : LSpec := { h := l_simplex_table_feasible__simplex_Solve_3H, x := z3z, r := z3y, xid := 0, rt := false, pins := [4060, 360, 420], f := fun k d => z0i k d.1 d.2.1 d.2.2.1 d.2.2.2.1 d.2.2.2.2.1 d.2.2.2.2.2.1 d.2.2.2.2.2.2.1 }
def z0t : Nat → Int → Int → List (Bool × ((List Int) × (List Int))) → List (Bool × ((List Int) × (List Int))) → Option (LR z4e z4d)
 | 0, _, _, _, _ => none
 | m + 1, s23, s24, b4084, b212 =>
  if decide (s24 < s23) = true then
  if (0 : Int) ≤ s24 then
  if s24 < b212.length then
  (z71 fuel ((b212.getD s24.toNat (false, ([], []))).1, ((b212.getD s24.toNat (false, ([], []))).2))).bind fun r1 =>
  if (0 : Int) ≤ s24 then
  if s24 < b4084.length then
  z0t m s23 (IntKind.i64.wrap (s24 + 1)) (b4084.set s24.toNat r1) b212
  else none
  else none
  else none
  else none
  else
  some (.exit (b4084, b212, ()))
def l_simplex_table_goal__simplex_Solve_2L : LSpec := { h := l_simplex_table_goal__simplex_Solve_2H, x := z4e, r := z4d, xid := 0, rt := false, pins := [4084, 212], f := fun k d => z0t k d.1 d.2.1 d.2.2.1 d.2.2.2.1 }
def z14 : Nat → Nat → Int → Int → Int → Int → Int → List (List (Bool × ((List Int) × (List Int)))) → Bool → List Int → List Int → List Int → Option (LR z4c z4b)
 | 0, _, _, _, _, _, _, _, _, _, _, _ => none
 | m + 1, s4, s7, s68, s69, b4060_2, b4060_3, b4188, b36_0, b36_1, b36_2, b420 =>
  if decide (s69 < s68) = true then
  if (0 : Int) ≤ s69 then
  if s69 < (b4188.getD s4 []).length then
  if (0 : Int) ≤ s7 then
  if s7 < b4188.length then
  if (0 : Int) ≤ s69 then
  if s69 < (b4188.getD s7.toNat []).length then
  (z3a fuel (b36_0, (b36_1, b36_2)) (((b4188.getD s7.toNat []).getD s69.toNat (false, ([], []))).1, (((b4188.getD s7.toNat []).getD s69.toNat (false, ([], []))).2))).bind fun r1 =>
  (z52 fuel (((b4188.getD s4 []).getD s69.toNat (false, ([], []))).1, (((b4188.getD s4 []).getD s69.toNat (false, ([], []))).2)) r1).bind fun r2 =>
  if (0 : Int) ≤ s69 then
  if s69 < (b4188.getD s4 []).length then
  z14 m s4 s7 s68 (IntKind.i64.wrap (s69 + 1)) b4060_2 b4060_3 (b4188.set s4 ((b4188.getD s4 []).set s69.toNat r2)) b36_0 b36_1 b36_2 b420
  else none
  else none
  else none
  else none
  else none
  else none
  else none
  else none
  else
  some (.exit (s4, b4060_2, b4060_3, b4188, b36_0, b36_1, b36_2, b420, ()))
def l_simplex_table_goal__simplex_Solve_13L : LSpec := { h := l_simplex_table_goal__simplex_Solve_13H, x := z4c, r := z4b, xid := 4, rt := false, pins := [4060, 4188, 36, 420], f := fun k d => z14 k d.1 d.2.1 d.2.2.1 d.2.2.2.1 d.2.2.2.2.1 d.2.2.2.2.2.1 d.2.2.2.2.2.2.1 d.2.2.2.2.2.2.2.1 d.2.2.2.2.2.2.2.2.1 d.2.2.2.2.2.2.2.2.2.1 d.2.2.2.2.2.2.2.2.2.2.1 }
def z0n : Nat → Nat → Int → Int → Int → Int → List (List (Bool × ((List Int) × (List Int)))) → List Int → Option (LR z4g z4f)
 | 0, _, _, _, _, _, _, _ => none
 | m + 1, s4, s54, s55, b4060_2, b4060_3, b4188, b420 =>
  if decide (s55 < s54) = true then
  if (0 : Int) ≤ s55 then
  if s55 < b420.length then
  if (0 : Int) ≤ b420.getD s55.toNat 0 then
  if b420.getD s55.toNat 0 < (b4188.getD s4 []).length then
  (z1k fuel (((b4188.getD s4 []).getD ((b420.getD s55.toNat 0).toNat) (false, ([], []))).1, (((b4188.getD s4 []).getD ((b420.getD s55.toNat 0).toNat) (false, ([], []))).2))).bind fun r1 =>
  if (r1 == 0) = true then
  z0n m s4 s54 (IntKind.i64.wrap (s55 + 1)) b4060_2 b4060_3 b4188 b420
  else
  match z14 m s4 s55 ((b4188.getD s4 []).length : Int) 0 b4060_2 b4060_3 b4188 (((b4188.getD s4 []).getD ((b420.getD s55.toNat 0).toNat) (false, ([], []))).1) ((((b4188.getD s4 []).getD ((b420.getD s55.toNat 0).toNat) (false, ([], []))).2).1) ((((b4188.getD s4 []).getD ((b420.getD s55.toNat 0).toNat) (false, ([], []))).2).2) b420 with
  | none => none
  | some (.exit d2) =>
   z0n m d2.1 s54 (IntKind.i64.wrap (s55 + 1)) d2.2.1 d2.2.2.1 d2.2.2.2.1 d2.2.2.2.2.2.2.2.1
  | some (.ret d2) =>
   none
  else none
  else none
  else none
  else none
  else
  some (.exit (b4060_2, b4060_3, b4188, b420, ()))
def l_simplex_table_goal__simplex_Solve_8L : LSpec := { h := l_simplex_table_goal__simplex_Solve_8H, x := z4g, r := z4f, xid := 2, rt := false, pins := [4060, 4188, 420], f := fun k d => z0n k d.1 d.2.1 d.2.2.1 d.2.2.2.1 d.2.2.2.2.1 d.2.2.2.2.2.1 d.2.2.2.2.2.2.1 }
def z1e : Nat → Int → Int → Int → Int → List (List (Bool × ((List Int) × (List Int)))) → List Int → Option (LR z4o z4n)
 | 0, _, _, _, _, _, _ => none
 | m + 1, s1, s5, b4060_2, b4060_3, b4188, b420 =>
  if decide (s5 < s1) = true then
  if (0 : Int) ≤ b4060_3 then
  if b4060_3 < b4188.length then
  if (0 : Int) ≤ s5 then
  if s5 < (b4188.getD b4060_3.toNat []).length then
  (z1k fuel (((b4188.getD b4060_3.toNat []).getD s5.toNat (false, ([], []))).1, (((b4188.getD b4060_3.toNat []).getD s5.toNat (false, ([], []))).2))).bind fun r1 =>
  if decide (r1 ≥ 0) = true then
  z1e m s1 (IntKind.i64.wrap (s5 + 1)) b4060_2 b4060_3 b4188 b420
  else
  some (.exit (s5, b4060_2, b4060_3, b4188, b420, ()))
  else none
  else none
  else none
  else none
  else
  some (.exit (s5, b4060_2, b4060_3, b4188, b420, ()))
def l_simplex_table_run__simplex_Solve_2L : LSpec := { h := l_simplex_table_run__simplex_Solve_2H, x := z4o, r := z4n, xid := 2, rt := false, pins := [4060, 4188, 420], f := fun k d => z1e k d.1 d.2.1 d.2.2.1 d.2.2.2.1 d.2.2.2.2.1 d.2.2.2.2.2.1 }
def z0k : Nat → Int → Int → Int → Int → Int → Bool → List Int → List Int → List (List (Bool × ((List Int) × (List Int)))) → List Int → Option (LR z2j z2i)
 | 0, _, _, _, _, _, _, _, _, _, _ => none
 | m + 1, s1, s28, s29, b4060_2, b4060_3, b4024_0, b4024_1, b4024_2, b4188, b420 =>
  if decide (s29 < s28) = true then
  if (0 : Int) ≤ s1 then
  if s1 < b4188.length then
  if (0 : Int) ≤ s1 then
  if s1 < b4188.length then
  if (0 : Int) ≤ s29 then
  if s29 < (b4188.getD s1.toNat []).length then
  (z5m fuel (((b4188.getD s1.toNat []).getD s29.toNat (false, ([], []))).1, (((b4188.getD s1.toNat []).getD s29.toNat (false, ([], []))).2)) (b4024_0, (b4024_1, b4024_2))).bind fun r1 =>
  if (0 : Int) ≤ s29 then
  if s29 < (b4188.getD s1.toNat []).length then
  z0k m s1 s28 (IntKind.i64.wrap (s29 + 1)) b4060_2 b4060_3 b4024_0 b4024_1 b4024_2 (b4188.set s1.toNat ((b4188.getD s1.toNat []).set s29.toNat r1)) b420
  else none
  else none
  else none
  else none
  else none
  else none
  else none
  else none
  else
  some (.exit (b4060_2, b4060_3, b4024_0, b4024_1, b4024_2, b4188, b420, ()))
def l_simplex_table_pivot__simplex_table_run__simplex_Solve_2L : LSpec := { h := l_simplex_table_pivot__simplex_table_run__simplex_Solve_2H, x := z2j, r := z2i, xid := 0, rt := false, pins := [4060, 4024, 4188, 420], f := fun k d => z0k k d.1 d.2.1 d.2.2.1 d.2.2.2.1 d.2.2.2.2.1 d.2.2.2.2.2.1 d.2.2.2.2.2.2.1 d.2.2.2.2.2.2.2.1 d.2.2.2.2.2.2.2.2.1 d.2.2.2.2.2.2.2.2.2.1 }
def z0h : Nat → Int → Int → Int → Int → Int → Int → Bool → List Int → List Int → List (List (Bool × ((List Int) × (List Int)))) → List Int → Option (LR z2e z2d)
 | 0, _, _, _, _, _, _, _, _, _, _, _ => none
 | m + 1, s1, s8, s87, s88, b4060_2, b4060_3, b36_0, b36_1, b36_2, b4188, b420 =>
  if decide (s88 < s87) = true then
  if (0 : Int) ≤ s8 then
  if s8 < b4188.length then
  if (0 : Int) ≤ s8 then
  if s8 < b4188.length then
  if (0 : Int) ≤ s88 then
  if s88 < (b4188.getD s8.toNat []).length then
  if (0 : Int) ≤ s1 then
  if s1 < b4188.length then
  if (0 : Int) ≤ s88 then
  if s88 < (b4188.getD s1.toNat []).length then
  (z3a fuel (b36_0, (b36_1, b36_2)) (((b4188.getD s1.toNat []).getD s88.toNat (false, ([], []))).1, (((b4188.getD s1.toNat []).getD s88.toNat (false, ([], []))).2))).bind fun r1 =>
  (z52 fuel (((b4188.getD s8.toNat []).getD s88.toNat (false, ([], []))).1, (((b4188.getD s8.toNat []).getD s88.toNat (false, ([], []))).2)) r1).bind fun r2 =>
  if (0 : Int) ≤ s88 then
  if s88 < (b4188.getD s8.toNat []).length then
  z0h m s1 s8 s87 (IntKind.i64.wrap (s88 + 1)) b4060_2 b4060_3 b36_0 b36_1 b36_2 (b4188.set s8.toNat ((b4188.getD s8.toNat []).set s88.toNat r2)) b420
  else none
  else none
  else none
  else none
  else none
  else none
  else none
  else none
  else none
  else none
  else none
  else none
  else
  some (.exit (b4060_2, b4060_3, b36_0, b36_1, b36_2, b4188, b420, ()))
def l_simplex_table_pivot__simplex_table_run__simplex_Solve_12L : LSpec := { h := l_simplex_table_pivot__simplex_table_run__simplex_Solve_12H, x := z2e, r := z2d, xid := 4, rt := false, pins := [4060, 36, 4188, 420], f := fun k d => z0h k d.1 d.2.1 d.2.2.1 d.2.2.2.1 d.2.2.2.2.1 d.2.2.2.2.2.1 d.2.2.2.2.2.2.1 d.2.2.2.2.2.2.2.1 d.2.2.2.2.2.2.2.2.1 d.2.2.2.2.2.2.2.2.2.1 d.2.2.2.2.2.2.2.2.2.2.1 }
def z07 : Nat → Int → Int → Int → Int → Int → Int → List (List (Bool × ((List Int) × (List Int)))) → List Int → Option (LR z2l z2k)
 | 0, _, _, _, _, _, _, _, _ => none
 | m + 1, s1, s2, s58, s59, b4060_2, b4060_3, b4188, b420 =>
  if decide (s59 < s58) = true then
  if (0 : Int) ≤ s59 then
  if s59 < b4188.length then
  if (0 : Int) ≤ s2 then
  if s2 < (b4188.getD s59.toNat []).length then
  if (s59 == s1) = false then
  (z1k fuel (((b4188.getD s59.toNat []).getD s2.toNat (false, ([], []))).1, (((b4188.getD s59.toNat []).getD s2.toNat (false, ([], []))).2))).bind fun r1 =>
  if (r1 == 0) = true then
  z07 m s1 s2 s58 (IntKind.i64.wrap (s59 + 1)) b4060_2 b4060_3 b4188 b420
  else
  if (0 : Int) ≤ s59 then
  if s59 < b4188.length then
  match z0h m s1 s59 ((b4188.getD s59.toNat []).length : Int) 0 b4060_2 b4060_3 (((b4188.getD s59.toNat []).getD s2.toNat (false, ([], []))).1) ((((b4188.getD s59.toNat []).getD s2.toNat (false, ([], []))).2).1) ((((b4188.getD s59.toNat []).getD s2.toNat (false, ([], []))).2).2) b4188 b420 with
  | none => none
  | some (.exit d2) =>
   z07 m s1 s2 s58 (IntKind.i64.wrap (s59 + 1)) d2.1 d2.2.1 d2.2.2.2.2.2.1 d2.2.2.2.2.2.2.1
  | some (.ret d2) =>
   none
  else none
  else none
  else
  z07 m s1 s2 s58 (IntKind.i64.wrap (s59 + 1)) b4060_2 b4060_3 b4188 b420
  else none
  else none
  else none
  else none
  else
  some (.exit (b4060_2, b4060_3, b4188, b420, ()))
def l_simplex_table_pivot__simplex_table_run__simplex_Solve_7L : LSpec := { h := l_simplex_table_pivot__simplex_table_run__simplex_Solve_7H, x := z2l, r := z2k, xid := 2, rt := false, pins := [4060, 4188, 420], f := fun k d => z07 k d.1 d.2.1 d.2.2.1 d.2.2.2.1 d.2.2.2.2.1 d.2.2.2.2.2.1 d.2.2.2.2.2.2.1 d.2.2.2.2.2.2.2.1 }
def z11 : Nat → Int → Int → Int → List (List (Bool × ((List Int) × (List Int)))) → List Int → Option (LR z4m z4l)
 | 0, _, _, _, _, _ => none
 | m + 1, s1, b4060_2, b4060_3, b4188, b420 =>
  match z1e m s1 0 b4060_2 b4060_3 b4188 b420 with
  | none => none
  | some (.exit d1) =>
   if (d1.1 == s1) = true then
   some (.ret ((-1), d1.2.1, d1.2.2.1, d1.2.2.2.1, d1.2.2.2.2.1, ()))
   else
   (z35 fuel (d1.2.2.2.1, (d1.2.2.2.2.1, (d1.2.1, d1.2.2.1))) d1.1).bind fun r2 =>
   if decide (r2 < 0) = true then
   some (.ret (d1.1, d1.2.1, d1.2.2.1, d1.2.2.2.1, d1.2.2.2.2.1, ()))
   else
   if (0 : Int) ≤ r2 then
   if r2 < d1.2.2.2.1.length then
   if (0 : Int) ≤ d1.1 then
   if d1.1 < (d1.2.2.2.1.getD r2.toNat []).length then
   if (0 : Int) ≤ r2 then
   if r2 < d1.2.2.2.1.length then
   match z0k m r2 ((d1.2.2.2.1.getD r2.toNat []).length : Int) 0 d1.2.1 d1.2.2.1 (((d1.2.2.2.1.getD r2.toNat []).getD d1.1.toNat (false, ([], []))).1) ((((d1.2.2.2.1.getD r2.toNat []).getD d1.1.toNat (false, ([], []))).2).1) ((((d1.2.2.2.1.getD r2.toNat []).getD d1.1.toNat (false, ([], []))).2).2) d1.2.2.2.1 d1.2.2.2.2.1 with
   | none => none
   | some (.exit d3) =>
    match z07 m r2 d1.1 (d3.2.2.2.2.2.1.length : Int) 0 d3.1 d3.2.1 d3.2.2.2.2.2.1 d3.2.2.2.2.2.2.1 with
    | none => none
    | some (.exit d4) =>
     if (0 : Int) ≤ r2 then
     if r2 < d4.2.2.2.1.length then
     z11 m s1 d4.1 d4.2.1 d4.2.2.1 (d4.2.2.2.1.set r2.toNat d1.1)
     else none
     else none
    | some (.ret d4) =>
     none
   | some (.ret d3) =>
    none
   else none
   else none
   else none
   else none
   else none
   else none
  | some (.ret d1) =>
   none
def l_simplex_table_run__simplex_Solve_1L : LSpec := { h := l_simplex_table_run__simplex_Solve_1H, x := z4m, r := z4l, xid := 0, rt := true, pins := [4060, 4188, 420], f := fun k d => z11 k d.1 d.2.1 d.2.2.1 d.2.2.2.1 d.2.2.2.2.1 }
def z0j : Nat → Int → Int → Int → Int → List (Bool × ((List Int) × (List Int))) → List Int → List (List (Bool × ((List Int) × (List Int)))) → Option (LR z41 z40)
 | 0, _, _, _, _, _, _, _ => none
 | m + 1, s15, s16, b4060_2, b4060_3, b4040, b420, b4188 =>
  if decide (s16 < s15) = true then
  if (0 : Int) ≤ s16 then
  if s16 < b420.length then
  if decide (b420.getD s16.toNat 0 < b4060_2) = true then
  if (0 : Int) ≤ s16 then
  if s16 < b4188.length then
  (z1m fuel (b4188, (b420, (b4060_2, b4060_3)))).bind fun r1 =>
  if (0 : Int) ≤ r1 then
  if r1 < (b4188.getD s16.toNat []).length then
  if (0 : Int) ≤ b420.getD s16.toNat 0 then
  if b420.getD s16.toNat 0 < b4040.length then
  z0j m s15 (IntKind.i64.wrap (s16 + 1)) b4060_2 b4060_3 (b4040.set ((b420.getD s16.toNat 0).toNat) (((b4188.getD s16.toNat []).getD r1.toNat (false, ([], []))).1, (((b4188.getD s16.toNat []).getD r1.toNat (false, ([], []))).2))) b420 b4188
  else none
  else none
  else none
  else none
  else none
  else none
  else
  z0j m s15 (IntKind.i64.wrap (s16 + 1)) b4060_2 b4060_3 b4040 b420 b4188
  else none
  else none
  else
  some (.exit (b4040, b4060_2, b4060_3, b420, b4188, ()))
def l_simplex_table_solution__simplex_Solve_3L : LSpec := { h := l_simplex_table_solution__simplex_Solve_3H, x := z41, r := z40, xid := 0, rt := false, pins := [4060, 4040, 420, 4188], f := fun k d => z0j k d.1 d.2.1 d.2.2.1 d.2.2.2.1 d.2.2.2.2.1 d.2.2.2.2.2.1 d.2.2.2.2.2.2.1 }
def z1j : Nat → Int → Int → Int → Int → Int → List (Bool × ((List Int) × (List Int))) → List Int → List (List (Bool × ((List Int) × (List Int)))) → Option (LR zk5 zk4)
 | 0, _, _, _, _, _, _, _, _ => none
 | m + 1, s6, s131, s132, b4060_2, b4060_3, b464, b420, b4188 =>
  if decide (s132 < s131) = true then
  if (0 : Int) ≤ s132 then
  if s132 < b420.length then
  if decide (b420.getD s132.toNat 0 < b4060_2) = true then
  if (0 : Int) ≤ s132 then
  if s132 < b4188.length then
  if (0 : Int) ≤ s6 then
  if s6 < (b4188.getD s132.toNat []).length then
  (z71 fuel (((b4188.getD s132.toNat []).getD s6.toNat (false, ([], []))).1, (((b4188.getD s132.toNat []).getD s6.toNat (false, ([], []))).2))).bind fun r1 =>
  if (0 : Int) ≤ b420.getD s132.toNat 0 then
  if b420.getD s132.toNat 0 < b464.length then
  z1j m s6 s131 (IntKind.i64.wrap (s132 + 1)) b4060_2 b4060_3 (b464.set ((b420.getD s132.toNat 0).toNat) r1) b420 b4188
  else none
  else none
  else none
  else none
  else none
  else none
  else
  z1j m s6 s131 (IntKind.i64.wrap (s132 + 1)) b4060_2 b4060_3 b464 b420 b4188
  else none
  else none
  else
  some (.exit (b464, b4060_2, b4060_3, b420, b4188, ()))
def l_simplex_Solve_16L : LSpec := { h := l_simplex_Solve_16H, x := zk5, r := zk4, xid := 0, rt := false, pins := [4060, 464, 420, 4188], f := fun k d => z1j k d.1 d.2.1 d.2.2.1 d.2.2.2.1 d.2.2.2.2.1 d.2.2.2.2.2.1 d.2.2.2.2.2.2.1 d.2.2.2.2.2.2.2.1 }
def z0f : Nat → Int → Int → List (Bool × ((List Int) × (List Int))) → List (Bool × ((List Int) × (List Int))) → Option (LR z23 z22)
 | 0, _, _, _, _ => none
 | m + 1, s23, s24, b8084, b4268 =>
  if decide (s24 < s23) = true then
  if (0 : Int) ≤ s24 then
  if s24 < b4268.length then
  (z71 fuel ((b4268.getD s24.toNat (false, ([], []))).1, ((b4268.getD s24.toNat (false, ([], []))).2))).bind fun r1 =>
  if (0 : Int) ≤ s24 then
  if s24 < b8084.length then
  z0f m s23 (IntKind.i64.wrap (s24 + 1)) (b8084.set s24.toNat r1) b4268
  else none
  else none
  else none
  else none
  else
  some (.exit (b8084, b4268, ()))
def l_simplex_table_goal__simplex_table_feasible__simplex_Solve_2L : LSpec := { h := l_simplex_table_goal__simplex_table_feasible__simplex_Solve_2H, x := z23, r := z22, xid := 0, rt := false, pins := [8084, 4268], f := fun k d => z0f k d.1 d.2.1 d.2.2.1 d.2.2.2.1 }
def z0e : Nat → Nat → Int → Int → Int → Int → Int → List (List (Bool × ((List Int) × (List Int)))) → Bool → List Int → List Int → List Int → Option (LR z1x z1w)
 | 0, _, _, _, _, _, _, _, _, _, _, _ => none
 | m + 1, s4, s7, s68, s69, b4060_2, b4060_3, b8188, b36_0, b36_1, b36_2, b420 =>
  if decide (s69 < s68) = true then
  if (0 : Int) ≤ s69 then
  if s69 < (b8188.getD s4 []).length then
  if (0 : Int) ≤ s7 then
  if s7 < b8188.length then
  if (0 : Int) ≤ s69 then
  if s69 < (b8188.getD s7.toNat []).length then
  (z3a fuel (b36_0, (b36_1, b36_2)) (((b8188.getD s7.toNat []).getD s69.toNat (false, ([], []))).1, (((b8188.getD s7.toNat []).getD s69.toNat (false, ([], []))).2))).bind fun r1 =>
  (z52 fuel (((b8188.getD s4 []).getD s69.toNat (false, ([], []))).1, (((b8188.getD s4 []).getD s69.toNat (false, ([], []))).2)) r1).bind fun r2 =>
  if (0 : Int) ≤ s69 then
  if s69 < (b8188.getD s4 []).length then
  z0e m s4 s7 s68 (IntKind.i64.wrap (s69 + 1)) b4060_2 b4060_3 (b8188.set s4 ((b8188.getD s4 []).set s69.toNat r2)) b36_0 b36_1 b36_2 b420
  else none
  else none
  else none
  else none
  else none
  else none
  else none
  else none
  else
  some (.exit (s4, b4060_2, b4060_3, b8188, b36_0, b36_1, b36_2, b420, ()))
def l_simplex_table_goal__simplex_table_feasible__simplex_Solve_13L : LSpec := { h := l_simplex_table_goal__simplex_table_feasible__simplex_Solve_13H, x := z1x, r := z1w, xid := 4, rt := false, pins := [4060, 8188, 36, 420], f := fun k d => z0e k d.1 d.2.1 d.2.2.1 d.2.2.2.1 d.2.2.2.2.1 d.2.2.2.2.2.1 d.2.2.2.2.2.2.1 d.2.2.2.2.2.2.2.1 d.2.2.2.2.2.2.2.2.1 d.2.2.2.2.2.2.2.2.2.1 d.2.2.2.2.2.2.2.2.2.2.1 }
def z09 : Nat → Nat → Int → Int → Int → Int → List (List (Bool × ((List Int) × (List Int)))) → List Int → Option (LR z25 z24)
 | 0, _, _, _, _, _, _, _ => none
 | m + 1, s4, s54, s55, b4060_2, b4060_3, b8188, b420 =>
  if decide (s55 < s54) = true then
  if (0 : Int) ≤ s55 then
  if s55 < b420.length then
  if (0 : Int) ≤ b420.getD s55.toNat 0 then
  if b420.getD s55.toNat 0 < (b8188.getD s4 []).length then
  (z1k fuel (((b8188.getD s4 []).getD ((b420.getD s55.toNat 0).toNat) (false, ([], []))).1, (((b8188.getD s4 []).getD ((b420.getD s55.toNat 0).toNat) (false, ([], []))).2))).bind fun r1 =>
  if (r1 == 0) = true then
  z09 m s4 s54 (IntKind.i64.wrap (s55 + 1)) b4060_2 b4060_3 b8188 b420
  else
  match z0e m s4 s55 ((b8188.getD s4 []).length : Int) 0 b4060_2 b4060_3 b8188 (((b8188.getD s4 []).getD ((b420.getD s55.toNat 0).toNat) (false, ([], []))).1) ((((b8188.getD s4 []).getD ((b420.getD s55.toNat 0).toNat) (false, ([], []))).2).1) ((((b8188.getD s4 []).getD ((b420.getD s55.toNat 0).toNat) (false, ([], []))).2).2) b420 with
  | none => none
  | some (.exit d2) =>
   z09 m d2.1 s54 (IntKind.i64.wrap (s55 + 1)) d2.2.1 d2.2.2.1 d2.2.2.2.1 d2.2.2.2.2.2.2.2.1
  | some (.ret d2) =>
   none
  else none
  else none
  else none
  else none
  else
  some (.exit (b4060_2, b4060_3, b8188, b420, ()))
def l_simplex_table_goal__simplex_table_feasible__simplex_Solve_8L : LSpec := { h := l_simplex_table_goal__simplex_table_feasible__simplex_Solve_8H, x := z25, r := z24, xid := 2, rt := false, pins := [4060, 8188, 420], f := fun k d => z09 k d.1 d.2.1 d.2.2.1 d.2.2.2.1 d.2.2.2.2.1 d.2.2.2.2.2.1 d.2.2.2.2.2.2.1 }
def z08 : Nat → Int → Int → Int → Int → Int → Bool → List Int → List Int → List (List (Bool × ((List Int) × (List Int)))) → List Int → Option (LR z1z z1y)
 | 0, _, _, _, _, _, _, _, _, _, _ => none
 | m + 1, s1, s28, s29, b4060_2, b4060_3, b8024_0, b8024_1, b8024_2, b8188, b420 =>
  if decide (s29 < s28) = true then
  if (0 : Int) ≤ s1 then
  if s1 < b8188.length then
  if (0 : Int) ≤ s1 then
  if s1 < b8188.length then
  if (0 : Int) ≤ s29 then
  if s29 < (b8188.getD s1.toNat []).length then
  (z5m fuel (((b8188.getD s1.toNat []).getD s29.toNat (false, ([], []))).1, (((b8188.getD s1.toNat []).getD s29.toNat (false, ([], []))).2)) (b8024_0, (b8024_1, b8024_2))).bind fun r1 =>
  if (0 : Int) ≤ s29 then
  if s29 < (b8188.getD s1.toNat []).length then
  z08 m s1 s28 (IntKind.i64.wrap (s29 + 1)) b4060_2 b4060_3 b8024_0 b8024_1 b8024_2 (b8188.set s1.toNat ((b8188.getD s1.toNat []).set s29.toNat r1)) b420
  else none
  else none
  else none
  else none
  else none
  else none
  else none
  else none
  else
  some (.exit (b4060_2, b4060_3, b8024_0, b8024_1, b8024_2, b8188, b420, ()))
def l_simplex_table_pivot__simplex_table_feasible__simplex_Solve_2L : LSpec := { h := l_simplex_table_pivot__simplex_table_feasible__simplex_Solve_2H, x := z1z, r := z1y, xid := 0, rt := false, pins := [4060, 8024, 8188, 420], f := fun k d => z08 k d.1 d.2.1 d.2.2.1 d.2.2.2.1 d.2.2.2.2.1 d.2.2.2.2.2.1 d.2.2.2.2.2.2.1 d.2.2.2.2.2.2.2.1 d.2.2.2.2.2.2.2.2.1 d.2.2.2.2.2.2.2.2.2.1 }
def z0b : Nat → Int → Int → Int → Int → Int → Int → Bool → List Int → List Int → List (List (Bool × ((List Int) × (List Int)))) → List Int → Option (LR z1v z1u)
 | 0, _, _, _, _, _, _, _, _, _, _, _ => none
 | m + 1, s1, s8, s87, s88, b4060_2, b4060_3, b36_0, b36_1, b36_2, b8188, b420 =>
  if decide (s88 < s87) = true then
  if (0 : Int) ≤ s8 then
  if s8 < b8188.length then
  if (0 : Int) ≤ s8 then
  if s8 < b8188.length then
  if (0 : Int) ≤ s88 then
  if s88 < (b8188.getD s8.toNat []).length then
  if (0 : Int) ≤ s1 then
  if s1 < b8188.length then
  if (0 : Int) ≤ s88 then
  if s88 < (b8188.getD s1.toNat []).length then
  (z3a fuel (b36_0, (b36_1, b36_2)) (((b8188.getD s1.toNat []).getD s88.toNat (false, ([], []))).1, (((b8188.getD s1.toNat []).getD s88.toNat (false, ([], []))).2))).bind fun r1 =>
  (z52 fuel (((b8188.getD s8.toNat []).getD s88.toNat (false, ([], []))).1, (((b8188.getD s8.toNat []).getD s88.toNat (false, ([], []))).2)) r1).bind fun r2 =>
  if (0 : Int) ≤ s88 then
  if s88 < (b8188.getD s8.toNat []).length then
  z0b m s1 s8 s87 (IntKind.i64.wrap (s88 + 1)) b4060_2 b4060_3 b36_0 b36_1 b36_2 (b8188.set s8.toNat ((b8188.getD s8.toNat []).set s88.toNat r2)) b420
  else none
  else none
  else none
  else none
  else none
  else none
  else none
  else none
  else none
  else none
  else none
  else none
  else
  some (.exit (b4060_2, b4060_3, b36_0, b36_1, b36_2, b8188, b420, ()))
def l_simplex_table_pivot__simplex_table_feasible__simplex_Solve_12L : LSpec := { h := l_simplex_table_pivot__simplex_table_feasible__simplex_Solve_12H, x := z1v, r := z1u, xid := 4, rt := false, pins := [4060, 36, 8188, 420], f := fun k d => z0b k d.1 d.2.1 d.2.2.1 d.2.2.2.1 d.2.2.2.2.1 d.2.2.2.2.2.1 d.2.2.2.2.2.2.1 d.2.2.2.2.2.2.2.1 d.2.2.2.2.2.2.2.2.1 d.2.2.2.2.2.2.2.2.2.1 d.2.2.2.2.2.2.2.2.2.2.1 }
def z04 : Nat → Int → Int → Int → Int → Int → Int → List (List (Bool × ((List Int) × (List Int)))) → List Int → Option (LR z21 z20)
 | 0, _, _, _, _, _, _, _, _ => none
 | m + 1, s1, s2, s58, s59, b4060_2, b4060_3, b8188, b420 =>
  if decide (s59 < s58) = true then
  if (0 : Int) ≤ s59 then
  if s59 < b8188.length then
  if (0 : Int) ≤ s2 then
  if s2 < (b8188.getD s59.toNat []).length then
  if (s59 == s1) = false then
  (z1k fuel (((b8188.getD s59.toNat []).getD s2.toNat (false, ([], []))).1, (((b8188.getD s59.toNat []).getD s2.toNat (false, ([], []))).2))).bind fun r1 =>
  if (r1 == 0) = true then
  z04 m s1 s2 s58 (IntKind.i64.wrap (s59 + 1)) b4060_2 b4060_3 b8188 b420
  else
  if (0 : Int) ≤ s59 then
  if s59 < b8188.length then
  match z0b m s1 s59 ((b8188.getD s59.toNat []).length : Int) 0 b4060_2 b4060_3 (((b8188.getD s59.toNat []).getD s2.toNat (false, ([], []))).1) ((((b8188.getD s59.toNat []).getD s2.toNat (false, ([], []))).2).1) ((((b8188.getD s59.toNat []).getD s2.toNat (false, ([], []))).2).2) b8188 b420 with
  | none => none
  | some (.exit d2) =>
   z04 m s1 s2 s58 (IntKind.i64.wrap (s59 + 1)) d2.1 d2.2.1 d2.2.2.2.2.2.1 d2.2.2.2.2.2.2.1
  | some (.ret d2) =>
   none
  else none
  else none
  else
  z04 m s1 s2 s58 (IntKind.i64.wrap (s59 + 1)) b4060_2 b4060_3 b8188 b420
  else none
  else none
  else none
  else none
  else
  some (.exit (b4060_2, b4060_3, b8188, b420, ()))
def l_simplex_table_pivot__simplex_table_feasible__simplex_Solve_7L : LSpec := { h := l_simplex_table_pivot__simplex_table_feasible__simplex_Solve_7H, x := z21, r := z20, xid := 2, rt := false, pins := [4060, 8188, 420], f := fun k d => z04 k d.1 d.2.1 d.2.2.1 d.2.2.2.1 d.2.2.2.2.1 d.2.2.2.2.2.1 d.2.2.2.2.2.2.1 d.2.2.2.2.2.2.2.1 }
def z0g : Nat → Int → Int → Int → Int → List (List (Bool × ((List Int) × (List Int)))) → List Int → Option (LR z29 z28)
 | 0, _, _, _, _, _, _ => none
 | m + 1, s1, s5, b4060_2, b4060_3, b8188, b420 =>
  if decide (s5 < s1) = true then
  if (0 : Int) ≤ b4060_3 then
  if b4060_3 < b8188.length then
  if (0 : Int) ≤ s5 then
  if s5 < (b8188.getD b4060_3.toNat []).length then
  (z1k fuel (((b8188.getD b4060_3.toNat []).getD s5.toNat (false, ([], []))).1, (((b8188.getD b4060_3.toNat []).getD s5.toNat (false, ([], []))).2))).bind fun r1 =>
  if decide (r1 ≥ 0) = true then
  z0g m s1 (IntKind.i64.wrap (s5 + 1)) b4060_2 b4060_3 b8188 b420
  else
  some (.exit (s5, b4060_2, b4060_3, b8188, b420, ()))
  else none
  else none
  else none
  else none
  else
  some (.exit (s5, b4060_2, b4060_3, b8188, b420, ()))
def l_simplex_table_run__simplex_table_feasible__simplex_Solve_2L : LSpec := { h := l_simplex_table_run__simplex_table_feasible__simplex_Solve_2H, x := z29, r := z28, xid := 2, rt := false, pins := [4060, 8188, 420], f := fun k d => z0g k d.1 d.2.1 d.2.2.1 d.2.2.2.1 d.2.2.2.2.1 d.2.2.2.2.2.1 }
def z06 : Nat → Int → Int → Int → Int → Int → Bool → List Int → List Int → List (List (Bool × ((List Int) × (List Int)))) → List Int → Option (LR z1b z1a)
 | 0, _, _, _, _, _, _, _, _, _, _ => none
 | m + 1, s1, s28, s29, b4060_2, b4060_3, b4024_0, b4024_1, b4024_2, b8188, b420 =>
  if decide (s29 < s28) = true then
  if (0 : Int) ≤ s1 then
  if s1 < b8188.length then
  if (0 : Int) ≤ s1 then
  if s1 < b8188.length then
  if (0 : Int) ≤ s29 then
  if s29 < (b8188.getD s1.toNat []).length then
  (z5m fuel (((b8188.getD s1.toNat []).getD s29.toNat (false, ([], []))).1, (((b8188.getD s1.toNat []).getD s29.toNat (false, ([], []))).2)) (b4024_0, (b4024_1, b4024_2))).bind fun r1 =>
  if (0 : Int) ≤ s29 then
  if s29 < (b8188.getD s1.toNat []).length then
  z06 m s1 s28 (IntKind.i64.wrap (s29 + 1)) b4060_2 b4060_3 b4024_0 b4024_1 b4024_2 (b8188.set s1.toNat ((b8188.getD s1.toNat []).set s29.toNat r1)) b420
  else none
  else none
  else none
  else none
  else none
  else none
  else none
  else none
  else
  some (.exit (b4060_2, b4060_3, b4024_0, b4024_1, b4024_2, b8188, b420, ()))
def l_simplex_table_pivot__simplex_table_run__simplex_table_feasible__simplex_Solve_2L : LSpec := { h := l_simplex_table_pivot__simplex_table_run__simplex_table_feasible__simplex_Solve_2H, x := z1b, r := z1a, xid := 0, rt := false, pins := [4060, 4024, 8188, 420], f := fun k d => z06 k d.1 d.2.1 d.2.2.1 d.2.2.2.1 d.2.2.2.2.1 d.2.2.2.2.2.1 d.2.2.2.2.2.2.1 d.2.2.2.2.2.2.2.1 d.2.2.2.2.2.2.2.2.1 d.2.2.2.2.2.2.2.2.2.1 }
def z05 : Nat → Int → Int → Int → Int → Int → Int → Bool → List Int → List Int → List (List (Bool × ((List Int) × (List Int)))) → List Int → Option (LR z19 z18)
 | 0, _, _, _, _, _, _, _, _, _, _, _ => none
 | m + 1, s1, s8, s87, s88, b4060_2, b4060_3, b36_0, b36_1, b36_2, b8188, b420 =>
  if decide (s88 < s87) = true then
  if (0 : Int) ≤ s8 then
  if s8 < b8188.length then
  if (0 : Int) ≤ s8 then
  if s8 < b8188.length then
  if (0 : Int) ≤ s88 then
  if s88 < (b8188.getD s8.toNat []).length then
  if (0 : Int) ≤ s1 then
  if s1 < b8188.length then
  if (0 : Int) ≤ s88 then
  if s88 < (b8188.getD s1.toNat []).length then
  (z3a fuel (b36_0, (b36_1, b36_2)) (((b8188.getD s1.toNat []).getD s88.toNat (false, ([], []))).1, (((b8188.getD s1.toNat []).getD s88.toNat (false, ([], []))).2))).bind fun r1 =>
  (z52 fuel (((b8188.getD s8.toNat []).getD s88.toNat (false, ([], []))).1, (((b8188.getD s8.toNat []).getD s88.toNat (false, ([], []))).2)) r1).bind fun r2 =>
  if (0 : Int) ≤ s88 then
  if s88 < (b8188.getD s8.toNat []).length then
  z05 m s1 s8 s87 (IntKind.i64.wrap (s88 + 1)) b4060_2 b4060_3 b36_0 b36_1 b36_2 (b8188.set s8.toNat ((b8188.getD s8.toNat []).set s88.toNat r2)) b420
  else none
  else none
  else none
  else none
  else none
  else none
  else none
  else none
  else none
  else none
  else none
  else none
  else
  some (.exit (b4060_2, b4060_3, b36_0, b36_1, b36_2, b8188, b420, ()))
def l_simplex_table_pivot__simplex_table_run__simplex_table_feasible__simplex_Solve_12L : LSpec := { h := l_simplex_table_pivot__simplex_table_run__simplex_table_feasible__simplex_Solve_12H, x := z19, r := z18, xid := 4, rt := false, pins := [4060, 36, 8188, 420], f := fun k d => z05 k d.1 d.2.1 d.2.2.1 d.2.2.2.1 d.2.2.2.2.1 d.2.2.2.2.2.1 d.2.2.2.2.2.2.1 d.2.2.2.2.2.2.2.1 d.2.2.2.2.2.2.2.2.1 d.2.2.2.2.2.2.2.2.2.1 d.2.2.2.2.2.2.2.2.2.2.1 }
def z02 : Nat → Int → Int → Int → Int → Int → Int → List (List (Bool × ((List Int) × (List Int)))) → List Int → Option (LR z1d z1c)
 | 0, _, _, _, _, _, _, _, _ => none
 | m + 1, s1, s2, s58, s59, b4060_2, b4060_3, b8188, b420 =>
  if decide (s59 < s58) = true then
  if (0 : Int) ≤ s59 then
  if s59 < b8188.length then
  if (0 : Int) ≤ s2 then
  if s2 < (b8188.getD s59.toNat []).length then
  if (s59 == s1) = false then
  (z1k fuel (((b8188.getD s59.toNat []).getD s2.toNat (false, ([], []))).1, (((b8188.getD s59.toNat []).getD s2.toNat (false, ([], []))).2))).bind fun r1 =>
  if (r1 == 0) = true then
  z02 m s1 s2 s58 (IntKind.i64.wrap (s59 + 1)) b4060_2 b4060_3 b8188 b420
  else
  if (0 : Int) ≤ s59 then
  if s59 < b8188.length then
  match z05 m s1 s59 ((b8188.getD s59.toNat []).length : Int) 0 b4060_2 b4060_3 (((b8188.getD s59.toNat []).getD s2.toNat (false, ([], []))).1) ((((b8188.getD s59.toNat []).getD s2.toNat (false, ([], []))).2).1) ((((b8188.getD s59.toNat []).getD s2.toNat (false, ([], []))).2).2) b8188 b420 with
  | none => none
  | some (.exit d2) =>
   z02 m s1 s2 s58 (IntKind.i64.wrap (s59 + 1)) d2.1 d2.2.1 d2.2.2.2.2.2.1 d2.2.2.2.2.2.2.1
  | some (.ret d2) =>
   none
  else none
  else none
  else
  z02 m s1 s2 s58 (IntKind.i64.wrap (s59 + 1)) b4060_2 b4060_3 b8188 b420
  else none
  else none
  else none
  else none
  else
  some (.exit (b4060_2, b4060_3, b8188, b420, ()))
def l_simplex_table_pivot__simplex_table_run__simplex_table_feasible__simplex_Solve_7L : LSpec := { h := l_simplex_table_pivot__simplex_table_run__simplex_table_feasible__simplex_Solve_7H, x := z1d, r := z1c, xid := 2, rt := false, pins := [4060, 8188, 420], f := fun k d => z02 k d.1 d.2.1 d.2.2.1 d.2.2.2.1 d.2.2.2.2.1 d.2.2.2.2.2.1 d.2.2.2.2.2.2.1 d.2.2.2.2.2.2.2.1 }
def z0m : Nat → Int → Int → Int → List (List (Bool × ((List Int) × (List Int)))) → List Int → Option (LR z27 z26)
 | 0, _, _, _, _, _ => none
 | m + 1, s1, b4060_2, b4060_3, b8188, b420 =>
  match z0g m s1 0 b4060_2 b4060_3 b8188 b420 with
  | none => none
  | some (.exit d1) =>
   if (d1.1 == s1) = true then
   some (.ret ((-1), d1.2.1, d1.2.2.1, d1.2.2.2.1, d1.2.2.2.2.1, ()))
   else
   (z35 fuel (d1.2.2.2.1, (d1.2.2.2.2.1, (d1.2.1, d1.2.2.1))) d1.1).bind fun r2 =>
   if decide (r2 < 0) = true then
   some (.ret (d1.1, d1.2.1, d1.2.2.1, d1.2.2.2.1, d1.2.2.2.2.1, ()))
   else
   if (0 : Int) ≤ r2 then
   if r2 < d1.2.2.2.1.length then
   if (0 : Int) ≤ d1.1 then
   if d1.1 < (d1.2.2.2.1.getD r2.toNat []).length then
   if (0 : Int) ≤ r2 then
   if r2 < d1.2.2.2.1.length then
   match z06 m r2 ((d1.2.2.2.1.getD r2.toNat []).length : Int) 0 d1.2.1 d1.2.2.1 (((d1.2.2.2.1.getD r2.toNat []).getD d1.1.toNat (false, ([], []))).1) ((((d1.2.2.2.1.getD r2.toNat []).getD d1.1.toNat (false, ([], []))).2).1) ((((d1.2.2.2.1.getD r2.toNat []).getD d1.1.toNat (false, ([], []))).2).2) d1.2.2.2.1 d1.2.2.2.2.1 with
   | none => none
   | some (.exit d3) =>
    match z02 m r2 d1.1 (d3.2.2.2.2.2.1.length : Int) 0 d3.1 d3.2.1 d3.2.2.2.2.2.1 d3.2.2.2.2.2.2.1 with
    | none => none
    | some (.exit d4) =>
     if (0 : Int) ≤ r2 then
     if r2 < d4.2.2.2.1.length then
     z0m m s1 d4.1 d4.2.1 d4.2.2.1 (d4.2.2.2.1.set r2.toNat d1.1)
     else none
     else none
    | some (.ret d4) =>
     none
   | some (.ret d3) =>
    none
   else none
   else none
   else none
   else none
   else none
   else none
  | some (.ret d1) =>
   none
def l_simplex_table_run__simplex_table_feasible__simplex_Solve_1L : LSpec := { h := l_simplex_table_run__simplex_table_feasible__simplex_Solve_1H, x := z27, r := z26, xid := 0, rt := true, pins := [4060, 8188, 420], f := fun k d => z0m k d.1 d.2.1 d.2.2.1 d.2.2.2.1 d.2.2.2.2.1 }
def z0z : Nat → Int → Int → Int → Int → Int → List (List (Bool × ((List Int) × (List Int)))) → List Int → Option (LR z3p z3o)
 | 0, _, _, _, _, _, _, _ => none
 | m + 1, s8, s112, s113, b4060_2, b4060_3, b8188, b420 =>
  if decide (s113 < s112) = true then
  if (0 : Int) ≤ s8 then
  if s8 < b8188.length then
  if (0 : Int) ≤ s113 then
  if s113 < (b8188.getD s8.toNat []).length then
  (z1k fuel (((b8188.getD s8.toNat []).getD s113.toNat (false, ([], []))).1, (((b8188.getD s8.toNat []).getD s113.toNat (false, ([], []))).2))).bind fun r1 =>
  if (r1 != 0) = true then
  if (0 : Int) ≤ s8 then
  if s8 < b8188.length then
  if (0 : Int) ≤ s113 then
  if s113 < (b8188.getD s8.toNat []).length then
  if (0 : Int) ≤ s8 then
  if s8 < b8188.length then
  match z08 m s8 ((b8188.getD s8.toNat []).length : Int) 0 b4060_2 b4060_3 (((b8188.getD s8.toNat []).getD s113.toNat (false, ([], []))).1) ((((b8188.getD s8.toNat []).getD s113.toNat (false, ([], []))).2).1) ((((b8188.getD s8.toNat []).getD s113.toNat (false, ([], []))).2).2) b8188 b420 with
  | none => none
  | some (.exit d2) =>
   match z04 m s8 s113 (d2.2.2.2.2.2.1.length : Int) 0 d2.1 d2.2.1 d2.2.2.2.2.2.1 d2.2.2.2.2.2.2.1 with
   | none => none
   | some (.exit d3) =>
    if (0 : Int) ≤ s8 then
    if s8 < d3.2.2.2.1.length then
    some (.exit (d3.1, d3.2.1, d3.2.2.1, d3.2.2.2.1.set s8.toNat s113, ()))
    else none
    else none
   | some (.ret d3) =>
    none
  | some (.ret d2) =>
   none
  else none
  else none
  else none
  else none
  else none
  else none
  else
  z0z m s8 s112 (IntKind.i64.wrap (s113 + 1)) b4060_2 b4060_3 b8188 b420
  else none
  else none
  else none
  else none
  else
  some (.exit (b4060_2, b4060_3, b8188, b420, ()))
def l_simplex_table_feasible__simplex_Solve_23L : LSpec := { h := l_simplex_table_feasible__simplex_Solve_23H, x := z3p, r := z3o, xid := 4, rt := false, pins := [4060, 8188, 420], f := fun k d => z0z k d.1 d.2.1 d.2.2.1 d.2.2.2.1 d.2.2.2.2.1 d.2.2.2.2.2.1 d.2.2.2.2.2.2.1 }
def z0s : Nat → Int → Int → Int → Int → Int → List Int → List (List (Bool × ((List Int) × (List Int)))) → Option (LR z3n z3m)
 | 0, _, _, _, _, _, _, _ => none
 | m + 1, s4, s103, s104, b4060_2, b4060_3, b420, b8188 =>
  if decide (s104 < s103) = true then
  if (0 : Int) ≤ s104 then
  if s104 < b420.length then
  if (b420.getD s104.toNat 0 != s4) = true then
  z0s m s4 s103 (IntKind.i64.wrap (s104 + 1)) b4060_2 b4060_3 b420 b8188
  else
  match z0z m s104 s4 0 b4060_2 b4060_3 b8188 b420 with
  | none => none
  | some (.exit d1) =>
   z0s m s4 s103 (IntKind.i64.wrap (s104 + 1)) d1.1 d1.2.1 d1.2.2.2.1 d1.2.2.1
  | some (.ret d1) =>
   none
  else none
  else none
  else
  some (.exit (b4060_2, b4060_3, b420, b8188, ()))
def l_simplex_table_feasible__simplex_Solve_19L : LSpec := { h := l_simplex_table_feasible__simplex_Solve_19H, x := z3n, r := z3m, xid := 2, rt := false, pins := [4060, 420, 8188], f := fun k d => z0s k d.1 d.2.1 d.2.2.1 d.2.2.2.1 d.2.2.2.2.1 d.2.2.2.2.2.1 d.2.2.2.2.2.2.1 }
def z0l : z2a := [([29, 9], [(4, l_simplex_start__simplex_Solve_4L)]), ([30, 9], [(3, l_simplex_table_feasible__simplex_Solve_3L), (19, l_simplex_table_feasible__simplex_Solve_19L), (23, l_simplex_table_feasible__simplex_Solve_23L)]), ([32, 9], [(2, l_simplex_table_goal__simplex_Solve_2L), (8, l_simplex_table_goal__simplex_Solve_8L), (13, l_simplex_table_goal__simplex_Solve_13L)]), ([34, 9], [(1, l_simplex_table_run__simplex_Solve_1L), (2, l_simplex_table_run__simplex_Solve_2L)]), ([62, 34, 9], [(2, l_simplex_table_pivot__simplex_table_run__simplex_Solve_2L), (7, l_simplex_table_pivot__simplex_table_run__simplex_Solve_7L), (12, l_simplex_table_pivot__simplex_table_run__simplex_Solve_12L)]), ([35, 9], [(3, l_simplex_table_solution__simplex_Solve_3L)]), ([9], [(16, l_simplex_Solve_16L)]), ([32, 30, 9], [(2, l_simplex_table_goal__simplex_table_feasible__simplex_Solve_2L), (8, l_simplex_table_goal__simplex_table_feasible__simplex_Solve_8L), (13, l_simplex_table_goal__simplex_table_feasible__simplex_Solve_13L)]), ([62, 30, 9], [(2, l_simplex_table_pivot__simplex_table_feasible__simplex_Solve_2L), (7, l_simplex_table_pivot__simplex_table_feasible__simplex_Solve_7L), (12, l_simplex_table_pivot__simplex_table_feasible__simplex_Solve_12L)]), ([34, 30, 9], [(1, l_simplex_table_run__simplex_table_feasible__simplex_Solve_1L), (2, l_simplex_table_run__simplex_table_feasible__simplex_Solve_2L)]), ([62, 34, 30, 9], [(2, l_simplex_table_pivot__simplex_table_run__simplex_table_feasible__simplex_Solve_2L), (7, l_simplex_table_pivot__simplex_table_run__simplex_table_feasible__simplex_Solve_7L), (12, l_simplex_table_pivot__simplex_table_run__simplex_table_feasible__simplex_Solve_12L)])]
def z3l (k : Nat) (a0 : (List (List ByteArray)) × ((List ByteArray) × (List ByteArray))) : Option ((Int × ((List ByteArray) × ((List ByteArray) × ((List ByteArray) × ByteArray)))) × Int) :=
 (z2c fuel a0).bind fun r1 =>
 if (r1 != 0) = true then
 some ((0, ([], ([], ([], ByteArray.empty)))), r1)
 else
 (za1 fuel a0.1).bind fun r2 =>
 (z31 fuel a0.2.1).bind fun r3 =>
 match z1p k (a0.1.length : Int) 0 (a0.2.2.length : Int) (a0.1.length : Int) r2 r3 [] [] with
 | none => none
 | some (.exit d4) =>
  match z0i k (-1) d4.2.1 0 d4.1 d4.2.1 d4.2.2.2.2.1 d4.2.2.2.2.2.1 with
  | none => none
  | some (.exit d5) =>
   if decide (d5.1 < 0) = true then
   (z31 fuel a0.2.2).bind fun r6 =>
   if (0 : Int) ≤ IntKind.i64.wrap ((IntKind.i64.wrap (d5.2.1 + d5.2.2.1)) + 2) then
   if IntKind.i64.wrap ((IntKind.i64.wrap (d5.2.1 + d5.2.2.1)) + 2) ≤ IntKind.i64.wrap ((IntKind.i64.wrap (d5.2.1 + d5.2.2.1)) + 2) then
   if (IntKind.i64.wrap ((IntKind.i64.wrap (d5.2.1 + d5.2.2.1)) + 2)) * 56 ≤ 281474976710656 then
   match z0t k (r6.length : Int) 0 (List.replicate ((IntKind.i64.wrap ((IntKind.i64.wrap (d5.2.1 + d5.2.2.1)) + 2)).toNat) ((false, ([], [])) : Bool × ((List Int) × (List Int)))) r6 with
   | none => none
   | some (.exit d7) =>
    if (0 : Int) ≤ d5.2.2.1 then
    if d5.2.2.1 ≤ d5.2.2.2.1.length then
    if ((d5.2.2.2.1.take d5.2.2.1.toNat).length + 1) * 24 ≤ 140737488355328 then
    match z0n k ((d5.2.2.2.1.take d5.2.2.1.toNat).length) (d5.2.2.2.2.1.length : Int) 0 d5.2.1 d5.2.2.1 ((d5.2.2.2.1.take d5.2.2.1.toNat) ++ [d7.1]) d5.2.2.2.2.1 with
    | none => none
    | some (.exit d8) =>
     match z11 k (IntKind.i64.wrap (d8.1 + d8.2.1)) d8.1 d8.2.1 d8.2.2.1 d8.2.2.2.1 with
     | none => none
     | some (.exit d9) =>
      none
     | some (.ret d9) =>
      if (0 : Int) ≤ d9.2.1 then
      if d9.2.1 ≤ d9.2.1 then
      if d9.2.1 * 56 ≤ 281474976710656 then
      match z0j k (d9.2.2.2.2.1.length : Int) 0 d9.2.1 d9.2.2.1 (List.replicate d9.2.1.toNat ((false, ([], [])) : Bool × ((List Int) × (List Int)))) d9.2.2.2.2.1 d9.2.2.2.1 with
      | none => none
      | some (.exit d10) =>
       if decide (d9.1 < 0) = true then
       if (0 : Int) ≤ d10.2.2.1 then
       if d10.2.2.1 < d10.2.2.2.2.1.length then
       if (0 : Int) ≤ IntKind.i64.wrap (d10.2.1 + d10.2.2.1) then
       if IntKind.i64.wrap (d10.2.1 + d10.2.2.1) ≤ (d10.2.2.2.2.1.getD d10.2.2.1.toNat []).length then
       if (0 : Int) ≤ d10.2.1 then
       if d10.2.1 ≤ IntKind.i64.wrap (d10.2.1 + d10.2.2.1) then
       if (0 : Int) ≤ d10.2.2.1 then
       if d10.2.2.1 < d10.2.2.2.2.1.length then
       (z1m fuel (d10.2.2.2.2.1, (d10.2.2.2.1, (d10.2.1, d10.2.2.1)))).bind fun r11 =>
       if (0 : Int) ≤ r11 then
       if r11 < (d10.2.2.2.2.1.getD d10.2.2.1.toNat []).length then
       (z13 fuel 0 d10.1 (((d10.2.2.2.2.1.getD d10.2.2.1.toNat []).take (IntKind.i64.wrap (d10.2.1 + d10.2.2.1)).toNat).drop d10.2.1.toNat) [] (((d10.2.2.2.2.1.getD d10.2.2.1.toNat []).getD r11.toNat (false, ([], []))).1, (((d10.2.2.2.2.1.getD d10.2.2.1.toNat []).getD r11.toNat (false, ([], []))).2))).bind fun r12 =>
       some (r12.1, r12.2)
       else none
       else none
       else none
       else none
       else none
       else none
       else none
       else none
       else none
       else none
       else
       if (0 : Int) ≤ d10.2.1 then
       if d10.2.1 ≤ d10.2.1 then
       if d10.2.1 * 56 ≤ 281474976710656 then
       if decide (d9.1 < d10.2.1) = true then
       (z6z fuel 1).bind fun r13 =>
       if (0 : Int) ≤ d9.1 then
       if d9.1 < (List.replicate d10.2.1.toNat ((false, ([], [])) : Bool × ((List Int) × (List Int)))).length then
       match z1j k d9.1 (d10.2.2.2.1.length : Int) 0 d10.2.1 d10.2.2.1 ((List.replicate d10.2.1.toNat ((false, ([], [])) : Bool × ((List Int) × (List Int)))).set d9.1.toNat r13) d10.2.2.2.1 d10.2.2.2.2.1 with
       | none => none
       | some (.exit d14) =>
        (z13 fuel 2 d10.1 [] d14.1 (false, ([], []))).bind fun r15 =>
        some (r15.1, r15.2)
       | some (.ret d14) =>
        none
       else none
       else none
       else
       match z1j k d9.1 (d10.2.2.2.1.length : Int) 0 d10.2.1 d10.2.2.1 (List.replicate d10.2.1.toNat ((false, ([], [])) : Bool × ((List Int) × (List Int)))) d10.2.2.2.1 d10.2.2.2.2.1 with
       | none => none
       | some (.exit d16) =>
        (z13 fuel 2 d10.1 [] d16.1 (false, ([], []))).bind fun r17 =>
        some (r17.1, r17.2)
       | some (.ret d16) =>
        none
       else none
       else none
       else none
      | some (.ret d10) =>
       none
      else none
      else none
      else none
    | some (.ret d8) =>
     none
    else none
    else none
    else none
   | some (.ret d7) =>
    none
   else none
   else none
   else none
   else
   if (0 : Int) ≤ IntKind.i64.wrap ((IntKind.i64.wrap (d4.1 + d4.2.1)) + 1) then
   if IntKind.i64.wrap ((IntKind.i64.wrap (d4.1 + d4.2.1)) + 1) ≤ IntKind.i64.wrap ((IntKind.i64.wrap (d4.1 + d4.2.1)) + 1) then
   if (IntKind.i64.wrap ((IntKind.i64.wrap (d4.1 + d4.2.1)) + 1)) * 56 ≤ 281474976710656 then
   (z6z fuel (-1)).bind fun r18 =>
   if (0 : Int) ≤ IntKind.i64.wrap (d4.1 + d4.2.1) then
   if IntKind.i64.wrap (d4.1 + d4.2.1) < (List.replicate ((IntKind.i64.wrap ((IntKind.i64.wrap (d4.1 + d4.2.1)) + 1)).toNat) ((false, ([], [])) : Bool × ((List Int) × (List Int)))).length then
   if (0 : Int) ≤ IntKind.i64.wrap ((IntKind.i64.wrap (d5.2.1 + d5.2.2.1)) + 2) then
   if IntKind.i64.wrap ((IntKind.i64.wrap (d5.2.1 + d5.2.2.1)) + 2) ≤ IntKind.i64.wrap ((IntKind.i64.wrap (d5.2.1 + d5.2.2.1)) + 2) then
   if (IntKind.i64.wrap ((IntKind.i64.wrap (d5.2.1 + d5.2.2.1)) + 2)) * 56 ≤ 281474976710656 then
   match z0f k (((List.replicate ((IntKind.i64.wrap ((IntKind.i64.wrap (d4.1 + d4.2.1)) + 1)).toNat) ((false, ([], [])) : Bool × ((List Int) × (List Int)))).set ((IntKind.i64.wrap (d4.1 + d4.2.1)).toNat) r18).length : Int) 0 (List.replicate ((IntKind.i64.wrap ((IntKind.i64.wrap (d5.2.1 + d5.2.2.1)) + 2)).toNat) ((false, ([], [])) : Bool × ((List Int) × (List Int)))) ((List.replicate ((IntKind.i64.wrap ((IntKind.i64.wrap (d4.1 + d4.2.1)) + 1)).toNat) ((false, ([], [])) : Bool × ((List Int) × (List Int)))).set ((IntKind.i64.wrap (d4.1 + d4.2.1)).toNat) r18) with
   | none => none
   | some (.exit d19) =>
    if (0 : Int) ≤ d5.2.2.1 then
    if d5.2.2.1 ≤ d5.2.2.2.1.length then
    if ((d5.2.2.2.1.take d5.2.2.1.toNat).length + 1) * 24 ≤ 140737488355328 then
    match z09 k ((d5.2.2.2.1.take d5.2.2.1.toNat).length) (d5.2.2.2.2.1.length : Int) 0 d5.2.1 d5.2.2.1 ((d5.2.2.2.1.take d5.2.2.1.toNat) ++ [d19.1]) d5.2.2.2.2.1 with
    | none => none
    | some (.exit d20) =>
     if (0 : Int) ≤ d5.1 then
     if d5.1 < d20.2.2.1.length then
     if (0 : Int) ≤ IntKind.i64.wrap (d4.1 + d4.2.1) then
     if IntKind.i64.wrap (d4.1 + d4.2.1) < (d20.2.2.1.getD d5.1.toNat []).length then
     if (0 : Int) ≤ d5.1 then
     if d5.1 < d20.2.2.1.length then
     match z08 k d5.1 ((d20.2.2.1.getD d5.1.toNat []).length : Int) 0 d20.1 d20.2.1 (((d20.2.2.1.getD d5.1.toNat []).getD ((IntKind.i64.wrap (d4.1 + d4.2.1)).toNat) (false, ([], []))).1) ((((d20.2.2.1.getD d5.1.toNat []).getD ((IntKind.i64.wrap (d4.1 + d4.2.1)).toNat) (false, ([], []))).2).1) ((((d20.2.2.1.getD d5.1.toNat []).getD ((IntKind.i64.wrap (d4.1 + d4.2.1)).toNat) (false, ([], []))).2).2) d20.2.2.1 d20.2.2.2.1 with
     | none => none
     | some (.exit d21) =>
      match z04 k d5.1 (IntKind.i64.wrap (d4.1 + d4.2.1)) (d21.2.2.2.2.2.1.length : Int) 0 d21.1 d21.2.1 d21.2.2.2.2.2.1 d21.2.2.2.2.2.2.1 with
      | none => none
      | some (.exit d22) =>
       if (0 : Int) ≤ d5.1 then
       if d5.1 < d22.2.2.2.1.length then
       match z0m k (IntKind.i64.wrap ((IntKind.i64.wrap (d4.1 + d4.2.1)) + 1)) d22.1 d22.2.1 d22.2.2.1 (d22.2.2.2.1.set d5.1.toNat (IntKind.i64.wrap (d4.1 + d4.2.1))) with
       | none => none
       | some (.exit d23) =>
        none
       | some (.ret d23) =>
        if (0 : Int) ≤ d23.2.2.1 then
        if d23.2.2.1 < d23.2.2.2.1.length then
        (z1m fuel (d23.2.2.2.1, (d23.2.2.2.2.1, (d23.2.1, d23.2.2.1)))).bind fun r24 =>
        if (0 : Int) ≤ r24 then
        if r24 < (d23.2.2.2.1.getD d23.2.2.1.toNat []).length then
        (z1k fuel (((d23.2.2.2.1.getD d23.2.2.1.toNat []).getD r24.toNat (false, ([], []))).1, (((d23.2.2.2.1.getD d23.2.2.1.toNat []).getD r24.toNat (false, ([], []))).2))).bind fun r25 =>
        if decide (r25 < 0) = true then
        if (0 : Int) ≤ d23.2.2.1 then
        if d23.2.2.1 < d23.2.2.2.1.length then
        if (0 : Int) ≤ IntKind.i64.wrap (d23.2.1 + d23.2.2.1) then
        if IntKind.i64.wrap (d23.2.1 + d23.2.2.1) ≤ (d23.2.2.2.1.getD d23.2.2.1.toNat []).length then
        if (0 : Int) ≤ d23.2.1 then
        if d23.2.1 ≤ IntKind.i64.wrap (d23.2.1 + d23.2.2.1) then
        (z13 fuel 1 [] (((d23.2.2.2.1.getD d23.2.2.1.toNat []).take (IntKind.i64.wrap (d23.2.1 + d23.2.2.1)).toNat).drop d23.2.1.toNat) [] (false, ([], []))).bind fun r26 =>
        some (r26.1, r26.2)
        else none
        else none
        else none
        else none
        else none
        else none
        else
        match z0s k (IntKind.i64.wrap (d4.1 + d4.2.1)) (d23.2.2.2.2.1.length : Int) 0 d23.2.1 d23.2.2.1 d23.2.2.2.2.1 d23.2.2.2.1 with
        | none => none
        | some (.exit d27) =>
         (z31 fuel a0.2.2).bind fun r28 =>
         if (0 : Int) ≤ IntKind.i64.wrap ((IntKind.i64.wrap (d27.1 + d27.2.1)) + 2) then
         if IntKind.i64.wrap ((IntKind.i64.wrap (d27.1 + d27.2.1)) + 2) ≤ IntKind.i64.wrap ((IntKind.i64.wrap (d27.1 + d27.2.1)) + 2) then
         if (IntKind.i64.wrap ((IntKind.i64.wrap (d27.1 + d27.2.1)) + 2)) * 56 ≤ 281474976710656 then
         match z0t k (r28.length : Int) 0 (List.replicate ((IntKind.i64.wrap ((IntKind.i64.wrap (d27.1 + d27.2.1)) + 2)).toNat) ((false, ([], [])) : Bool × ((List Int) × (List Int)))) r28 with
         | none => none
         | some (.exit d29) =>
          if (0 : Int) ≤ d27.2.1 then
          if d27.2.1 ≤ d27.2.2.2.1.length then
          if ((d27.2.2.2.1.take d27.2.1.toNat).length + 1) * 24 ≤ 140737488355328 then
          match z0n k ((d27.2.2.2.1.take d27.2.1.toNat).length) (d27.2.2.1.length : Int) 0 d27.1 d27.2.1 ((d27.2.2.2.1.take d27.2.1.toNat) ++ [d29.1]) d27.2.2.1 with
          | none => none
          | some (.exit d30) =>
           match z11 k (IntKind.i64.wrap (d30.1 + d30.2.1)) d30.1 d30.2.1 d30.2.2.1 d30.2.2.2.1 with
           | none => none
           | some (.exit d31) =>
            none
           | some (.ret d31) =>
            if (0 : Int) ≤ d31.2.1 then
            if d31.2.1 ≤ d31.2.1 then
            if d31.2.1 * 56 ≤ 281474976710656 then
            match z0j k (d31.2.2.2.2.1.length : Int) 0 d31.2.1 d31.2.2.1 (List.replicate d31.2.1.toNat ((false, ([], [])) : Bool × ((List Int) × (List Int)))) d31.2.2.2.2.1 d31.2.2.2.1 with
            | none => none
            | some (.exit d32) =>
             if decide (d31.1 < 0) = true then
             if (0 : Int) ≤ d32.2.2.1 then
             if d32.2.2.1 < d32.2.2.2.2.1.length then
             if (0 : Int) ≤ IntKind.i64.wrap (d32.2.1 + d32.2.2.1) then
             if IntKind.i64.wrap (d32.2.1 + d32.2.2.1) ≤ (d32.2.2.2.2.1.getD d32.2.2.1.toNat []).length then
             if (0 : Int) ≤ d32.2.1 then
             if d32.2.1 ≤ IntKind.i64.wrap (d32.2.1 + d32.2.2.1) then
             if (0 : Int) ≤ d32.2.2.1 then
             if d32.2.2.1 < d32.2.2.2.2.1.length then
             (z1m fuel (d32.2.2.2.2.1, (d32.2.2.2.1, (d32.2.1, d32.2.2.1)))).bind fun r33 =>
             if (0 : Int) ≤ r33 then
             if r33 < (d32.2.2.2.2.1.getD d32.2.2.1.toNat []).length then
             (z13 fuel 0 d32.1 (((d32.2.2.2.2.1.getD d32.2.2.1.toNat []).take (IntKind.i64.wrap (d32.2.1 + d32.2.2.1)).toNat).drop d32.2.1.toNat) [] (((d32.2.2.2.2.1.getD d32.2.2.1.toNat []).getD r33.toNat (false, ([], []))).1, (((d32.2.2.2.2.1.getD d32.2.2.1.toNat []).getD r33.toNat (false, ([], []))).2))).bind fun r34 =>
             some (r34.1, r34.2)
             else none
             else none
             else none
             else none
             else none
             else none
             else none
             else none
             else none
             else none
             else
             if (0 : Int) ≤ d32.2.1 then
             if d32.2.1 ≤ d32.2.1 then
             if d32.2.1 * 56 ≤ 281474976710656 then
             if decide (d31.1 < d32.2.1) = true then
             (z6z fuel 1).bind fun r35 =>
             if (0 : Int) ≤ d31.1 then
             if d31.1 < (List.replicate d32.2.1.toNat ((false, ([], [])) : Bool × ((List Int) × (List Int)))).length then
             match z1j k d31.1 (d32.2.2.2.1.length : Int) 0 d32.2.1 d32.2.2.1 ((List.replicate d32.2.1.toNat ((false, ([], [])) : Bool × ((List Int) × (List Int)))).set d31.1.toNat r35) d32.2.2.2.1 d32.2.2.2.2.1 with
             | none => none
             | some (.exit d36) =>
              (z13 fuel 2 d32.1 [] d36.1 (false, ([], []))).bind fun r37 =>
              some (r37.1, r37.2)
             | some (.ret d36) =>
              none
             else none
             else none
             else
             match z1j k d31.1 (d32.2.2.2.1.length : Int) 0 d32.2.1 d32.2.2.1 (List.replicate d32.2.1.toNat ((false, ([], [])) : Bool × ((List Int) × (List Int)))) d32.2.2.2.1 d32.2.2.2.2.1 with
             | none => none
             | some (.exit d38) =>
              (z13 fuel 2 d32.1 [] d38.1 (false, ([], []))).bind fun r39 =>
              some (r39.1, r39.2)
             | some (.ret d38) =>
              none
             else none
             else none
             else none
            | some (.ret d32) =>
             none
            else none
            else none
            else none
          | some (.ret d30) =>
           none
          else none
          else none
          else none
         | some (.ret d29) =>
          none
         else none
         else none
         else none
        | some (.ret d27) =>
         none
        else none
        else none
        else none
        else none
       else none
       else none
      | some (.ret d22) =>
       none
     | some (.ret d21) =>
      none
     else none
     else none
     else none
     else none
     else none
     else none
    | some (.ret d20) =>
     none
    else none
    else none
    else none
   | some (.ret d19) =>
    none
   else none
   else none
   else none
   else none
   else none
   else none
   else none
   else none
  | some (.ret d5) =>
   none
 | some (.ret d4) =>
  none
theorem z85 (m : Nat) (d : dens l_simplex_start__simplex_Solve_4H.tys) : l_simplex_start__simplex_Solve_4L.f (m + 1) d = round z0q z0l m [29, 9] 110 (z2w (z1g Tryd.f29) 0) l_simplex_start__simplex_Solve_4L (l_simplex_start__simplex_Solve_4L.f m) d := by kernel_rfl
theorem z5s (m : Nat) (d : dens l_simplex_table_feasible__simplex_Solve_3H.tys) : l_simplex_table_feasible__simplex_Solve_3L.f (m + 1) d = round z0q z0l m [30, 9] 134 (z2w (z1g Tryd.f30) 0) l_simplex_table_feasible__simplex_Solve_3L (l_simplex_table_feasible__simplex_Solve_3L.f m) d := by kernel_rfl
theorem z6d (m : Nat) (d : dens l_simplex_table_goal__simplex_Solve_2H.tys) : l_simplex_table_goal__simplex_Solve_2L.f (m + 1) d = round z0q z0l m [32, 9] 94 (z2w (z1g Tryd.f32) 0) l_simplex_table_goal__simplex_Solve_2L (l_simplex_table_goal__simplex_Solve_2L.f m) d := by kernel_rfl
theorem z67 (m : Nat) (d : dens l_simplex_table_goal__simplex_Solve_13H.tys) : l_simplex_table_goal__simplex_Solve_13L.f (m + 1) d = round z0q z0l m [32, 9] 94 (z2w (z1g Tryd.f32) 2) l_simplex_table_goal__simplex_Solve_13L (l_simplex_table_goal__simplex_Solve_13L.f m) d := by kernel_rfl
theorem z6e (m : Nat) (d : dens l_simplex_table_goal__simplex_Solve_8H.tys) : l_simplex_table_goal__simplex_Solve_8L.f (m + 1) d = round z0q z0l m [32, 9] 94 (z2w (z1g Tryd.f32) 1) l_simplex_table_goal__simplex_Solve_8L (l_simplex_table_goal__simplex_Solve_8L.f m) d := by kernel_rfl
theorem z6n (m : Nat) (d : dens l_simplex_table_run__simplex_Solve_2H.tys) : l_simplex_table_run__simplex_Solve_2L.f (m + 1) d = round z0q z0l m [34, 9] 42 (z2w (z1g Tryd.f34) 1) l_simplex_table_run__simplex_Solve_2L (l_simplex_table_run__simplex_Solve_2L.f m) d := by kernel_rfl
theorem z3u (m : Nat) (d : dens l_simplex_table_pivot__simplex_table_run__simplex_Solve_2H.tys) : l_simplex_table_pivot__simplex_table_run__simplex_Solve_2L.f (m + 1) d = round z0q z0l m [62, 34, 9] 132 (z2w (z1g Tryd.f62) 0) l_simplex_table_pivot__simplex_table_run__simplex_Solve_2L (l_simplex_table_pivot__simplex_table_run__simplex_Solve_2L.f m) d := by kernel_rfl
theorem z3q (m : Nat) (d : dens l_simplex_table_pivot__simplex_table_run__simplex_Solve_12H.tys) : l_simplex_table_pivot__simplex_table_run__simplex_Solve_12L.f (m + 1) d = round z0q z0l m [62, 34, 9] 132 (z2w (z1g Tryd.f62) 2) l_simplex_table_pivot__simplex_table_run__simplex_Solve_12L (l_simplex_table_pivot__simplex_table_run__simplex_Solve_12L.f m) d := by kernel_rfl
theorem z3v (m : Nat) (d : dens l_simplex_table_pivot__simplex_table_run__simplex_Solve_7H.tys) : l_simplex_table_pivot__simplex_table_run__simplex_Solve_7L.f (m + 1) d = round z0q z0l m [62, 34, 9] 132 (z2w (z1g Tryd.f62) 1) l_simplex_table_pivot__simplex_table_run__simplex_Solve_7L (l_simplex_table_pivot__simplex_table_run__simplex_Solve_7L.f m) d := by kernel_rfl
theorem z6m (m : Nat) (d : dens l_simplex_table_run__simplex_Solve_1H.tys) : l_simplex_table_run__simplex_Solve_1L.f (m + 1) d = round z0q z0l m [34, 9] 42 (z2w (z1g Tryd.f34) 0) l_simplex_table_run__simplex_Solve_1L (l_simplex_table_run__simplex_Solve_1L.f m) d := by kernel_rfl
theorem z5t (m : Nat) (d : dens l_simplex_table_solution__simplex_Solve_3H.tys) : l_simplex_table_solution__simplex_Solve_3L.f (m + 1) d = round z0q z0l m [35, 9] 43 (z2w (z1g Tryd.f35) 0) l_simplex_table_solution__simplex_Solve_3L (l_simplex_table_solution__simplex_Solve_3L.f m) d := by kernel_rfl
theorem zv0 (m : Nat) (d : dens l_simplex_Solve_16H.tys) : l_simplex_Solve_16L.f (m + 1) d = round z0q z0l m [9] 164 (z2w (z1g Tryd.f9) 0) l_simplex_Solve_16L (l_simplex_Solve_16L.f m) d := by kernel_rfl
theorem z3f (m : Nat) (d : dens l_simplex_table_goal__simplex_table_feasible__simplex_Solve_2H.tys) : l_simplex_table_goal__simplex_table_feasible__simplex_Solve_2L.f (m + 1) d = round z0q z0l m [32, 30, 9] 94 (z2w (z1g Tryd.f32) 0) l_simplex_table_goal__simplex_table_feasible__simplex_Solve_2L (l_simplex_table_goal__simplex_table_feasible__simplex_Solve_2L.f m) d := by kernel_rfl
theorem z3b (m : Nat) (d : dens l_simplex_table_goal__simplex_table_feasible__simplex_Solve_13H.tys) : l_simplex_table_goal__simplex_table_feasible__simplex_Solve_13L.f (m + 1) d = round z0q z0l m [32, 30, 9] 94 (z2w (z1g Tryd.f32) 2) l_simplex_table_goal__simplex_table_feasible__simplex_Solve_13L (l_simplex_table_goal__simplex_table_feasible__simplex_Solve_13L.f m) d := by kernel_rfl
theorem z3g (m : Nat) (d : dens l_simplex_table_goal__simplex_table_feasible__simplex_Solve_8H.tys) : l_simplex_table_goal__simplex_table_feasible__simplex_Solve_8L.f (m + 1) d = round z0q z0l m [32, 30, 9] 94 (z2w (z1g Tryd.f32) 1) l_simplex_table_goal__simplex_table_feasible__simplex_Solve_8L (l_simplex_table_goal__simplex_table_feasible__simplex_Solve_8L.f m) d := by kernel_rfl
theorem z3c (m : Nat) (d : dens l_simplex_table_pivot__simplex_table_feasible__simplex_Solve_2H.tys) : l_simplex_table_pivot__simplex_table_feasible__simplex_Solve_2L.f (m + 1) d = round z0q z0l m [62, 30, 9] 132 (z2w (z1g Tryd.f62) 0) l_simplex_table_pivot__simplex_table_feasible__simplex_Solve_2L (l_simplex_table_pivot__simplex_table_feasible__simplex_Solve_2L.f m) d := by kernel_rfl
theorem z39 (m : Nat) (d : dens l_simplex_table_pivot__simplex_table_feasible__simplex_Solve_12H.tys) : l_simplex_table_pivot__simplex_table_feasible__simplex_Solve_12L.f (m + 1) d = round z0q z0l m [62, 30, 9] 132 (z2w (z1g Tryd.f62) 2) l_simplex_table_pivot__simplex_table_feasible__simplex_Solve_12L (l_simplex_table_pivot__simplex_table_feasible__simplex_Solve_12L.f m) d := by kernel_rfl
theorem z3d (m : Nat) (d : dens l_simplex_table_pivot__simplex_table_feasible__simplex_Solve_7H.tys) : l_simplex_table_pivot__simplex_table_feasible__simplex_Solve_7L.f (m + 1) d = round z0q z0l m [62, 30, 9] 132 (z2w (z1g Tryd.f62) 1) l_simplex_table_pivot__simplex_table_feasible__simplex_Solve_7L (l_simplex_table_pivot__simplex_table_feasible__simplex_Solve_7L.f m) d := by kernel_rfl
theorem z3j (m : Nat) (d : dens l_simplex_table_run__simplex_table_feasible__simplex_Solve_2H.tys) : l_simplex_table_run__simplex_table_feasible__simplex_Solve_2L.f (m + 1) d = round z0q z0l m [34, 30, 9] 42 (z2w (z1g Tryd.f34) 1) l_simplex_table_run__simplex_table_feasible__simplex_Solve_2L (l_simplex_table_run__simplex_table_feasible__simplex_Solve_2L.f m) d := by kernel_rfl
theorem z2g (m : Nat) (d : dens l_simplex_table_pivot__simplex_table_run__simplex_table_feasible__simplex_Solve_2H.tys) : l_simplex_table_pivot__simplex_table_run__simplex_table_feasible__simplex_Solve_2L.f (m + 1) d = round z0q z0l m [62, 34, 30, 9] 132 (z2w (z1g Tryd.f62) 0) l_simplex_table_pivot__simplex_table_run__simplex_table_feasible__simplex_Solve_2L (l_simplex_table_pivot__simplex_table_run__simplex_table_feasible__simplex_Solve_2L.f m) d := by kernel_rfl
theorem z2f (m : Nat) (d : dens l_simplex_table_pivot__simplex_table_run__simplex_table_feasible__simplex_Solve_12H.tys) : l_simplex_table_pivot__simplex_table_run__simplex_table_feasible__simplex_Solve_12L.f (m + 1) d = round z0q z0l m [62, 34, 30, 9] 132 (z2w (z1g Tryd.f62) 2) l_simplex_table_pivot__simplex_table_run__simplex_table_feasible__simplex_Solve_12L (l_simplex_table_pivot__simplex_table_run__simplex_table_feasible__simplex_Solve_12L.f m) d := by kernel_rfl
theorem z2h (m : Nat) (d : dens l_simplex_table_pivot__simplex_table_run__simplex_table_feasible__simplex_Solve_7H.tys) : l_simplex_table_pivot__simplex_table_run__simplex_table_feasible__simplex_Solve_7L.f (m + 1) d = round z0q z0l m [62, 34, 30, 9] 132 (z2w (z1g Tryd.f62) 1) l_simplex_table_pivot__simplex_table_run__simplex_table_feasible__simplex_Solve_7L (l_simplex_table_pivot__simplex_table_run__simplex_table_feasible__simplex_Solve_7L.f m) d := by kernel_rfl
theorem z3i (m : Nat) (d : dens l_simplex_table_run__simplex_table_feasible__simplex_Solve_1H.tys) : l_simplex_table_run__simplex_table_feasible__simplex_Solve_1L.f (m + 1) d = round z0q z0l m [34, 30, 9] 42 (z2w (z1g Tryd.f34) 0) l_simplex_table_run__simplex_table_feasible__simplex_Solve_1L (l_simplex_table_run__simplex_table_feasible__simplex_Solve_1L.f m) d := by kernel_rfl
theorem z5r (m : Nat) (d : dens l_simplex_table_feasible__simplex_Solve_23H.tys) : l_simplex_table_feasible__simplex_Solve_23L.f (m + 1) d = round z0q z0l m [30, 9] 134 (z2w (z1g Tryd.f30) 2) l_simplex_table_feasible__simplex_Solve_23L (l_simplex_table_feasible__simplex_Solve_23L.f m) d := by kernel_rfl
theorem z5q (m : Nat) (d : dens l_simplex_table_feasible__simplex_Solve_19H.tys) : l_simplex_table_feasible__simplex_Solve_19L.f (m + 1) d = round z0q z0l m [30, 9] 134 (z2w (z1g Tryd.f30) 1) l_simplex_table_feasible__simplex_Solve_19L (l_simplex_table_feasible__simplex_Solve_19L.f m) d := by kernel_rfl
def zw5 (k : Nat) : Vm.Spec := { ps := [.pair (.slice (.slice .str)) (.pair (.slice .str) (.slice .str))], rs := [.imm (.pair (.int .i64) (.pair (.slice .str) (.pair (.slice .str) (.pair (.slice .str) .str)))), .imm (.int .i64)], f := fun x => z3l k x }
noncomputable def zi9 : Vm.Spec := zw5 fuel
theorem zd4 : Vm.Spec.holds Tryd.prog 9 zi9 := z15 (E := z0q) (L := z0l) (fn := Tryd.f9) (Z := zw5) (z1t ok) (z0u (by exact ⟨⟨by kernel_rfl, z5d⟩, ⟨by kernel_rfl, zy2⟩, ⟨by kernel_rfl, z9i⟩, ⟨by kernel_rfl, z7o⟩, ⟨by kernel_rfl, y8m⟩, ⟨by kernel_rfl, za8⟩, ⟨by kernel_rfl, zq2⟩, ⟨by kernel_rfl, za6⟩, ⟨by kernel_rfl, z3k⟩, ⟨by kernel_rfl, z7d⟩, ⟨by kernel_rfl, za7⟩, ⟨by kernel_rfl, zf4⟩, ⟨by kernel_rfl, zq6⟩, trivial⟩)) z16 (zd0 (by exact ⟨by kernel_rfl, by kernel_rfl, by kernel_rfl, by kernel_rfl, by kernel_rfl, by kernel_rfl, by kernel_rfl, by kernel_rfl, by kernel_rfl, by kernel_rfl, by kernel_rfl, by kernel_rfl, trivial⟩)) (z4u (by exact ⟨(z2x [[9]] (by exact ⟨z0o (ls := [(4, l_simplex_start__simplex_Solve_4L)]) rfl rfl ⟨by kernel_rfl, fun _ => rfl, z85, z0p (by kernel_rfl)⟩,  trivial⟩) rfl), (z2x [[9]] (by exact ⟨z0o (ls := [(3, l_simplex_table_feasible__simplex_Solve_3L), (19, l_simplex_table_feasible__simplex_Solve_19L), (23, l_simplex_table_feasible__simplex_Solve_23L)]) rfl rfl ⟨by kernel_rfl, fun _ => rfl, z5s, by kernel_rfl, fun _ => rfl, z5q, by kernel_rfl, fun _ => rfl, z5r, z0p (by kernel_rfl)⟩,  trivial⟩) rfl), (z2x [[9], [30, 9]] (by exact ⟨z0o (ls := [(2, l_simplex_table_goal__simplex_Solve_2L), (8, l_simplex_table_goal__simplex_Solve_8L), (13, l_simplex_table_goal__simplex_Solve_13L)]) rfl rfl ⟨by kernel_rfl, fun _ => rfl, z6d, by kernel_rfl, fun _ => rfl, z6e, by kernel_rfl, fun _ => rfl, z67, z0p (by kernel_rfl)⟩, z0o (ls := [(2, l_simplex_table_goal__simplex_table_feasible__simplex_Solve_2L), (8, l_simplex_table_goal__simplex_table_feasible__simplex_Solve_8L), (13, l_simplex_table_goal__simplex_table_feasible__simplex_Solve_13L)]) rfl rfl ⟨by kernel_rfl, fun _ => rfl, z3f, by kernel_rfl, fun _ => rfl, z3g, by kernel_rfl, fun _ => rfl, z3b, z0p (by kernel_rfl)⟩,  trivial⟩) rfl), (z2x [[9], [30, 9]] (by exact ⟨z0o (ls := [(1, l_simplex_table_run__simplex_Solve_1L), (2, l_simplex_table_run__simplex_Solve_2L)]) rfl rfl ⟨by kernel_rfl, fun _ => rfl, z6m, by kernel_rfl, fun _ => rfl, z6n, z0p (by kernel_rfl)⟩, z0o (ls := [(1, l_simplex_table_run__simplex_table_feasible__simplex_Solve_1L), (2, l_simplex_table_run__simplex_table_feasible__simplex_Solve_2L)]) rfl rfl ⟨by kernel_rfl, fun _ => rfl, z3i, by kernel_rfl, fun _ => rfl, z3j, z0p (by kernel_rfl)⟩,  trivial⟩) rfl), (z2x [[9]] (by exact ⟨z0o (ls := [(3, l_simplex_table_solution__simplex_Solve_3L)]) rfl rfl ⟨by kernel_rfl, fun _ => rfl, z5t, z0p (by kernel_rfl)⟩,  trivial⟩) rfl), (z2x [[34, 9], [30, 9], [34, 30, 9]] (by exact ⟨z0o (ls := [(2, l_simplex_table_pivot__simplex_table_run__simplex_Solve_2L), (7, l_simplex_table_pivot__simplex_table_run__simplex_Solve_7L), (12, l_simplex_table_pivot__simplex_table_run__simplex_Solve_12L)]) rfl rfl ⟨by kernel_rfl, fun _ => rfl, z3u, by kernel_rfl, fun _ => rfl, z3v, by kernel_rfl, fun _ => rfl, z3q, z0p (by kernel_rfl)⟩, z0o (ls := [(2, l_simplex_table_pivot__simplex_table_feasible__simplex_Solve_2L), (7, l_simplex_table_pivot__simplex_table_feasible__simplex_Solve_7L), (12, l_simplex_table_pivot__simplex_table_feasible__simplex_Solve_12L)]) rfl rfl ⟨by kernel_rfl, fun _ => rfl, z3c, by kernel_rfl, fun _ => rfl, z3d, by kernel_rfl, fun _ => rfl, z39, z0p (by kernel_rfl)⟩, z0o (ls := [(2, l_simplex_table_pivot__simplex_table_run__simplex_table_feasible__simplex_Solve_2L), (7, l_simplex_table_pivot__simplex_table_run__simplex_table_feasible__simplex_Solve_7L), (12, l_simplex_table_pivot__simplex_table_run__simplex_table_feasible__simplex_Solve_12L)]) rfl rfl ⟨by kernel_rfl, fun _ => rfl, z2g, by kernel_rfl, fun _ => rfl, z2h, by kernel_rfl, fun _ => rfl, z2f, z0p (by kernel_rfl)⟩,  trivial⟩) rfl),  trivial⟩)) (by kernel_rfl) (by kernel_rfl) (z0o (ls := [(16, l_simplex_Solve_16L)]) rfl rfl ⟨by kernel_rfl, fun _ => rfl, zv0, z0p (by kernel_rfl)⟩) fun k x => by kernel_rfl
noncomputable def zz0 : Env := { te := te, spec := [(19, z79), (52, zt4)], body := [] }
def l_simplex_shape_2H : Ann := { slots := [(18, .one (.own 72 (.slice .str))), (19, .one (.val (.int .i64))), (20, .one (.val (.int .i64)))], objs := [(72, .buf (.slice .str))] }
def zn5 : Ann := { slots := [], objs := [(72, .buf (.slice .str))] }
def zn4 : Ann := { slots := [(4, .one (.val (.int .i64)))], objs := [(72, .buf (.slice .str))] }
def zb3 : Nat → Int → Int → List (List ByteArray) → Option (LR zn5 zn4)
 | 0, _, _, _ => none
 | m + 1, s19, s20, b72 =>
  if decide (s20 < s19) = true then
  if (0 : Int) ≤ s20 then
  if s20 < b72.length then
  (z2b fuel (b72.getD s20.toNat [])).bind fun r1 =>
  if (r1 != 0) = true then
  some (.ret (r1, b72, ()))
  else
  zb3 m s19 (IntKind.i64.wrap (s20 + 1)) b72
  else none
  else none
  else
  some (.exit (b72, ()))
def l_simplex_shape_2L : LSpec := { h := l_simplex_shape_2H, x := zn5, r := zn4, xid := 0, rt := true, pins := [72], f := fun k d => zb3 k d.1 d.2.1 d.2.2.1 }
def zv9 : z2a := [([41], [(2, l_simplex_shape_2L)])]
def y0a (k : Nat) (a0 : (List (List ByteArray)) × ((List ByteArray) × (List ByteArray))) (a1 : Int × ((List ByteArray) × ((List ByteArray) × ((List ByteArray) × ByteArray)))) : Option (Int) :=
 match zb3 k 3 0 [a1.2.1, a1.2.2.1, a1.2.2.2.1] with
 | none => none
 | some (.exit d1) =>
  if decide (a1.1 < 0) = false then
  if decide (a1.1 > 2) = true then
  some 1
  else
  if (0 : Int) ≤ a1.1 then
  if a1.1 < 3 then
  if ((a1.2.1.length : Int) != ([[(a0.2.2.length : Int), (a0.1.length : Int), 0], [0, (a0.1.length : Int), 0], [(a0.2.2.length : Int), 0, (a0.2.2.length : Int)]].getD a1.1.toNat (List.replicate 3 0)).getD 0 0) = false then
  if ((a1.2.2.1.length : Int) != ([[(a0.2.2.length : Int), (a0.1.length : Int), 0], [0, (a0.1.length : Int), 0], [(a0.2.2.length : Int), 0, (a0.2.2.length : Int)]].getD a1.1.toNat (List.replicate 3 0)).getD 1 0) = false then
  if ((a1.2.2.2.1.length : Int) != ([[(a0.2.2.length : Int), (a0.1.length : Int), 0], [0, (a0.1.length : Int), 0], [(a0.2.2.length : Int), 0, (a0.2.2.length : Int)]].getD a1.1.toNat (List.replicate 3 0)).getD 2 0) = true then
  some 3
  else
  if (a1.1 == 0) = true then
  (z6y fuel a1.2.2.2.2).bind fun r2 =>
  some r2
  else
  if (!(a1.2.2.2.2.toList == (⟨#[]⟩ : ByteArray).toList)) = true then
  some 3
  else
  some 0
  else
  some 3
  else
  some 3
  else none
  else none
  else
  some 1
 | some (.ret d1) =>
  some d1.1
theorem zy6 (m : Nat) (d : dens l_simplex_shape_2H.tys) : l_simplex_shape_2L.f (m + 1) d = round zz0 zv9 m [41] 88 (z2w (z1g Tryd.f41) 0) l_simplex_shape_2L (l_simplex_shape_2L.f m) d := by kernel_rfl
def zw8 (k : Nat) : Vm.Spec := { ps := [.pair (.slice (.slice .str)) (.pair (.slice .str) (.slice .str)), .pair (.int .i64) (.pair (.slice .str) (.pair (.slice .str) (.pair (.slice .str) .str)))], rs := [.imm (.int .i64)], f := fun x => y0a k x.1 x.2 }
noncomputable def zz9 : Vm.Spec := zw8 fuel
theorem y0b : Vm.Spec.holds Tryd.prog 41 zz9 := z15 (E := zz0) (L := zv9) (fn := Tryd.f41) (Z := zw8) (z1t ok) (z0u (by exact ⟨⟨by kernel_rfl, z60⟩, ⟨by kernel_rfl, za3⟩, trivial⟩)) z16 (z0a rfl) (z01 rfl) (by kernel_rfl) (by kernel_rfl) (z0o (ls := [(2, l_simplex_shape_2L)]) rfl rfl ⟨by kernel_rfl, fun _ => rfl, zy6, z0p (by kernel_rfl)⟩) fun k x => by kernel_rfl
noncomputable def zl7 : Env := { te := te, spec := [(49, z5y)], body := [] }
def l_simplex_negative_2H : Ann := { slots := [(5, .one (.val (.slice qT))), (6, .one (.val (.int .i64))), (7, .one (.val (.int .i64)))], objs := [] }
def ze4 : Ann := { slots := [], objs := [] }
def ze3 : Ann := { slots := [(2, .one (.val .bool))], objs := [] }
def z84 : Nat → List (Bool × ((List Int) × (List Int))) → Int → Int → Option (LR ze4 ze3)
 | 0, _, _, _ => none
 | m + 1, s5, s6, s7 =>
  if decide (s7 < s6) = true then
  if (0 : Int) ≤ s7 then
  if s7 < s5.length then
  (z1k fuel ((s5.getD s7.toNat (false, ([], []))).1, ((s5.getD s7.toNat (false, ([], []))).2))).bind fun r1 =>
  if decide (r1 < 0) = true then
  some (.ret (true, ()))
  else
  z84 m s5 s6 (IntKind.i64.wrap (s7 + 1))
  else none
  else none
  else
  some (.exit ())
def l_simplex_negative_2L : LSpec := { h := l_simplex_negative_2H, x := ze4, r := ze3, xid := 0, rt := true, pins := [], f := fun k d => z84 k d.1 d.2.1 d.2.2.1 }
def zi5 : z2a := [([43], [(2, l_simplex_negative_2L)])]
def z6r (k : Nat) (a0 : List (Bool × ((List Int) × (List Int)))) : Option (Bool) :=
 match z84 k a0 (a0.length : Int) 0 with
 | none => none
 | some (.exit d1) =>
  some false
 | some (.ret d1) =>
  some d1.1
theorem zo7 (m : Nat) (d : dens l_simplex_negative_2H.tys) : l_simplex_negative_2L.f (m + 1) d = round zl7 zi5 m [43] 15 (z2w (z1g Tryd.f43) 0) l_simplex_negative_2L (l_simplex_negative_2L.f m) d := by kernel_rfl
def zj1 (k : Nat) : Vm.Spec := { ps := [.slice qT], rs := [.imm .bool], f := fun x => z6r k x }
noncomputable def zm1 : Vm.Spec := zj1 fuel
theorem zq7 : Vm.Spec.holds Tryd.prog 43 zm1 := z15 (E := zl7) (L := zi5) (fn := Tryd.f43) (Z := zj1) (z1t ok) (z0u (by exact ⟨⟨by kernel_rfl, z3k⟩, trivial⟩)) z16 (z0a rfl) (z01 rfl) (by kernel_rfl) (by kernel_rfl) (z0o (ls := [(2, l_simplex_negative_2L)]) rfl rfl ⟨by kernel_rfl, fun _ => rfl, zo7, z0p (by kernel_rfl)⟩) fun k x => by kernel_rfl
noncomputable def zv7 : Env := { te := te, spec := [(55, zt5), (64, zt7)], body := [] }
def l_simplex_scalar_3H : Ann := { slots := [(1, .one (.val (.slice qT))), (5, .one (.fix (.pbox 20 0))), (8, .one (.val (.slice qT))), (9, .one (.val (.int .i64))), (10, .one (.val (.int .i64)))], objs := [(20, .box [.val .bool, .val (.slice (.int .u32)), .val (.slice (.int .u32))])] }
def zk7 : Ann := { slots := [(5, .one (.fix (.pbox 20 0)))], objs := [(20, .box [.val .bool, .val (.slice (.int .u32)), .val (.slice (.int .u32))])] }
def zk6 : Ann := { slots := [], objs := [] }
def z9p : Nat → List (Bool × ((List Int) × (List Int))) → List (Bool × ((List Int) × (List Int))) → Int → Int → Bool → List Int → List Int → Option (LR zk7 zk6)
 | 0, _, _, _, _, _, _, _ => none
 | m + 1, s1, s8, s9, s10, b20_0, b20_1, b20_2 =>
  if decide (s10 < s9) = true then
  if (0 : Int) ≤ s10 then
  if s10 < s8.length then
  if (0 : Int) ≤ s10 then
  if s10 < s1.length then
  (z3a fuel ((s8.getD s10.toNat (false, ([], []))).1, ((s8.getD s10.toNat (false, ([], []))).2)) ((s1.getD s10.toNat (false, ([], []))).1, ((s1.getD s10.toNat (false, ([], []))).2))).bind fun r1 =>
  (za4 fuel (b20_0, (b20_1, b20_2)) r1).bind fun r2 =>
  z9p m s1 s8 s9 (IntKind.i64.wrap (s10 + 1)) r2.1 r2.2.1 r2.2.2
  else none
  else none
  else none
  else none
  else
  some (.exit (b20_0, b20_1, b20_2, ()))
def l_simplex_scalar_3L : LSpec := { h := l_simplex_scalar_3H, x := zk7, r := zk6, xid := 0, rt := false, pins := [20], f := fun k d => z9p k d.1 d.2.1 d.2.2.1 d.2.2.2.1 d.2.2.2.2.1 d.2.2.2.2.2.1 d.2.2.2.2.2.2.1 }
def zp1 : z2a := [([47], [(3, l_simplex_scalar_3L)])]
def z58 (k : Nat) (a0 : List (Bool × ((List Int) × (List Int)))) (a1 : List (Bool × ((List Int) × (List Int)))) : Option (Bool × ((List Int) × (List Int))) :=
 match z9p k a1 a0 (a0.length : Int) 0 false [] [] with
 | none => none
 | some (.exit d1) =>
  some (d1.1, (d1.2.1, d1.2.2.1))
 | some (.ret d1) =>
  none
theorem zv1 (m : Nat) (d : dens l_simplex_scalar_3H.tys) : l_simplex_scalar_3L.f (m + 1) d = round zv7 zp1 m [47] 25 (z2w (z1g Tryd.f47) 0) l_simplex_scalar_3L (l_simplex_scalar_3L.f m) d := by kernel_rfl
def zp7 (k : Nat) : Vm.Spec := { ps := [.slice qT, .slice qT], rs := [.imm qT], f := fun x => z58 k x.1 x.2 }
noncomputable def ze9 : Vm.Spec := zp7 fuel
theorem z9w : Vm.Spec.holds Tryd.prog 47 ze9 := z15 (E := zv7) (L := zp1) (fn := Tryd.f47) (Z := zp7) (z1t ok) (z0u (by exact ⟨⟨by kernel_rfl, za5⟩, ⟨by kernel_rfl, za7⟩, trivial⟩)) z16 (z0a rfl) (z01 rfl) (by kernel_rfl) (by kernel_rfl) (z0o (ls := [(3, l_simplex_scalar_3L)]) rfl rfl ⟨by kernel_rfl, fun _ => rfl, zv1, z0p (by kernel_rfl)⟩) fun k x => by kernel_rfl
noncomputable def zy9 : Env := { te := te, spec := [(47, ze9), (49, z5y), (63, zi8)], body := [] }
def l_simplex_below_2H : Ann := { slots := [(1, .one (.val (.slice qT))), (2, .one (.val (.nsl qT))), (10, .one (.val (.slice (.slice qT)))), (11, .one (.val (.int .i64))), (12, .one (.val (.int .i64)))], objs := [] }
def zn3 : Ann := { slots := [], objs := [] }
def zn2 : Ann := { slots := [(6, .one (.val .bool))], objs := [] }
def z7l : Nat → List (Bool × ((List Int) × (List Int))) → Option (List (Bool × ((List Int) × (List Int)))) → List (List (Bool × ((List Int) × (List Int)))) → Int → Int → Option (LR zn3 zn2)
 | 0, _, _, _, _, _ => none
 | m + 1, s1, s2, s10, s11, s12 =>
  if decide (s12 < s11) = true then
  if (0 : Int) ≤ s12 then
  if s12 < s10.length then
  (z58 fuel (s10.getD s12.toNat []) s1).bind fun r1 =>
  if (!(s2.isNone)) = true then
  if (0 : Int) ≤ s12 then
  if s12 < (s2.getD []).length then
  (z52 fuel r1 (((s2.getD []).getD s12.toNat (false, ([], []))).1, (((s2.getD []).getD s12.toNat (false, ([], []))).2))).bind fun r2 =>
  (z1k fuel r2).bind fun r3 =>
  if decide (r3 > 0) = true then
  some (.ret (false, ()))
  else
  z7l m s1 s2 s10 s11 (IntKind.i64.wrap (s12 + 1))
  else none
  else none
  else
  (z1k fuel r1).bind fun r4 =>
  if decide (r4 > 0) = true then
  some (.ret (false, ()))
  else
  z7l m s1 s2 s10 s11 (IntKind.i64.wrap (s12 + 1))
  else none
  else none
  else
  some (.exit ())
def l_simplex_below_2L : LSpec := { h := l_simplex_below_2H, x := zn3, r := zn2, xid := 0, rt := true, pins := [], f := fun k d => z7l k d.1 d.2.1 d.2.2.1 d.2.2.2.1 d.2.2.2.2.1 }
def zv8 : z2a := [([45], [(2, l_simplex_below_2L)])]
def z9l (k : Nat) (a0 : List (List (Bool × ((List Int) × (List Int))))) (a1 : List (Bool × ((List Int) × (List Int)))) (a2 : Option (List (Bool × ((List Int) × (List Int))))) : Option (Bool) :=
 match z7l k a1 a2 a0 (a0.length : Int) 0 with
 | none => none
 | some (.exit d1) =>
  some true
 | some (.ret d1) =>
  some d1.1
theorem zy5 (m : Nat) (d : dens l_simplex_below_2H.tys) : l_simplex_below_2L.f (m + 1) d = round zy9 zv8 m [45] 32 (z2w (z1g Tryd.f45) 0) l_simplex_below_2L (l_simplex_below_2L.f m) d := by kernel_rfl
def zw7 (k : Nat) : Vm.Spec := { ps := [.slice (.slice qT), .slice qT, .nsl qT], rs := [.imm .bool], f := fun x => z9l k x.1 x.2.1 x.2.2 }
noncomputable def zz8 : Vm.Spec := zw7 fuel
theorem zd6 : Vm.Spec.holds Tryd.prog 45 zz8 := z15 (E := zy9) (L := zv8) (fn := Tryd.f45) (Z := zw7) (z1t ok) (z0u (by exact ⟨⟨by kernel_rfl, z9w⟩, ⟨by kernel_rfl, z3k⟩, ⟨by kernel_rfl, z7d⟩, trivial⟩)) z16 (z0a rfl) (z01 rfl) (by kernel_rfl) (by kernel_rfl) (z0o (ls := [(2, l_simplex_below_2L)]) rfl rfl ⟨by kernel_rfl, fun _ => rfl, zy5, z0p (by kernel_rfl)⟩) fun k x => by kernel_rfl
def zf3 (x0 : List (List (Bool × ((List Int) × (List Int))))) (x1 : List (Bool × ((List Int) × (List Int)))) (x2 : List (Bool × ((List Int) × (List Int)))) : Option (Bool) := (z9l fuel x0 x1 (some x2)).bind fun r => if x2.isEmpty then (if z9l fuel x0 x1 none = some r then some r else none) else some r
noncomputable def zw2 : Vm.Spec := { ps := [.slice (.slice qT), .slice qT, .slice qT], rs := [.imm .bool], f := fun x => zf3 x.1 x.2.1 x.2.2 }
theorem zy1 : Vm.Spec.holds Tryd.prog 45 zw2 := yu6 zd6
noncomputable def zi4 : Env := { te := te, spec := [(49, z5y), (55, zt5), (63, zi8), (64, zt7)], body := [] }
def l_simplex_above_6H : Ann := { slots := [(1, .one (.val (.slice qT))), (9, .one (.val (.int .i64))), (10, .one (.fix (.pbox 40 0))), (17, .one (.val (.slice (.slice qT)))), (18, .one (.val (.int .i64))), (19, .one (.val (.int .i64)))], objs := [(40, .box [.val .bool, .val (.slice (.int .u32)), .val (.slice (.int .u32))])] }
def zn1 : Ann := { slots := [(10, .one (.fix (.pbox 40 0)))], objs := [(40, .box [.val .bool, .val (.slice (.int .u32)), .val (.slice (.int .u32))])] }
def zn0 : Ann := { slots := [], objs := [] }
def l_simplex_above_2H : Ann := { slots := [(0, .one (.val (.slice (.slice qT)))), (1, .one (.val (.slice qT))), (2, .one (.val (.nsl qT))), (13, .one (.val (.int .i64))), (14, .one (.val (.int .i64)))], objs := [] }
def zm9 : Ann := { slots := [], objs := [] }
def zm8 : Ann := { slots := [(8, .one (.val .bool))], objs := [] }
def zb2 : Nat → List (Bool × ((List Int) × (List Int))) → Int → List (List (Bool × ((List Int) × (List Int)))) → Int → Int → Bool → List Int → List Int → Option (LR zn1 zn0)
 | 0, _, _, _, _, _, _, _, _ => none
 | m + 1, s1, s9, s17, s18, s19, b40_0, b40_1, b40_2 =>
  if decide (s19 < s18) = true then
  if (0 : Int) ≤ s19 then
  if s19 < s17.length then
  if (0 : Int) ≤ s19 then
  if s19 < s1.length then
  if (0 : Int) ≤ s9 then
  if s9 < (s17.getD s19.toNat []).length then
  (z3a fuel ((s1.getD s19.toNat (false, ([], []))).1, ((s1.getD s19.toNat (false, ([], []))).2)) (((s17.getD s19.toNat []).getD s9.toNat (false, ([], []))).1, (((s17.getD s19.toNat []).getD s9.toNat (false, ([], []))).2))).bind fun r1 =>
  (za4 fuel (b40_0, (b40_1, b40_2)) r1).bind fun r2 =>
  zb2 m s1 s9 s17 s18 (IntKind.i64.wrap (s19 + 1)) r2.1 r2.2.1 r2.2.2
  else none
  else none
  else none
  else none
  else none
  else none
  else
  some (.exit (b40_0, b40_1, b40_2, ()))
def l_simplex_above_6L : LSpec := { h := l_simplex_above_6H, x := zn1, r := zn0, xid := 2, rt := false, pins := [40], f := fun k d => zb2 k d.1 d.2.1 d.2.2.1 d.2.2.2.1 d.2.2.2.2.1 d.2.2.2.2.2.1 d.2.2.2.2.2.2.1 d.2.2.2.2.2.2.2.1 }
def z7k : Nat → List (List (Bool × ((List Int) × (List Int)))) → List (Bool × ((List Int) × (List Int))) → Option (List (Bool × ((List Int) × (List Int)))) → Int → Int → Option (LR zm9 zm8)
 | 0, _, _, _, _, _ => none
 | m + 1, s0, s1, s2, s13, s14 =>
  if decide (s14 < s13) = true then
  match zb2 m s1 s14 s0 (s0.length : Int) 0 false [] [] with
  | none => none
  | some (.exit d1) =>
   if (!(s2.isNone)) = true then
   if (0 : Int) ≤ s14 then
   if s14 < (s2.getD []).length then
   (z52 fuel (d1.1, (d1.2.1, d1.2.2.1)) (((s2.getD []).getD s14.toNat (false, ([], []))).1, (((s2.getD []).getD s14.toNat (false, ([], []))).2))).bind fun r2 =>
   (z1k fuel r2).bind fun r3 =>
   if decide (r3 < 0) = true then
   some (.ret (false, ()))
   else
   z7k m s0 s1 s2 s13 (IntKind.i64.wrap (s14 + 1))
   else none
   else none
   else
   (z1k fuel (d1.1, (d1.2.1, d1.2.2.1))).bind fun r4 =>
   if decide (r4 < 0) = true then
   some (.ret (false, ()))
   else
   z7k m s0 s1 s2 s13 (IntKind.i64.wrap (s14 + 1))
  | some (.ret d1) =>
   none
  else
  some (.exit ())
def l_simplex_above_2L : LSpec := { h := l_simplex_above_2H, x := zm9, r := zm8, xid := 0, rt := true, pins := [], f := fun k d => z7k k d.1 d.2.1 d.2.2.1 d.2.2.2.1 d.2.2.2.2.1 }
def ze8 : z2a := [([46], [(2, l_simplex_above_2L), (6, l_simplex_above_6L)])]
def z9k (k : Nat) (a0 : List (List (Bool × ((List Int) × (List Int))))) (a1 : List (Bool × ((List Int) × (List Int)))) (a2 : Option (List (Bool × ((List Int) × (List Int))))) (a3 : Int) : Option (Bool) :=
 match z7k k a0 a1 a2 a3 0 with
 | none => none
 | some (.exit d1) =>
  some true
 | some (.ret d1) =>
  some d1.1
theorem zy4 (m : Nat) (d : dens l_simplex_above_6H.tys) : l_simplex_above_6L.f (m + 1) d = round zi4 ze8 m [46] 48 (z2w (z1g Tryd.f46) 1) l_simplex_above_6L (l_simplex_above_6L.f m) d := by kernel_rfl
theorem zy3 (m : Nat) (d : dens l_simplex_above_2H.tys) : l_simplex_above_2L.f (m + 1) d = round zi4 ze8 m [46] 48 (z2w (z1g Tryd.f46) 0) l_simplex_above_2L (l_simplex_above_2L.f m) d := by kernel_rfl
def zw6 (k : Nat) : Vm.Spec := { ps := [.slice (.slice qT), .slice qT, .nsl qT, .int .i64], rs := [.imm .bool], f := fun x => z9k k x.1 x.2.1 x.2.2.1 x.2.2.2 }
noncomputable def zz7 : Vm.Spec := zw6 fuel
theorem zd5 : Vm.Spec.holds Tryd.prog 46 zz7 := z15 (E := zi4) (L := ze8) (fn := Tryd.f46) (Z := zw6) (z1t ok) (z0u (by exact ⟨⟨by kernel_rfl, z3k⟩, ⟨by kernel_rfl, za5⟩, ⟨by kernel_rfl, z7d⟩, ⟨by kernel_rfl, za7⟩, trivial⟩)) z16 (z0a rfl) (z01 rfl) (by kernel_rfl) (by kernel_rfl) (z0o (ls := [(2, l_simplex_above_2L), (6, l_simplex_above_6L)]) rfl rfl ⟨by kernel_rfl, fun _ => rfl, zy3, by kernel_rfl, fun _ => rfl, zy4, z0p (by kernel_rfl)⟩) fun k x => by kernel_rfl
def zx1 (x0 : List (List (Bool × ((List Int) × (List Int))))) (x1 : List (Bool × ((List Int) × (List Int)))) (x2 : List (Bool × ((List Int) × (List Int)))) (x3 : Int) : Option (Bool) := (z9k fuel x0 x1 (some x2) x3).bind fun r => if x2.isEmpty then (if z9k fuel x0 x1 none x3 = some r then some r else none) else some r
noncomputable def zw1 : Vm.Spec := { ps := [.slice (.slice qT), .slice qT, .slice qT, .int .i64], rs := [.imm .bool], f := fun x => zx1 x.1 x.2.1 x.2.2.1 x.2.2.2 }
theorem zy0 : Vm.Spec.holds Tryd.prog 46 zw1 := yu7 zd5
noncomputable def y74 : Env := { te := te, spec := [(10, z6u), (33, zl9), (41, zz9), (42, y2m), (43, zm1), (44, y7d), (45, zz8), (46, zz7), (47, ze9), (48, zt6), (49, z5y)], body := [], spec2 := [(45, zw2), (46, zw1)] }
def y51 : z2a := []
def zf2 (k : Nat) (a0 : (List (List ByteArray)) × ((List ByteArray) × (List ByteArray))) (a1 : Int × ((List ByteArray) × ((List ByteArray) × ((List ByteArray) × ByteArray)))) : Option (Int) :=
 (z2c fuel a0).bind fun r1 =>
 if (r1 != 0) = true then
 some r1
 else
 (y0a fuel a0 a1).bind fun r2 =>
 if (r2 != 0) = true then
 some r2
 else
 (za1 fuel a0.1).bind fun r3 =>
 (z31 fuel a0.2.1).bind fun r4 =>
 (z31 fuel a0.2.2).bind fun r5 =>
 (z31 fuel a1.2.1).bind fun r6 =>
 (z31 fuel a1.2.2.1).bind fun r7 =>
 (z31 fuel a1.2.2.2.1).bind fun r8 =>
 (z6r fuel r6).bind fun r9 =>
 if (!r9) = true then
 (z6r fuel r7).bind fun r10 =>
 if (!r10) = true then
 (z6r fuel r8).bind fun r11 =>
 if (a1.1 == 0) = true then
 (zm7 fuel a1.2.2.2.2).bind fun r12 =>
 if (!r11) = true then
 (zf3 r3 r6 r4).bind fun r13 =>
 if r13 = true then
 (zx1 r3 r7 r5 (r5.length : Int)).bind fun r14 =>
 if r14 = true then
 (z58 fuel r5 r6).bind fun r15 =>
 (z70 fuel r15 r12).bind fun r16 =>
 if (r16 == 0) = true then
 (z58 fuel r4 r7).bind fun r17 =>
 (z70 fuel r17 r12).bind fun r18 =>
 if (!(r18 == 0)) = true then
 some 16
 else
 some 0
 else
 some 16
 else
 some 16
 else
 some 16
 else
 some 16
 else
 if (a1.1 == 1) = true then
 if (!r11) = true then
 (z9k fuel r3 r7 none (r5.length : Int)).bind fun r19 =>
 if r19 = true then
 (z58 fuel r4 r7).bind fun r20 =>
 (z1k fuel r20).bind fun r21 =>
 if (!(decide (r21 < 0))) = true then
 some 16
 else
 some 0
 else
 some 16
 else
 some 16
 else
 if (!r11) = true then
 (zf3 r3 r6 r4).bind fun r22 =>
 if r22 = true then
 (z9l fuel r3 r8 none).bind fun r23 =>
 if r23 = true then
 (z58 fuel r5 r8).bind fun r24 =>
 (z1k fuel r24).bind fun r25 =>
 if (!(decide (r25 > 0))) = true then
 some 16
 else
 some 0
 else
 some 16
 else
 some 16
 else
 some 16
 else
 if (a1.1 == 0) = true then
 (zm7 fuel a1.2.2.2.2).bind fun r26 =>
 some 16
 else
 if (a1.1 == 1) = true then
 some 16
 else
 some 16
 else
 if (a1.1 == 0) = true then
 (zm7 fuel a1.2.2.2.2).bind fun r27 =>
 some 16
 else
 if (a1.1 == 1) = true then
 some 16
 else
 some 16
def zp5 (k : Nat) : Vm.Spec := { ps := [.pair (.slice (.slice .str)) (.pair (.slice .str) (.slice .str)), .pair (.int .i64) (.pair (.slice .str) (.pair (.slice .str) (.pair (.slice .str) .str)))], rs := [.imm (.int .i64)], f := fun x => zf2 k x.1 x.2 }
noncomputable def zw0 : Vm.Spec := zp5 fuel
theorem zx9 : Vm.Spec.holds Tryd.prog 11 zw0 := z15 (E := y74) (L := y51) (fn := Tryd.f11) (Z := zp5) (z1t ok) (z0u (by exact ⟨⟨by kernel_rfl, z5d⟩, ⟨by kernel_rfl, z9i⟩, ⟨by kernel_rfl, y0b⟩, ⟨by kernel_rfl, zq2⟩, ⟨by kernel_rfl, zq7⟩, ⟨by kernel_rfl, zo5⟩, ⟨by kernel_rfl, zd6⟩, ⟨by kernel_rfl, zd5⟩, ⟨by kernel_rfl, z9w⟩, ⟨by kernel_rfl, za6⟩, ⟨by kernel_rfl, z3k⟩, trivial⟩) (by exact ⟨⟨by kernel_rfl, zy1⟩, ⟨by kernel_rfl, zy0⟩, trivial⟩)) z16 (z0a rfl) (z01 rfl) (by kernel_rfl) (by kernel_rfl) (z0v rfl) fun k x => by kernel_rfl
noncomputable def zy7 : Env := { te := te, spec := [], body := [] }
def zx8 : z2a := []
def z5c (k : Nat) : Option ((List (List ByteArray)) × ((List ByteArray) × (List ByteArray))) :=
 some ([[(⟨#[49]⟩ : ByteArray), (⟨#[49]⟩ : ByteArray)]], ([(⟨#[52]⟩ : ByteArray)], [(⟨#[50]⟩ : ByteArray), (⟨#[49]⟩ : ByteArray)]))
def z9u (k : Nat) : Vm.Spec := { ps := [], rs := [.imm (.pair (.slice (.slice .str)) (.pair (.slice .str) (.slice .str)))], f := fun x => z5c k }
noncomputable def zc6 : Vm.Spec := z9u fuel
theorem zj5 : Vm.Spec.holds Tryd.prog 24 zc6 := z15 (E := zy7) (L := zx8) (fn := Tryd.f24) (Z := z9u) (z1t ok) (z0u (by exact trivial)) z16 (z0a rfl) (z01 rfl) (by kernel_rfl) (by kernel_rfl) (z0v rfl) fun k x => by kernel_rfl
noncomputable def zi3 : Env := { te := te, spec := [(9, zi9), (10, z6u), (11, zw0), (24, zc6)], body := [] }
def zg8 : z2a := []
def z50 (k : Nat) : Option (Bool) :=
 (z5c fuel).bind fun r1 =>
 (z3l fuel r1).bind fun r2 =>
 if (r2.2 == 0) = true then
 if (r2.1.1 == 0) = true then
 if ((r2.1.2.2.2.2.toList == (⟨#[56]⟩ : ByteArray).toList)) = true then
 (z5c fuel).bind fun r3 =>
 (zf2 fuel r3 r2.1).bind fun r4 =>
 if (r4 == 0) = true then
 (z5c fuel).bind fun r5 =>
 (zf2 fuel r5 (r2.1.1, (r2.1.2.1, (r2.1.2.2.1, (r2.1.2.2.2.1, (⟨#[57]⟩ : ByteArray)))))).bind fun r6 =>
 if (r6 == 16) = true then
 (z2c fuel ([], ([(⟨#[49]⟩ : ByteArray)], []))).bind fun r7 =>
 some (r7 == 3)
 else
 some false
 else
 some false
 else
 some false
 else
 some false
 else
 some false
def z6p (k : Nat) : Vm.Spec := { ps := [], rs := [.imm .bool], f := fun x => z50 k }
noncomputable def z6t : Vm.Spec := z6p fuel
theorem z9h : Vm.Spec.holds Tryd.prog 7 z6t := z15 (E := zi3) (L := zg8) (fn := Tryd.f7) (Z := z6p) (z1t ok) (z0u (by exact ⟨⟨by kernel_rfl, zd4⟩, ⟨by kernel_rfl, z5d⟩, ⟨by kernel_rfl, zx9⟩, ⟨by kernel_rfl, zj5⟩, trivial⟩)) z16 (z0a rfl) (z01 rfl) (by kernel_rfl) (by kernel_rfl) (z0v rfl) fun k x => by kernel_rfl
noncomputable def z59 : Env := { te := te, spec := [], body := [(25, Tryd.f25), (26, Tryd.f26), (27, Tryd.f27), (28, Tryd.f28), (60, Tryd.f60), (61, Tryd.f61)] }
def l_slices_IndexFunc_Rat__slices_ContainsFunc_Rat__gamehallkeep2_small_1__slices_IndexFunc_Vec__slices_ContainsFunc_Vec__gamehallkeep2_small_2H : Ann := { slots := [(0, .one (.val (.slice .str))), (1, .one (.fix (.func 28))), (7, .one (.val (.int .i64))), (8, .one (.val (.int .i64)))], objs := [] }
def z0d : Ann := { slots := [], objs := [] }
def z0c : Ann := { slots := [(4, .one (.val (.int .i64)))], objs := [] }
def l_slices_IndexFunc_Vec__slices_ContainsFunc_Vec__gamehallkeep2_small_2H : Ann := { slots := [(0, .one (.val (.slice (.slice .str)))), (1, .one (.fix (.clos 76))), (7, .one (.val (.int .i64))), (8, .one (.val (.int .i64)))], objs := [(76, .clos 26 [.fix (.pbox 8 0)]), (8, .box [.val (.int .i64)])] }
def z1o : Ann := { slots := [], objs := [(76, .clos 26 [.fix (.pbox 8 0)]), (8, .box [.val (.int .i64)])] }
def z1n : Ann := { slots := [(4, .one (.val (.int .i64)))], objs := [(76, .clos 26 [.fix (.pbox 8 0)]), (8, .box [.val (.int .i64)])] }
def l_gamehallkeep2_small_2H : Ann := { slots := [(2, .one (.fix (.pbox 8 0))), (7, .one (.val (.slice (.slice (.slice .str))))), (8, .one (.val (.int .i64))), (9, .one (.val (.int .i64)))], objs := [(8, .box [.val (.int .i64)])] }
def z8y : Ann := { slots := [], objs := [(8, .box [.val (.int .i64)])] }
def z8x : Ann := { slots := [(4, .one (.val .bool))], objs := [(8, .box [.val (.int .i64)])] }
def z00 : Nat → List ByteArray → Int → Int → Option (LR z0d z0c)
 | 0, _, _, _ => none
 | m + 1, s0, s7, s8 =>
  if decide (s8 < s7) = true then
  if (0 : Int) ≤ s8 then
  if s8 < s0.length then
  if decide (((s0.getD s8.toNat ByteArray.empty).size : Int) > 12) = true then
  some (.ret (s8, ()))
  else
  z00 m s0 s7 (IntKind.i64.wrap (s8 + 1))
  else none
  else none
  else
  some (.exit ())
def l_slices_IndexFunc_Rat__slices_ContainsFunc_Rat__gamehallkeep2_small_1__slices_IndexFunc_Vec__slices_ContainsFunc_Vec__gamehallkeep2_small_2L : LSpec := { h := l_slices_IndexFunc_Rat__slices_ContainsFunc_Rat__gamehallkeep2_small_1__slices_IndexFunc_Vec__slices_ContainsFunc_Vec__gamehallkeep2_small_2H, x := z0d, r := z0c, xid := 0, rt := true, pins := [], f := fun k d => z00 k d.1 d.2.1 d.2.2.1 }
def z03 : Nat → List (List ByteArray) → Int → Int → Int → Option (LR z1o z1n)
 | 0, _, _, _, _ => none
 | m + 1, s0, s7, s8, b8_0 =>
  if decide (s8 < s7) = true then
  if (0 : Int) ≤ s8 then
  if s8 < s0.length then
  if decide (((s0.getD s8.toNat []).length : Int) > b8_0) = false then
  match z00 m (s0.getD s8.toNat []) ((s0.getD s8.toNat []).length : Int) 0 with
  | none => none
  | some (.exit d1) =>
   z03 m s0 s7 (IntKind.i64.wrap (s8 + 1)) b8_0
  | some (.ret d1) =>
   if decide (d1.1 ≥ 0) = true then
   some (.ret (s8, b8_0, ()))
   else
   z03 m s0 s7 (IntKind.i64.wrap (s8 + 1)) b8_0
  else
  some (.ret (s8, b8_0, ()))
  else none
  else none
  else
  some (.exit (b8_0, ()))
def l_slices_IndexFunc_Vec__slices_ContainsFunc_Vec__gamehallkeep2_small_2L : LSpec := { h := l_slices_IndexFunc_Vec__slices_ContainsFunc_Vec__gamehallkeep2_small_2H, x := z1o, r := z1n, xid := 0, rt := true, pins := [76, 8], f := fun k d => z03 k d.1 d.2.1 d.2.2.1 d.2.2.2.1 }
def z37 : Nat → List (List (List ByteArray)) → Int → Int → Int → Option (LR z8y z8x)
 | 0, _, _, _, _ => none
 | m + 1, s7, s8, s9, b8_0 =>
  if decide (s9 < s8) = true then
  if (0 : Int) ≤ s9 then
  if s9 < s7.length then
  if decide (((s7.getD s9.toNat []).length : Int) > b8_0) = false then
  match z03 m (s7.getD s9.toNat []) ((s7.getD s9.toNat []).length : Int) 0 b8_0 with
  | none => none
  | some (.exit d1) =>
   z37 m s7 s8 (IntKind.i64.wrap (s9 + 1)) d1.1
  | some (.ret d1) =>
   if decide (d1.1 ≥ 0) = true then
   some (.ret (false, d1.2.1, ()))
   else
   z37 m s7 s8 (IntKind.i64.wrap (s9 + 1)) d1.2.1
  else
  some (.ret (false, b8_0, ()))
  else none
  else none
  else
  some (.exit (b8_0, ()))
def l_gamehallkeep2_small_2L : LSpec := { h := l_gamehallkeep2_small_2H, x := z8y, r := z8x, xid := 0, rt := true, pins := [8], f := fun k d => z37 k d.1 d.2.1 d.2.2.1 d.2.2.2.1 }
def z56 : z2a := [([61, 27, 26, 60, 25, 8], [(2, l_slices_IndexFunc_Rat__slices_ContainsFunc_Rat__gamehallkeep2_small_1__slices_IndexFunc_Vec__slices_ContainsFunc_Vec__gamehallkeep2_small_2L)]), ([60, 25, 8], [(2, l_slices_IndexFunc_Vec__slices_ContainsFunc_Vec__gamehallkeep2_small_2L)]), ([8], [(2, l_gamehallkeep2_small_2L)])]
def z4a (k : Nat) (a0 : Int) (a1 : List (List (List ByteArray))) : Option (Bool) :=
 match z37 k a1 (a1.length : Int) 0 a0 with
 | none => none
 | some (.exit d1) =>
  some true
 | some (.ret d1) =>
  some d1.1
theorem z0x (m : Nat) (d : dens l_slices_IndexFunc_Rat__slices_ContainsFunc_Rat__gamehallkeep2_small_1__slices_IndexFunc_Vec__slices_ContainsFunc_Vec__gamehallkeep2_small_2H.tys) : l_slices_IndexFunc_Rat__slices_ContainsFunc_Rat__gamehallkeep2_small_1__slices_IndexFunc_Vec__slices_ContainsFunc_Vec__gamehallkeep2_small_2L.f (m + 1) d = round z59 z56 m [61, 27, 26, 60, 25, 8] 19 (z2w (z1g Tryd.f61) 0) l_slices_IndexFunc_Rat__slices_ContainsFunc_Rat__gamehallkeep2_small_1__slices_IndexFunc_Vec__slices_ContainsFunc_Vec__gamehallkeep2_small_2L (l_slices_IndexFunc_Rat__slices_ContainsFunc_Rat__gamehallkeep2_small_1__slices_IndexFunc_Vec__slices_ContainsFunc_Vec__gamehallkeep2_small_2L.f m) d := by kernel_rfl
theorem z32 (m : Nat) (d : dens l_slices_IndexFunc_Vec__slices_ContainsFunc_Vec__gamehallkeep2_small_2H.tys) : l_slices_IndexFunc_Vec__slices_ContainsFunc_Vec__gamehallkeep2_small_2L.f (m + 1) d = round z59 z56 m [60, 25, 8] 19 (z2w (z1g Tryd.f60) 0) l_slices_IndexFunc_Vec__slices_ContainsFunc_Vec__gamehallkeep2_small_2L (l_slices_IndexFunc_Vec__slices_ContainsFunc_Vec__gamehallkeep2_small_2L.f m) d := by kernel_rfl
theorem zh4 (m : Nat) (d : dens l_gamehallkeep2_small_2H.tys) : l_gamehallkeep2_small_2L.f (m + 1) d = round z59 z56 m [8] 23 (z2w (z1g Tryd.f8) 0) l_gamehallkeep2_small_2L (l_gamehallkeep2_small_2L.f m) d := by kernel_rfl
def z9v (k : Nat) : Vm.Spec := { ps := [.int .i64, .slice (.slice (.slice .str))], rs := [.imm .bool], f := fun x => z4a k x.1 x.2 }
noncomputable def zc7 : Vm.Spec := z9v fuel
theorem zj6 : Vm.Spec.holds Tryd.prog 8 zc7 := z15 (E := z59) (L := z56) (fn := Tryd.f8) (Z := z9v) (z1t ok) (z0u (by exact trivial)) z16 (zd0 (by exact ⟨by kernel_rfl, by kernel_rfl, by kernel_rfl, by kernel_rfl, by kernel_rfl, by kernel_rfl, by kernel_rfl, by kernel_rfl, by kernel_rfl, by kernel_rfl, by kernel_rfl, by kernel_rfl, trivial⟩)) (z4u (by exact ⟨(fun _ => z6j (by kernel_rfl)), (fun _ => z6j (by kernel_rfl)), (fun _ => z6j (by kernel_rfl)), (fun _ => z6j (by kernel_rfl)), (z2x [[25, 8]] (by exact ⟨z0o (ls := [(2, l_slices_IndexFunc_Vec__slices_ContainsFunc_Vec__gamehallkeep2_small_2L)]) rfl rfl ⟨by kernel_rfl, fun _ => rfl, z32, z0p (by kernel_rfl)⟩,  trivial⟩) rfl), (z2x [[27, 26, 60, 25, 8]] (by exact ⟨z0o (ls := [(2, l_slices_IndexFunc_Rat__slices_ContainsFunc_Rat__gamehallkeep2_small_1__slices_IndexFunc_Vec__slices_ContainsFunc_Vec__gamehallkeep2_small_2L)]) rfl rfl ⟨by kernel_rfl, fun _ => rfl, z0x, z0p (by kernel_rfl)⟩,  trivial⟩) rfl),  trivial⟩)) (by kernel_rfl) (by kernel_rfl) (z0o (ls := [(2, l_gamehallkeep2_small_2L)]) rfl rfl ⟨by kernel_rfl, fun _ => rfl, zh4, z0p (by kernel_rfl)⟩) fun k x => by kernel_rfl
noncomputable def z96 : Env := { te := te, spec := [(39, zo0), (40, zo1)], body := [] }
def l_matrix_Transpose_10H : Ann := { slots := [(6, .one (.val (.int .i64))), (7, .one (.own 128 .str)), (20, .one (.val (.slice (.slice .str)))), (21, .one (.val (.int .i64))), (22, .one (.val (.int .i64)))], objs := [(128, .buf .str)] }
def z9y : Ann := { slots := [(7, .one (.own 128 .str))], objs := [(128, .buf .str)] }
def z9x : Ann := { slots := [], objs := [] }
def l_matrix_Transpose_6H : Ann := { slots := [(0, .one (.val (.slice (.slice .str)))), (5, .one (.own 148 (.slice .str))), (16, .one (.val (.int .i64))), (17, .one (.val (.int .i64)))], objs := [(148, .buf (.slice .str))] }
def zd9 : Ann := { slots := [(5, .one (.own 148 (.slice .str)))], objs := [(148, .buf (.slice .str))] }
def zd8 : Ann := { slots := [], objs := [] }
def z3e : Nat → Int → List (List ByteArray) → Int → Int → List ByteArray → Option (LR z9y z9x)
 | 0, _, _, _, _, _ => none
 | m + 1, s6, s20, s21, s22, b128 =>
  if decide (s22 < s21) = true then
  if (0 : Int) ≤ s22 then
  if s22 < s20.length then
  if (0 : Int) ≤ s6 then
  if s6 < (s20.getD s22.toNat []).length then
  if (b128.length + 1) * 16 ≤ 140737488355328 then
  z3e m s6 s20 s21 (IntKind.i64.wrap (s22 + 1)) (b128 ++ [(s20.getD s22.toNat []).getD s6.toNat ByteArray.empty])
  else none
  else none
  else none
  else none
  else none
  else
  some (.exit (b128, ()))
def l_matrix_Transpose_10L : LSpec := { h := l_matrix_Transpose_10H, x := z9y, r := z9x, xid := 2, rt := false, pins := [], f := fun k d => z3e k d.1 d.2.1 d.2.2.1 d.2.2.2.1 d.2.2.2.2.1 }
def z3t : Nat → List (List ByteArray) → Int → Int → List (List ByteArray) → Option (LR zd9 zd8)
 | 0, _, _, _, _ => none
 | m + 1, s0, s16, s17, b148 =>
  if decide (s17 < s16) = true then
  match z3e m s17 s0 (s0.length : Int) 0 [] with
  | none => none
  | some (.exit d1) =>
   if (b148.length + 1) * 24 ≤ 140737488355328 then
   z3t m s0 s16 (IntKind.i64.wrap (s17 + 1)) (b148 ++ [d1.1])
   else none
  | some (.ret d1) =>
   none
  else
  some (.exit (b148, ()))
def l_matrix_Transpose_6L : LSpec := { h := l_matrix_Transpose_6H, x := zd9, r := zd8, xid := 0, rt := false, pins := [], f := fun k d => z3t k d.1 d.2.1 d.2.2.1 d.2.2.2.1 }
def z8g : z2a := [([12], [(6, l_matrix_Transpose_6L), (10, l_matrix_Transpose_10L)])]
def z6q (k : Nat) (a0 : List (List ByteArray)) : Option (List (List ByteArray) × Int) :=
 (z4w fuel a0).bind fun r1 =>
 if (r1 != 0) = true then
 some ([], r1)
 else
 (z86 fuel a0).bind fun r2 =>
 match z3t k a0 r2 0 [] with
 | none => none
 | some (.exit d3) =>
  some (d3.1, 0)
 | some (.ret d3) =>
  none
theorem zl6 (m : Nat) (d : dens l_matrix_Transpose_10H.tys) : l_matrix_Transpose_10L.f (m + 1) d = round z96 z8g m [12] 40 (z2w (z1g Tryd.f12) 1) l_matrix_Transpose_10L (l_matrix_Transpose_10L.f m) d := by kernel_rfl
theorem zo6 (m : Nat) (d : dens l_matrix_Transpose_6H.tys) : l_matrix_Transpose_6L.f (m + 1) d = round z96 z8g m [12] 40 (z2w (z1g Tryd.f12) 0) l_matrix_Transpose_6L (l_matrix_Transpose_6L.f m) d := by kernel_rfl
def zj0 (k : Nat) : Vm.Spec := { ps := [.slice (.slice .str)], rs := [.fresh (.slice .str), .imm (.int .i64)], f := fun x => z6q k x }
noncomputable def zm0 : Vm.Spec := zj0 fuel
theorem zq3 : Vm.Spec.holds Tryd.prog 12 zm0 := z15 (E := z96) (L := z8g) (fn := Tryd.f12) (Z := zj0) (z1t ok) (z0u (by exact ⟨⟨by kernel_rfl, zg5⟩, ⟨by kernel_rfl, zg6⟩, trivial⟩)) z16 (z0a rfl) (z01 rfl) (by kernel_rfl) (by kernel_rfl) (z0o (ls := [(6, l_matrix_Transpose_6L), (10, l_matrix_Transpose_10L)]) rfl rfl ⟨by kernel_rfl, fun _ => rfl, zo6, by kernel_rfl, fun _ => rfl, zl6, z0p (by kernel_rfl)⟩) fun k x => by kernel_rfl
noncomputable def w2u : Env := { te := te, spec := [(38, zt8), (44, y7d), (52, zt4), (53, zt9)], body := [] }
def w1m : z2a := []
def y08 (k : Nat) (a0 : ByteArray) : Option (ByteArray × Int) :=
 (z6y fuel a0).bind fun r1 =>
 if (r1 != 0) = true then
 some ((⟨#[]⟩ : ByteArray), r1)
 else
 (zm7 fuel a0).bind fun r2 =>
 (z71 fuel r2).bind fun r3 =>
 (z8j fuel r3).bind fun r4 =>
 some (r4, 0)
def ya7 (k : Nat) : Vm.Spec := { ps := [.str], rs := [.imm .str, .imm (.int .i64)], f := fun x => y08 k x }
noncomputable def y81 : Vm.Spec := ya7 fuel
theorem y09 : Vm.Spec.holds Tryd.prog 15 y81 := z15 (E := w2u) (L := w1m) (fn := Tryd.f15) (Z := ya7) (z1t ok) (z0u (by exact ⟨⟨by kernel_rfl, za8⟩, ⟨by kernel_rfl, zo5⟩, ⟨by kernel_rfl, za3⟩, ⟨by kernel_rfl, za9⟩, trivial⟩)) z16 (z0a rfl) (z01 rfl) (by kernel_rfl) (by kernel_rfl) (z0v rfl) fun k x => by kernel_rfl
noncomputable def z95 : Env := { te := te, spec := [(15, y81)], body := [] }
def l_gamehallkeep2_negated_3H : Ann := { slots := [(4, .one (.own 100 .str)), (9, .one (.val (.slice .str))), (10, .one (.val (.int .i64))), (11, .one (.val (.int .i64)))], objs := [(100, .buf .str)] }
def z7q : Ann := { slots := [(4, .one (.own 100 .str))], objs := [(100, .buf .str)] }
def z7p : Ann := { slots := [(2, .one (.fix .nil)), (3, .one (.val .bool))], objs := [] }
def z2s : Nat → List ByteArray → Int → Int → List ByteArray → Option (LR z7q z7p)
 | 0, _, _, _, _ => none
 | m + 1, s9, s10, s11, b100 =>
  if decide (s11 < s10) = true then
  if (0 : Int) ≤ s11 then
  if s11 < s9.length then
  (y08 fuel (s9.getD s11.toNat ByteArray.empty)).bind fun r1 =>
  if (r1.2 != 0) = true then
  some (.ret (false, ()))
  else
  if (b100.length + 1) * 16 ≤ 140737488355328 then
  z2s m s9 s10 (IntKind.i64.wrap (s11 + 1)) (b100 ++ [r1.1])
  else none
  else none
  else none
  else
  some (.exit (b100, ()))
def l_gamehallkeep2_negated_3L : LSpec := { h := l_gamehallkeep2_negated_3H, x := z7q, r := z7p, xid := 0, rt := true, pins := [], f := fun k d => z2s k d.1 d.2.1 d.2.2.1 d.2.2.2.1 }
def z8o : z2a := [([13], [(3, l_gamehallkeep2_negated_3L)])]
def z33 (k : Nat) (a0 : List ByteArray) : Option (List ByteArray × Bool) :=
 match z2s k a0 (a0.length : Int) 0 [] with
 | none => none
 | some (.exit d1) =>
  some (d1.1, true)
 | some (.ret d1) =>
  some ([], d1.1)
theorem zd7 (m : Nat) (d : dens l_gamehallkeep2_negated_3H.tys) : l_gamehallkeep2_negated_3L.f (m + 1) d = round z95 z8o m [13] 28 (z2w (z1g Tryd.f13) 0) l_gamehallkeep2_negated_3L (l_gamehallkeep2_negated_3L.f m) d := by kernel_rfl
def z8r (k : Nat) : Vm.Spec := { ps := [.slice .str], rs := [.fresh .str, .imm .bool], f := fun x => z33 k x }
noncomputable def z99 : Vm.Spec := z8r fuel
theorem zf1 : Vm.Spec.holds Tryd.prog 13 z99 := z15 (E := z95) (L := z8o) (fn := Tryd.f13) (Z := z8r) (z1t ok) (z0u (by exact ⟨⟨by kernel_rfl, y09⟩, trivial⟩)) z16 (z0a rfl) (z01 rfl) (by kernel_rfl) (by kernel_rfl) (z0o (ls := [(3, l_gamehallkeep2_negated_3L)]) rfl rfl ⟨by kernel_rfl, fun _ => rfl, zd7, z0p (by kernel_rfl)⟩) fun k x => by kernel_rfl
noncomputable def zg2 : Env := { te := te, spec := [], body := [(50, Tryd.f50), (51, Tryd.f51), (70, Tryd.f70)] }
def l_slices_IndexFunc_Errno__slices_ContainsFunc_Errno__gamehallkeep2_fine_2H : Ann := { slots := [(0, .one (.val (.slice (.int .i64)))), (1, .one (.fix (.func 51))), (7, .one (.val (.int .i64))), (8, .one (.val (.int .i64)))], objs := [] }
def z1i : Ann := { slots := [], objs := [] }
def z1h : Ann := { slots := [(4, .one (.val (.int .i64)))], objs := [] }
def z0y : Nat → List Int → Int → Int → Option (LR z1i z1h)
 | 0, _, _, _ => none
 | m + 1, s0, s7, s8 =>
  if decide (s8 < s7) = true then
  if (0 : Int) ≤ s8 then
  if s8 < s0.length then
  if (s0.getD s8.toNat 0 != 0) = true then
  some (.ret (s8, ()))
  else
  z0y m s0 s7 (IntKind.i64.wrap (s8 + 1))
  else none
  else none
  else
  some (.exit ())
def l_slices_IndexFunc_Errno__slices_ContainsFunc_Errno__gamehallkeep2_fine_2L : LSpec := { h := l_slices_IndexFunc_Errno__slices_ContainsFunc_Errno__gamehallkeep2_fine_2H, x := z1i, r := z1h, xid := 0, rt := true, pins := [], f := fun k d => z0y k d.1 d.2.1 d.2.2.1 }
def zc5 : z2a := [([70, 50, 14], [(2, l_slices_IndexFunc_Errno__slices_ContainsFunc_Errno__gamehallkeep2_fine_2L)])]
def z81 (k : Nat) (a0 : List Int) : Option (Bool) :=
 match z0y k a0 (a0.length : Int) 0 with
 | none => none
 | some (.exit d1) =>
  some true
 | some (.ret d1) =>
  some (!(decide (d1.1 ≥ 0)))
theorem z2v (m : Nat) (d : dens l_slices_IndexFunc_Errno__slices_ContainsFunc_Errno__gamehallkeep2_fine_2H.tys) : l_slices_IndexFunc_Errno__slices_ContainsFunc_Errno__gamehallkeep2_fine_2L.f (m + 1) d = round zg2 zc5 m [70, 50, 14] 19 (z2w (z1g Tryd.f70) 0) l_slices_IndexFunc_Errno__slices_ContainsFunc_Errno__gamehallkeep2_fine_2L (l_slices_IndexFunc_Errno__slices_ContainsFunc_Errno__gamehallkeep2_fine_2L.f m) d := by kernel_rfl
def zc8 (k : Nat) : Vm.Spec := { ps := [.slice (.int .i64)], rs := [.imm .bool], f := fun x => z81 k x }
noncomputable def zg3 : Vm.Spec := zc8 fuel
theorem zl5 : Vm.Spec.holds Tryd.prog 14 zg3 := z15 (E := zg2) (L := zc5) (fn := Tryd.f14) (Z := zc8) (z1t ok) (z0u (by exact trivial)) z16 (zd0 (by exact ⟨by kernel_rfl, by kernel_rfl, by kernel_rfl, by kernel_rfl, by kernel_rfl, by kernel_rfl, trivial⟩)) (z4u (by exact ⟨(fun _ => z6j (by kernel_rfl)), (fun _ => z6j (by kernel_rfl)), (z2x [[50, 14]] (by exact ⟨z0o (ls := [(2, l_slices_IndexFunc_Errno__slices_ContainsFunc_Errno__gamehallkeep2_fine_2L)]) rfl rfl ⟨by kernel_rfl, fun _ => rfl, z2v, z0p (by kernel_rfl)⟩,  trivial⟩) rfl),  trivial⟩)) (by kernel_rfl) (by kernel_rfl) (z0v rfl) fun k x => by kernel_rfl
noncomputable def z6o : Env := { te := te, spec := [(7, z6t), (8, zc7), (9, zi9), (10, z6u), (12, zm0), (13, z99), (14, zg3), (15, y81)], body := [] }
def l_gamehallkeep2_SimplexDuals_8H : Ann := { slots := [(5, .one (.own 284 (.slice .str))), (55, .one (.own 208 (.slice .str))), (56, .one (.val (.int .i64))), (57, .one (.val (.int .i64)))], objs := [(284, .buf (.slice .str)), (208, .buf (.slice .str))] }
def z5x : Ann := { slots := [(5, .one (.own 284 (.slice .str)))], objs := [(284, .buf (.slice .str)), (208, .buf (.slice .str))] }
def z5w : Ann := { slots := [(2, .one (.val .bool))], objs := [(208, .buf (.slice .str))] }
def z1s : Nat → Int → Int → List (List ByteArray) → List (List ByteArray) → Option (LR z5x z5w)
 | 0, _, _, _, _ => none
 | m + 1, s56, s57, b284, b208 =>
  if decide (s57 < s56) = true then
  if (0 : Int) ≤ s57 then
  if s57 < b208.length then
  (z33 fuel (b208.getD s57.toNat [])).bind fun r1 =>
  if (!r1.2) = true then
  some (.ret (false, b208, ()))
  else
  if (b284.length + 1) * 24 ≤ 140737488355328 then
  z1s m s56 (IntKind.i64.wrap (s57 + 1)) (b284 ++ [r1.1]) b208
  else none
  else none
  else none
  else
  some (.exit (b284, b208, ()))
def l_gamehallkeep2_SimplexDuals_8L : LSpec := { h := l_gamehallkeep2_SimplexDuals_8H, x := z5x, r := z5w, xid := 0, rt := true, pins := [208], f := fun k d => z1s k d.1 d.2.1 d.2.2.1 d.2.2.2.1 }
def z6a : z2a := [([4], [(8, l_gamehallkeep2_SimplexDuals_8L)])]
def z3h (k : Nat) (a0 : (List (List ByteArray)) × ((List ByteArray) × (List ByteArray))) : Option (Bool) :=
 (z50 fuel).bind fun r1 =>
 if (!r1) = true then
 some false
 else
 (z4a fuel 5 [a0.1, [a0.2.1, a0.2.2]]).bind fun r2 =>
 if (!r2) = false then
 (z2c fuel a0).bind fun r3 =>
 if (r3 != 0) = false then
 if ((a0.1.length : Int) == 0) = false then
 if ((a0.2.2.length : Int) == 0) = true then
 some true
 else
 (z6q fuel a0.1).bind fun r4 =>
 match z1s k (r4.1.length : Int) 0 [] r4.1 with
 | none => none
 | some (.exit d5) =>
  (z33 fuel a0.2.2).bind fun r6 =>
  (z33 fuel a0.2.1).bind fun r7 =>
  (z3l fuel a0).bind fun r8 =>
  (z3l fuel (d5.1, (r6.1, r7.1))).bind fun r9 =>
  (z81 fuel [r4.2, r8.2, r9.2]).bind fun r10 =>
  if (!r10) = false then
  if (!r6.2) = false then
  if (!r7.2) = true then
  some false
  else
  if (r8.1.1 == 0) = true then
  (y08 fuel r8.1.2.2.2.2).bind fun r11 =>
  if (r11.2 == 0) = true then
  if (r9.1.1 == 0) = true then
  some ((r9.1.2.2.2.2.toList == r11.1.toList))
  else
  some false
  else
  some false
  else
  if (r8.1.1 == 2) = true then
  some (r9.1.1 == 1)
  else
  some (r9.1.1 != 0)
  else
  some false
  else
  some false
 | some (.ret d5) =>
  some d5.1
 else
 some true
 else
 some true
 else
 some true
theorem z8k (m : Nat) (d : dens l_gamehallkeep2_SimplexDuals_8H.tys) : l_gamehallkeep2_SimplexDuals_8L.f (m + 1) d = round z6o z6a m [4] 143 (z2w (z1g Tryd.f4) 0) l_gamehallkeep2_SimplexDuals_8L (l_gamehallkeep2_SimplexDuals_8L.f m) d := by kernel_rfl
def z6b (k : Nat) : Vm.Spec := { ps := [.pair (.slice (.slice .str)) (.pair (.slice .str) (.slice .str))], rs := [.imm .bool], f := fun x => z3h k x }
noncomputable def zg9 : Vm.Spec := z6b fuel
theorem z93 : Vm.Spec.holds Tryd.prog 4 zg9 := z15 (E := z6o) (L := z6a) (fn := Tryd.f4) (Z := z6b) (z1t ok) (z0u (by exact ⟨⟨by kernel_rfl, z9h⟩, ⟨by kernel_rfl, zj6⟩, ⟨by kernel_rfl, zd4⟩, ⟨by kernel_rfl, z5d⟩, ⟨by kernel_rfl, zq3⟩, ⟨by kernel_rfl, zf1⟩, ⟨by kernel_rfl, zl5⟩, ⟨by kernel_rfl, y09⟩, trivial⟩)) z16 (z0a rfl) (z01 rfl) (by kernel_rfl) (by kernel_rfl) (z0o (ls := [(8, l_gamehallkeep2_SimplexDuals_8L)]) rfl rfl ⟨by kernel_rfl, fun _ => rfl, z8k, z0p (by kernel_rfl)⟩) fun k x => by kernel_rfl
end Go.Proofs.YtcdcoeofhnfjdaaDoor
