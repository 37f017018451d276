/- Pure functions, printed by a program of this session out of the program. -/
import Derived.Test.YtcdcoeofhnfjdaaDoorPe
set_option linter.unusedVariables false
namespace Go.Proofs.YtcdcoeofhnfjdaaDoor
open Go Vm Go.Proofs
noncomputable def y06 : Env := { te := te, spec := [], body := [] }
def zv0 : z2g := []
def z1k (k : Nat) (a0 : (List (List (Bool × ((List Int) × (List Int))))) × ((List Int) × (Int × Int))) : Option (Int) :=
 some (IntKind.i64.wrap ((IntKind.i64.wrap (a0.2.2.1 + a0.2.2.2)) + 1))
def za5 (k : Nat) : Vm.Spec := { ps := [.ptr (.pair (.slice (.slice qT)) (.pair (.slice (.int .i64)) (.pair (.int .i64) (.int .i64))))], rs := [.imm (.int .i64)], f := fun x => z1k k x }
noncomputable def z7u : Vm.Spec := za5 fuel
theorem z7l : Vm.Spec.holds Tryd.prog 36 z7u := z1d (E := y06) (L := zv0) (fn := Tryd.f36) (Z := za5) (z26 ok) (z0w (by exact trivial)) z1f (z0e rfl) (z01 rfl) (by kernel_rfl) (by kernel_rfl) (z0v rfl) fun k x => by kernel_rfl
noncomputable def z8t : Env := { te := te, spec := [(36, z7u), (48, zp4), (49, z5y), (82, y1q)], body := [] }
def l_simplex_table_leaving_4H : Ann := { slots := [(0, .one (.val (.ptr (.pair (.slice (.slice qT)) (.pair (.slice (.int .i64)) (.pair (.int .i64) (.int .i64))))))), (1, .one (.val (.int .i64))), (5, .one (.val (.int .i64))), (6, .one (.fix (.pbox 24 0))), (13, .one (.val (.int .i64))), (14, .one (.val (.int .i64)))], objs := [(24, .box [.val .bool, .val (.slice (.int .u32)), .val (.slice (.int .u32))])] }
def z7t : Ann := { slots := [(5, .one (.val (.int .i64)))], objs := [(24, .box [.val .bool, .val (.slice (.int .u32)), .val (.slice (.int .u32))])] }
def z7s : Ann := { slots := [], objs := [] }
def z0z : Nat → (List (List (Bool × ((List Int) × (List Int))))) × ((List Int) × (Int × Int)) → Int → Int → Int → Int → Bool → List Int → List Int → Option (LR z7t z7s)
 | 0, _, _, _, _, _, _, _, _ => none
 | m + 1, s0, s1, s5, s13, s14, b24_0, b24_1, b24_2 =>
  if decide (s14 < s13) = true then
  if (0 : Int) ≤ s14 then
  if s14 < s0.1.length then
  if (0 : Int) ≤ s1 then
  if s1 < (s0.1.getD s14.toNat []).length then
  (z1i fuel (((s0.1.getD s14.toNat []).getD s1.toNat (false, ([], []))).1, (((s0.1.getD s14.toNat []).getD s1.toNat (false, ([], []))).2))).bind fun r1 =>
  if decide (r1 ≤ 0) = true then
  z0z m s0 s1 s5 s13 (IntKind.i64.wrap (s14 + 1)) b24_0 b24_1 b24_2
  else
  if (0 : Int) ≤ s14 then
  if s14 < s0.1.length then
  if (0 : Int) ≤ s14 then
  if s14 < s0.1.length then
  if (0 : Int) ≤ s1 then
  if s1 < (s0.1.getD s14.toNat []).length then
  (z1k fuel s0).bind fun r2 =>
  if (0 : Int) ≤ r2 then
  if r2 < (s0.1.getD s14.toNat []).length then
  (z5l fuel (((s0.1.getD s14.toNat []).getD r2.toNat (false, ([], []))).1, (((s0.1.getD s14.toNat []).getD r2.toNat (false, ([], []))).2)) (((s0.1.getD s14.toNat []).getD s1.toNat (false, ([], []))).1, (((s0.1.getD s14.toNat []).getD s1.toNat (false, ([], []))).2))).bind fun r3 =>
  if decide (s5 ≥ 0) = true then
  (z6x fuel r3 (b24_0, (b24_1, b24_2))).bind fun r4 =>
  if decide (r4 < 0) = false then
  if (r4 == 0) = true then
  if (0 : Int) ≤ s14 then
  if s14 < s0.2.1.length then
  if (0 : Int) ≤ s5 then
  if s5 < s0.2.1.length then
  if decide (s0.2.1.getD s14.toNat 0 < s0.2.1.getD s5.toNat 0) = true then
  z0z m s0 s1 s14 s13 (IntKind.i64.wrap (s14 + 1)) r3.1 r3.2.1 r3.2.2
  else
  z0z m s0 s1 s5 s13 (IntKind.i64.wrap (s14 + 1)) b24_0 b24_1 b24_2
  else none
  else none
  else none
  else none
  else
  z0z m s0 s1 s5 s13 (IntKind.i64.wrap (s14 + 1)) b24_0 b24_1 b24_2
  else
  z0z m s0 s1 s14 s13 (IntKind.i64.wrap (s14 + 1)) r3.1 r3.2.1 r3.2.2
  else
  z0z m s0 s1 s14 s13 (IntKind.i64.wrap (s14 + 1)) r3.1 r3.2.1 r3.2.2
  else none
  else none
  else none
  else none
  else none
  else none
  else none
  else none
  else none
  else none
  else none
  else none
  else
  some (.exit (s5, b24_0, b24_1, b24_2, ()))
def l_simplex_table_leaving_4L : LSpec := { h := l_simplex_table_leaving_4H, x := z7t, r := z7s, xid := 0, rt := false, pins := [24], f := fun k d => z0z k d.1 d.2.1 d.2.2.1 d.2.2.2.1 d.2.2.2.2.1 d.2.2.2.2.2.1 d.2.2.2.2.2.2.1 d.2.2.2.2.2.2.2.1 }
def z8g : z2g := [([65], [(4, l_simplex_table_leaving_4L)])]
def z2x (k : Nat) (a0 : (List (List (Bool × ((List Int) × (List Int))))) × ((List Int) × (Int × Int))) (a1 : Int) : Option (Int) :=
 match z0z k a0 a1 (-1) a0.2.2.2 0 false [] [] with
 | none => none
 | some (.exit d1) =>
  some d1.1
 | some (.ret d1) =>
  none
theorem zb7 (m : Nat) (d : dens l_simplex_table_leaving_4H.tys) : l_simplex_table_leaving_4L.f (m + 1) d = round z8t z8g m [65] 83 (z31 (z1h Tryd.f65) 0) l_simplex_table_leaving_4L (l_simplex_table_leaving_4L.f m) d := by kernel_rfl
def z8h (k : Nat) : Vm.Spec := { ps := [.ptr (.pair (.slice (.slice qT)) (.pair (.slice (.int .i64)) (.pair (.int .i64) (.int .i64)))), .int .i64], rs := [.imm (.int .i64)], f := fun x => z2x k x.1 x.2 }
noncomputable def z8w : Vm.Spec := z8h fuel
theorem zc6 : Vm.Spec.holds Tryd.prog 65 z8w := z1d (E := z8t) (L := z8g) (fn := Tryd.f65) (Z := z8h) (z26 ok) (z0w (by exact ⟨⟨by kernel_rfl, z7l⟩, ⟨by kernel_rfl, z9k⟩, ⟨by kernel_rfl, z3e⟩, ⟨by kernel_rfl, zm7⟩, trivial⟩)) z1f (z0e rfl) (z01 rfl) (by kernel_rfl) (by kernel_rfl) (z0r (ls := [(4, l_simplex_table_leaving_4L)]) rfl rfl ⟨by kernel_rfl, fun _ => rfl, zb7, z0s (by kernel_rfl)⟩) fun k x => by kernel_rfl
noncomputable def z0o : Env := { te := te, spec := [(10, z6q), (31, zr9), (33, zi2), (36, z7u), (37, yg0), (38, y1o), (42, y1k), (48, zp4), (49, z5y), (63, zf4), (64, zp5), (65, z8w), (82, y1q)], body := [(29, Tryd.f29), (30, Tryd.f30), (32, Tryd.f32), (34, Tryd.f34), (35, Tryd.f35), (62, Tryd.f62)], rows := true }
def l_simplex_start__simplex_Solve_4H : Ann := { slots := [(3, .one (.fix (.pbox 4060 0))), (4, .one (.own 4072 (.slice qT))), (5, .one (.own 4084 qT)), (25, .one (.val (.int .i64))), (26, .one (.val (.int .i64)))], objs := [(4060, .box [.grd 360 qT, .own 420 (.int .i64), .val (.int .i64), .val (.int .i64)]), (4072, .buf (.slice qT)), (4084, .buf qT), (360, .mat qT), (420, .buf (.int .i64))] }
def z5f : Ann := { slots := [(3, .one (.fix (.pbox 4060 0)))], objs := [(4060, .box [.grd 360 qT, .own 420 (.int .i64), .val (.int .i64), .val (.int .i64)]), (4072, .buf (.slice qT)), (4084, .buf qT), (360, .mat qT), (420, .buf (.int .i64))] }
def z5e : Ann := { slots := [], objs := [] }
def l_simplex_table_feasible__simplex_Solve_3H : Ann := { slots := [(0, .one (.fix (.pbox 4060 0))), (3, .one (.val (.int .i64))), (23, .one (.val (.int .i64))), (24, .one (.val (.int .i64)))], objs := [(4060, .box [.grd 360 qT, .own 420 (.int .i64), .val (.int .i64), .val (.int .i64)]), (360, .mat qT), (420, .buf (.int .i64))] }
def z3t : Ann := { slots := [(0, .one (.fix (.pbox 4060 0))), (3, .one (.val (.int .i64)))], objs := [(4060, .box [.grd 360 qT, .own 420 (.int .i64), .val (.int .i64), .val (.int .i64)]), (360, .mat qT), (420, .buf (.int .i64))] }
def z3s : Ann := { slots := [], objs := [] }
def l_simplex_table_goal__simplex_Solve_2H : Ann := { slots := [(4, .one (.own 4084 qT)), (22, .one (.own 212 qT)), (23, .one (.val (.int .i64))), (24, .one (.val (.int .i64)))], objs := [(4084, .buf qT), (212, .buf qT)] }
def z4c : Ann := { slots := [(4, .one (.own 4084 qT))], objs := [(4084, .buf qT), (212, .buf qT)] }
def z4b : Ann := { slots := [], objs := [] }
def l_simplex_table_goal__simplex_Solve_13H : Ann := { slots := [(0, .one (.fix (.pbox 4060 0))), (4, .one (.row 4188 qT)), (7, .one (.val (.int .i64))), (9, .one (.fix (.pbox 36 0))), (68, .one (.val (.int .i64))), (69, .one (.val (.int .i64)))], objs := [(4060, .box [.grd 4188 qT, .own 420 (.int .i64), .val (.int .i64), .val (.int .i64)]), (4188, .mat qT), (36, .box [.val .bool, .val (.slice (.int .u32)), .val (.slice (.int .u32))]), (420, .buf (.int .i64))] }
def z48 : Ann := { slots := [(0, .one (.fix (.pbox 4060 0))), (4, .one (.row 4188 qT))], objs := [(4060, .box [.grd 4188 qT, .own 420 (.int .i64), .val (.int .i64), .val (.int .i64)]), (4188, .mat qT), (36, .box [.val .bool, .val (.slice (.int .u32)), .val (.slice (.int .u32))]), (420, .buf (.int .i64))] }
def z47 : Ann := { slots := [], objs := [] }
def l_simplex_table_goal__simplex_Solve_8H : Ann := { slots := [(0, .one (.fix (.pbox 4060 0))), (4, .one (.row 4188 qT)), (53, .one (.own 420 (.int .i64))), (54, .one (.val (.int .i64))), (55, .one (.val (.int .i64)))], objs := [(4060, .box [.grd 4188 qT, .own 420 (.int .i64), .val (.int .i64), .val (.int .i64)]), (4188, .mat qT), (420, .buf (.int .i64))] }
def z4e : Ann := { slots := [], objs := [(4060, .box [.grd 4188 qT, .own 420 (.int .i64), .val (.int .i64), .val (.int .i64)]), (4188, .mat qT), (420, .buf (.int .i64))] }
def z4d : Ann := { slots := [], objs := [] }
def l_simplex_table_run__simplex_Solve_2H : Ann := { slots := [(0, .one (.fix (.pbox 4060 0))), (1, .one (.val (.int .i64))), (5, .one (.val (.int .i64)))], objs := [(4060, .box [.grd 4188 qT, .own 420 (.int .i64), .val (.int .i64), .val (.int .i64)]), (4188, .mat qT), (420, .buf (.int .i64))] }
def z4m : Ann := { slots := [(0, .one (.fix (.pbox 4060 0))), (5, .one (.val (.int .i64)))], objs := [(4060, .box [.grd 4188 qT, .own 420 (.int .i64), .val (.int .i64), .val (.int .i64)]), (4188, .mat qT), (420, .buf (.int .i64))] }
def z4l : Ann := { slots := [], objs := [] }
def l_simplex_table_pivot__simplex_table_run__simplex_Solve_2H : Ann := { slots := [(0, .one (.fix (.pbox 4060 0))), (1, .one (.val (.int .i64))), (6, .one (.fix (.pbox 4024 0))), (28, .one (.val (.int .i64))), (29, .one (.val (.int .i64)))], objs := [(4060, .box [.grd 4188 qT, .own 420 (.int .i64), .val (.int .i64), .val (.int .i64)]), (4024, .box [.val .bool, .val (.slice (.int .u32)), .val (.slice (.int .u32))]), (4188, .mat qT), (420, .buf (.int .i64))] }
def z2d : Ann := { slots := [(0, .one (.fix (.pbox 4060 0)))], objs := [(4060, .box [.grd 4188 qT, .own 420 (.int .i64), .val (.int .i64), .val (.int .i64)]), (4024, .box [.val .bool, .val (.slice (.int .u32)), .val (.slice (.int .u32))]), (4188, .mat qT), (420, .buf (.int .i64))] }
def z2c : Ann := { slots := [], objs := [] }
def l_simplex_table_pivot__simplex_table_run__simplex_Solve_12H : Ann := { slots := [(0, .one (.fix (.pbox 4060 0))), (1, .one (.val (.int .i64))), (8, .one (.val (.int .i64))), (9, .one (.fix (.pbox 36 0))), (87, .one (.val (.int .i64))), (88, .one (.val (.int .i64)))], objs := [(4060, .box [.grd 4188 qT, .own 420 (.int .i64), .val (.int .i64), .val (.int .i64)]), (36, .box [.val .bool, .val (.slice (.int .u32)), .val (.slice (.int .u32))]), (4188, .mat qT), (420, .buf (.int .i64))] }
def z28 : Ann := { slots := [(0, .one (.fix (.pbox 4060 0)))], objs := [(4060, .box [.grd 4188 qT, .own 420 (.int .i64), .val (.int .i64), .val (.int .i64)]), (36, .box [.val .bool, .val (.slice (.int .u32)), .val (.slice (.int .u32))]), (4188, .mat qT), (420, .buf (.int .i64))] }
def z27 : Ann := { slots := [], objs := [] }
def l_simplex_table_pivot__simplex_table_run__simplex_Solve_7H : Ann := { slots := [(0, .one (.fix (.pbox 4060 0))), (1, .one (.val (.int .i64))), (2, .one (.val (.int .i64))), (58, .one (.val (.int .i64))), (59, .one (.val (.int .i64)))], objs := [(4060, .box [.grd 4188 qT, .own 420 (.int .i64), .val (.int .i64), .val (.int .i64)]), (4188, .mat qT), (420, .buf (.int .i64))] }
def z2f : Ann := { slots := [(0, .one (.fix (.pbox 4060 0)))], objs := [(4060, .box [.grd 4188 qT, .own 420 (.int .i64), .val (.int .i64), .val (.int .i64)]), (4188, .mat qT), (420, .buf (.int .i64))] }
def z2e : Ann := { slots := [], objs := [] }
def l_simplex_table_run__simplex_Solve_1H : Ann := { slots := [(0, .one (.fix (.pbox 4060 0))), (1, .one (.val (.int .i64)))], objs := [(4060, .box [.grd 4188 qT, .own 420 (.int .i64), .val (.int .i64), .val (.int .i64)]), (4188, .mat qT), (420, .buf (.int .i64))] }
def z4k : Ann := { slots := [], objs := [] }
def z4j : Ann := { slots := [(4, .one (.val (.int .i64)))], objs := [(4060, .box [.grd 4188 qT, .own 420 (.int .i64), .val (.int .i64), .val (.int .i64)]), (4188, .mat qT), (420, .buf (.int .i64))] }
def l_simplex_table_solution__simplex_Solve_3H : Ann := { slots := [(0, .one (.fix (.pbox 4060 0))), (3, .one (.own 4040 qT)), (14, .one (.own 420 (.int .i64))), (15, .one (.val (.int .i64))), (16, .one (.val (.int .i64)))], objs := [(4060, .box [.grd 4188 qT, .own 420 (.int .i64), .val (.int .i64), .val (.int .i64)]), (4040, .buf qT), (420, .buf (.int .i64)), (4188, .mat qT)] }
def z3v : Ann := { slots := [(3, .one (.own 4040 qT))], objs := [(4040, .buf qT), (4060, .box [.grd 4188 qT, .own 420 (.int .i64), .val (.int .i64), .val (.int .i64)]), (420, .buf (.int .i64)), (4188, .mat qT)] }
def z3u : Ann := { slots := [], objs := [] }
def l_simplex_Solve_16H : Ann := { slots := [(5, .one (.fix (.pbox 4060 0))), (6, .one (.val (.int .i64))), (8, .one (.own 464 qT)), (130, .one (.own 420 (.int .i64))), (131, .one (.val (.int .i64))), (132, .one (.val (.int .i64)))], objs := [(4060, .box [.grd 4188 qT, .own 420 (.int .i64), .val (.int .i64), .val (.int .i64)]), (464, .buf qT), (420, .buf (.int .i64)), (4188, .mat qT)] }
def zh0 : Ann := { slots := [(8, .one (.own 464 qT))], objs := [(464, .buf qT), (4060, .box [.grd 4188 qT, .own 420 (.int .i64), .val (.int .i64), .val (.int .i64)]), (420, .buf (.int .i64)), (4188, .mat qT)] }
def zg9 : Ann := { slots := [], objs := [] }
def l_simplex_table_goal__simplex_table_feasible__simplex_Solve_2H : Ann := { slots := [(4, .one (.own 8084 qT)), (22, .one (.own 4268 qT)), (23, .one (.val (.int .i64))), (24, .one (.val (.int .i64)))], objs := [(8084, .buf qT), (4268, .buf qT)] }
def z1z : Ann := { slots := [(4, .one (.own 8084 qT))], objs := [(8084, .buf qT), (4268, .buf qT)] }
def z1y : Ann := { slots := [], objs := [] }
def l_simplex_table_goal__simplex_table_feasible__simplex_Solve_13H : Ann := { slots := [(0, .one (.fix (.pbox 4060 0))), (4, .one (.row 8188 qT)), (7, .one (.val (.int .i64))), (9, .one (.fix (.pbox 36 0))), (68, .one (.val (.int .i64))), (69, .one (.val (.int .i64)))], objs := [(4060, .box [.grd 8188 qT, .own 420 (.int .i64), .val (.int .i64), .val (.int .i64)]), (8188, .mat qT), (36, .box [.val .bool, .val (.slice (.int .u32)), .val (.slice (.int .u32))]), (420, .buf (.int .i64))] }
def z1s : Ann := { slots := [(0, .one (.fix (.pbox 4060 0))), (4, .one (.row 8188 qT))], objs := [(4060, .box [.grd 8188 qT, .own 420 (.int .i64), .val (.int .i64), .val (.int .i64)]), (8188, .mat qT), (36, .box [.val .bool, .val (.slice (.int .u32)), .val (.slice (.int .u32))]), (420, .buf (.int .i64))] }
def z1r : Ann := { slots := [], objs := [] }
def l_simplex_table_goal__simplex_table_feasible__simplex_Solve_8H : Ann := { slots := [(0, .one (.fix (.pbox 4060 0))), (4, .one (.row 8188 qT)), (53, .one (.own 420 (.int .i64))), (54, .one (.val (.int .i64))), (55, .one (.val (.int .i64)))], objs := [(4060, .box [.grd 8188 qT, .own 420 (.int .i64), .val (.int .i64), .val (.int .i64)]), (8188, .mat qT), (420, .buf (.int .i64))] }
def z21 : Ann := { slots := [], objs := [(4060, .box [.grd 8188 qT, .own 420 (.int .i64), .val (.int .i64), .val (.int .i64)]), (8188, .mat qT), (420, .buf (.int .i64))] }
def z20 : Ann := { slots := [], objs := [] }
def l_simplex_table_pivot__simplex_table_feasible__simplex_Solve_2H : Ann := { slots := [(0, .one (.fix (.pbox 4060 0))), (1, .one (.val (.int .i64))), (6, .one (.fix (.pbox 8024 0))), (28, .one (.val (.int .i64))), (29, .one (.val (.int .i64)))], objs := [(4060, .box [.grd 8188 qT, .own 420 (.int .i64), .val (.int .i64), .val (.int .i64)]), (8024, .box [.val .bool, .val (.slice (.int .u32)), .val (.slice (.int .u32))]), (8188, .mat qT), (420, .buf (.int .i64))] }
def z1u : Ann := { slots := [(0, .one (.fix (.pbox 4060 0)))], objs := [(4060, .box [.grd 8188 qT, .own 420 (.int .i64), .val (.int .i64), .val (.int .i64)]), (8024, .box [.val .bool, .val (.slice (.int .u32)), .val (.slice (.int .u32))]), (8188, .mat qT), (420, .buf (.int .i64))] }
def z1t : Ann := { slots := [], objs := [] }
def l_simplex_table_pivot__simplex_table_feasible__simplex_Solve_12H : Ann := { slots := [(0, .one (.fix (.pbox 4060 0))), (1, .one (.val (.int .i64))), (8, .one (.val (.int .i64))), (9, .one (.fix (.pbox 36 0))), (87, .one (.val (.int .i64))), (88, .one (.val (.int .i64)))], objs := [(4060, .box [.grd 8188 qT, .own 420 (.int .i64), .val (.int .i64), .val (.int .i64)]), (36, .box [.val .bool, .val (.slice (.int .u32)), .val (.slice (.int .u32))]), (8188, .mat qT), (420, .buf (.int .i64))] }
def z1q : Ann := { slots := [(0, .one (.fix (.pbox 4060 0)))], objs := [(4060, .box [.grd 8188 qT, .own 420 (.int .i64), .val (.int .i64), .val (.int .i64)]), (36, .box [.val .bool, .val (.slice (.int .u32)), .val (.slice (.int .u32))]), (8188, .mat qT), (420, .buf (.int .i64))] }
def z1p : Ann := { slots := [], objs := [] }
def l_simplex_table_pivot__simplex_table_feasible__simplex_Solve_7H : Ann := { slots := [(0, .one (.fix (.pbox 4060 0))), (1, .one (.val (.int .i64))), (2, .one (.val (.int .i64))), (58, .one (.val (.int .i64))), (59, .one (.val (.int .i64)))], objs := [(4060, .box [.grd 8188 qT, .own 420 (.int .i64), .val (.int .i64), .val (.int .i64)]), (8188, .mat qT), (420, .buf (.int .i64))] }
def z1w : Ann := { slots := [(0, .one (.fix (.pbox 4060 0)))], objs := [(4060, .box [.grd 8188 qT, .own 420 (.int .i64), .val (.int .i64), .val (.int .i64)]), (8188, .mat qT), (420, .buf (.int .i64))] }
def z1v : Ann := { slots := [], objs := [] }
def l_simplex_table_run__simplex_table_feasible__simplex_Solve_2H : Ann := { slots := [(0, .one (.fix (.pbox 4060 0))), (1, .one (.val (.int .i64))), (5, .one (.val (.int .i64)))], objs := [(4060, .box [.grd 8188 qT, .own 420 (.int .i64), .val (.int .i64), .val (.int .i64)]), (8188, .mat qT), (420, .buf (.int .i64))] }
def z25 : Ann := { slots := [(0, .one (.fix (.pbox 4060 0))), (5, .one (.val (.int .i64)))], objs := [(4060, .box [.grd 8188 qT, .own 420 (.int .i64), .val (.int .i64), .val (.int .i64)]), (8188, .mat qT), (420, .buf (.int .i64))] }
def z24 : Ann := { slots := [], objs := [] }
def l_simplex_table_pivot__simplex_table_run__simplex_table_feasible__simplex_Solve_2H : Ann := { slots := [(0, .one (.fix (.pbox 4060 0))), (1, .one (.val (.int .i64))), (6, .one (.fix (.pbox 4024 0))), (28, .one (.val (.int .i64))), (29, .one (.val (.int .i64)))], objs := [(4060, .box [.grd 8188 qT, .own 420 (.int .i64), .val (.int .i64), .val (.int .i64)]), (4024, .box [.val .bool, .val (.slice (.int .u32)), .val (.slice (.int .u32))]), (8188, .mat qT), (420, .buf (.int .i64))] }
def z19 : Ann := { slots := [(0, .one (.fix (.pbox 4060 0)))], objs := [(4060, .box [.grd 8188 qT, .own 420 (.int .i64), .val (.int .i64), .val (.int .i64)]), (4024, .box [.val .bool, .val (.slice (.int .u32)), .val (.slice (.int .u32))]), (8188, .mat qT), (420, .buf (.int .i64))] }
def z18 : Ann := { slots := [], objs := [] }
def l_simplex_table_pivot__simplex_table_run__simplex_table_feasible__simplex_Solve_12H : Ann := { slots := [(0, .one (.fix (.pbox 4060 0))), (1, .one (.val (.int .i64))), (8, .one (.val (.int .i64))), (9, .one (.fix (.pbox 36 0))), (87, .one (.val (.int .i64))), (88, .one (.val (.int .i64)))], objs := [(4060, .box [.grd 8188 qT, .own 420 (.int .i64), .val (.int .i64), .val (.int .i64)]), (36, .box [.val .bool, .val (.slice (.int .u32)), .val (.slice (.int .u32))]), (8188, .mat qT), (420, .buf (.int .i64))] }
def z16 : Ann := { slots := [(0, .one (.fix (.pbox 4060 0)))], objs := [(4060, .box [.grd 8188 qT, .own 420 (.int .i64), .val (.int .i64), .val (.int .i64)]), (36, .box [.val .bool, .val (.slice (.int .u32)), .val (.slice (.int .u32))]), (8188, .mat qT), (420, .buf (.int .i64))] }
def z15 : Ann := { slots := [], objs := [] }
def l_simplex_table_pivot__simplex_table_run__simplex_table_feasible__simplex_Solve_7H : Ann := { slots := [(0, .one (.fix (.pbox 4060 0))), (1, .one (.val (.int .i64))), (2, .one (.val (.int .i64))), (58, .one (.val (.int .i64))), (59, .one (.val (.int .i64)))], objs := [(4060, .box [.grd 8188 qT, .own 420 (.int .i64), .val (.int .i64), .val (.int .i64)]), (8188, .mat qT), (420, .buf (.int .i64))] }
def z1b : Ann := { slots := [(0, .one (.fix (.pbox 4060 0)))], objs := [(4060, .box [.grd 8188 qT, .own 420 (.int .i64), .val (.int .i64), .val (.int .i64)]), (8188, .mat qT), (420, .buf (.int .i64))] }
def z1a : Ann := { slots := [], objs := [] }
def l_simplex_table_run__simplex_table_feasible__simplex_Solve_1H : Ann := { slots := [(0, .one (.fix (.pbox 4060 0))), (1, .one (.val (.int .i64)))], objs := [(4060, .box [.grd 8188 qT, .own 420 (.int .i64), .val (.int .i64), .val (.int .i64)]), (8188, .mat qT), (420, .buf (.int .i64))] }
def z23 : Ann := { slots := [], objs := [] }
def z22 : Ann := { slots := [(4, .one (.val (.int .i64)))], objs := [(4060, .box [.grd 8188 qT, .own 420 (.int .i64), .val (.int .i64), .val (.int .i64)]), (8188, .mat qT), (420, .buf (.int .i64))] }
def l_simplex_table_feasible__simplex_Solve_23H : Ann := { slots := [(0, .one (.fix (.pbox 4060 0))), (8, .one (.val (.int .i64))), (112, .one (.val (.int .i64))), (113, .one (.val (.int .i64)))], objs := [(4060, .box [.grd 8188 qT, .own 420 (.int .i64), .val (.int .i64), .val (.int .i64)]), (8188, .mat qT), (420, .buf (.int .i64))] }
def z3j : Ann := { slots := [(0, .one (.fix (.pbox 4060 0)))], objs := [(4060, .box [.grd 8188 qT, .own 420 (.int .i64), .val (.int .i64), .val (.int .i64)]), (8188, .mat qT), (420, .buf (.int .i64))] }
def z3i : Ann := { slots := [], objs := [] }
def l_simplex_table_feasible__simplex_Solve_19H : Ann := { slots := [(0, .one (.fix (.pbox 4060 0))), (4, .one (.val (.int .i64))), (102, .one (.own 420 (.int .i64))), (103, .one (.val (.int .i64))), (104, .one (.val (.int .i64)))], objs := [(4060, .box [.grd 8188 qT, .own 420 (.int .i64), .val (.int .i64), .val (.int .i64)]), (420, .buf (.int .i64)), (8188, .mat qT)] }
def z3h : Ann := { slots := [], objs := [(4060, .box [.grd 8188 qT, .own 420 (.int .i64), .val (.int .i64), .val (.int .i64)]), (420, .buf (.int .i64)), (8188, .mat qT)] }
def z3g : Ann := { slots := [], objs := [] }
def z1n : Nat → Int → Int → Int → Int → List (List (Bool × ((List Int) × (List Int)))) → List (Bool × ((List Int) × (List Int))) → List (List (Bool × ((List Int) × (List Int)))) → List Int → Option (LR z5f z5e)
 | 0, _, _, _, _, _, _, _, _ => none
 | m + 1, s25, s26, b4060_2, b4060_3, b4072, b4084, b360, b420 =>
  if decide (s26 < s25) = true then
  if (0 : Int) ≤ IntKind.i64.wrap ((IntKind.i64.wrap (b4060_2 + b4060_3)) + 2) then
  if IntKind.i64.wrap ((IntKind.i64.wrap (b4060_2 + b4060_3)) + 2) ≤ IntKind.i64.wrap ((IntKind.i64.wrap (b4060_2 + b4060_3)) + 2) then
  if (IntKind.i64.wrap ((IntKind.i64.wrap (b4060_2 + b4060_3)) + 2)) * 56 ≤ 281474976710656 then
  if (0 : Int) ≤ s26 then
  if s26 < b4072.length then
  (z6v fuel 1).bind fun r1 =>
  if (0 : Int) ≤ IntKind.i64.wrap (b4060_2 + s26) then
  if IntKind.i64.wrap (b4060_2 + s26) < ((b4072.getD s26.toNat []).take (List.replicate ((IntKind.i64.wrap ((IntKind.i64.wrap (b4060_2 + b4060_3)) + 2)).toNat) ((false, ([], [])) : Bool × ((List Int) × (List Int)))).length ++ (List.replicate ((IntKind.i64.wrap ((IntKind.i64.wrap (b4060_2 + b4060_3)) + 2)).toNat) ((false, ([], [])) : Bool × ((List Int) × (List Int)))).drop (b4072.getD s26.toNat []).length).length then
  (z6v fuel (-1)).bind fun r2 =>
  if (0 : Int) ≤ IntKind.i64.wrap (b4060_2 + b4060_3) then
  if IntKind.i64.wrap (b4060_2 + b4060_3) < (((b4072.getD s26.toNat []).take (List.replicate ((IntKind.i64.wrap ((IntKind.i64.wrap (b4060_2 + b4060_3)) + 2)).toNat) ((false, ([], [])) : Bool × ((List Int) × (List Int)))).length ++ (List.replicate ((IntKind.i64.wrap ((IntKind.i64.wrap (b4060_2 + b4060_3)) + 2)).toNat) ((false, ([], [])) : Bool × ((List Int) × (List Int)))).drop (b4072.getD s26.toNat []).length).set ((IntKind.i64.wrap (b4060_2 + s26)).toNat) r1).length then
  if (0 : Int) ≤ s26 then
  if s26 < b4084.length then
  if (0 : Int) ≤ IntKind.i64.wrap ((IntKind.i64.wrap (b4060_2 + b4060_3)) + 1) then
  if IntKind.i64.wrap ((IntKind.i64.wrap (b4060_2 + b4060_3)) + 1) < ((((b4072.getD s26.toNat []).take (List.replicate ((IntKind.i64.wrap ((IntKind.i64.wrap (b4060_2 + b4060_3)) + 2)).toNat) ((false, ([], [])) : Bool × ((List Int) × (List Int)))).length ++ (List.replicate ((IntKind.i64.wrap ((IntKind.i64.wrap (b4060_2 + b4060_3)) + 2)).toNat) ((false, ([], [])) : Bool × ((List Int) × (List Int)))).drop (b4072.getD s26.toNat []).length).set ((IntKind.i64.wrap (b4060_2 + s26)).toNat) r1).set ((IntKind.i64.wrap (b4060_2 + b4060_3)).toNat) r2).length then
  if (b360.length + 1) * 24 ≤ 140737488355328 then
  if (b420.length + 1) * 8 ≤ 140737488355328 then
  z1n m s25 (IntKind.i64.wrap (s26 + 1)) b4060_2 b4060_3 b4072 b4084 (b360 ++ [((((b4072.getD s26.toNat []).take (List.replicate ((IntKind.i64.wrap ((IntKind.i64.wrap (b4060_2 + b4060_3)) + 2)).toNat) ((false, ([], [])) : Bool × ((List Int) × (List Int)))).length ++ (List.replicate ((IntKind.i64.wrap ((IntKind.i64.wrap (b4060_2 + b4060_3)) + 2)).toNat) ((false, ([], [])) : Bool × ((List Int) × (List Int)))).drop (b4072.getD s26.toNat []).length).set ((IntKind.i64.wrap (b4060_2 + s26)).toNat) r1).set ((IntKind.i64.wrap (b4060_2 + b4060_3)).toNat) r2).set ((IntKind.i64.wrap ((IntKind.i64.wrap (b4060_2 + b4060_3)) + 1)).toNat) ((b4084.getD s26.toNat (false, ([], []))).1, ((b4084.getD s26.toNat (false, ([], []))).2))]) (b420 ++ [IntKind.i64.wrap (b4060_2 + s26)])
  else none
  else none
  else none
  else none
  else none
  else none
  else none
  else none
  else none
  else none
  else none
  else none
  else none
  else none
  else none
  else
  some (.exit (b4060_2, b4060_3, b4072, b4084, b360, b420, ()))
def l_simplex_start__simplex_Solve_4L : LSpec := { h := l_simplex_start__simplex_Solve_4H, x := z5f, r := z5e, xid := 0, rt := false, pins := [4060, 4072, 4084], f := fun k d => z1n k d.1 d.2.1 d.2.2.1 d.2.2.2.1 d.2.2.2.2.1 d.2.2.2.2.2.1 d.2.2.2.2.2.2.1 d.2.2.2.2.2.2.2.1 }
def z0i : Nat → Int → Int → Int → Int → Int → List (List (Bool × ((List Int) × (List Int)))) → List Int → Option (LR z3t z3s)
 | 0, _, _, _, _, _, _, _ => none
 | m + 1, s3, s23, s24, b4060_2, b4060_3, b360, b420 =>
  if decide (s24 < s23) = true then
  if (0 : Int) ≤ s24 then
  if s24 < b360.length then
  (z1k fuel (b360, (b420, (b4060_2, b4060_3)))).bind fun r1 =>
  if (0 : Int) ≤ r1 then
  if r1 < (b360.getD s24.toNat []).length then
  (z1i fuel (((b360.getD s24.toNat []).getD r1.toNat (false, ([], []))).1, (((b360.getD s24.toNat []).getD r1.toNat (false, ([], []))).2))).bind fun r2 =>
  if decide (r2 < 0) = true then
  if decide (s3 < 0) = false then
  if (0 : Int) ≤ s3 then
  if s3 < b360.length then
  (z1k fuel (b360, (b420, (b4060_2, b4060_3)))).bind fun r3 =>
  if (0 : Int) ≤ r3 then
  if r3 < (b360.getD s3.toNat []).length then
  (z6x fuel (((b360.getD s24.toNat []).getD r1.toNat (false, ([], []))).1, (((b360.getD s24.toNat []).getD r1.toNat (false, ([], []))).2)) (((b360.getD s3.toNat []).getD r3.toNat (false, ([], []))).1, (((b360.getD s3.toNat []).getD r3.toNat (false, ([], []))).2))).bind fun r4 =>
  if decide (r4 < 0) = true then
  z0i m s24 s23 (IntKind.i64.wrap (s24 + 1)) b4060_2 b4060_3 b360 b420
  else
  z0i m s3 s23 (IntKind.i64.wrap (s24 + 1)) b4060_2 b4060_3 b360 b420
  else none
  else none
  else none
  else none
  else
  z0i m s24 s23 (IntKind.i64.wrap (s24 + 1)) b4060_2 b4060_3 b360 b420
  else
  z0i m s3 s23 (IntKind.i64.wrap (s24 + 1)) b4060_2 b4060_3 b360 b420
  else none
  else none
  else none
  else none
  else
  some (.exit (s3, b4060_2, b4060_3, b360, b420, ()))
def l_simplex_table_feasible__simplex_Solve_3L : LSpec := { h := l_simplex_table_feasible__simplex_Solve_3H, x := z3t, r := z3s, xid := 0, rt := false, pins := [4060, 360, 420], f := fun k d => z0i k d.1 d.2.1 d.2.2.1 d.2.2.2.1 d.2.2.2.2.1 d.2.2.2.2.2.1 d.2.2.2.2.2.2.1 }
def z0t : Nat → Int → Int → List (Bool × ((List Int) × (List Int))) → List (Bool × ((List Int) × (List Int))) → Option (LR z4c z4b)
 | 0, _, _, _, _ => none
 | m + 1, s23, s24, b4084, b212 =>
  if decide (s24 < s23) = true then
  if (0 : Int) ≤ s24 then
  if s24 < b212.length then
  (z8b fuel ((b212.getD s24.toNat (false, ([], []))).1, ((b212.getD s24.toNat (false, ([], []))).2))).bind fun r1 =>
  if (0 : Int) ≤ s24 then
  if s24 < b4084.length then
  z0t m s23 (IntKind.i64.wrap (s24 + 1)) (b4084.set s24.toNat r1) b212
  else none
  else none
  else none
  else none
  else
  some (.exit (b4084, b212, ()))
def l_simplex_table_goal__simplex_Solve_2L : LSpec := { h := l_simplex_table_goal__simplex_Solve_2H, x := z4c, r := z4b, xid := 0, rt := false, pins := [4084, 212], f := fun k d => z0t k d.1 d.2.1 d.2.2.1 d.2.2.2.1 }
def z13 : Nat → Nat → Int → Int → Int → Int → Int → List (List (Bool × ((List Int) × (List Int)))) → Bool → List Int → List Int → List Int → Option (LR z48 z47)
 | 0, _, _, _, _, _, _, _, _, _, _, _ => none
 | m + 1, s4, s7, s68, s69, b4060_2, b4060_3, b4188, b36_0, b36_1, b36_2, b420 =>
  if decide (s69 < s68) = true then
  if (0 : Int) ≤ s69 then
  if s69 < (b4188.getD s4 []).length then
  if (0 : Int) ≤ s7 then
  if s7 < b4188.length then
  if (0 : Int) ≤ s69 then
  if s69 < (b4188.getD s7.toNat []).length then
  (z36 fuel (b36_0, (b36_1, b36_2)) (((b4188.getD s7.toNat []).getD s69.toNat (false, ([], []))).1, (((b4188.getD s7.toNat []).getD s69.toNat (false, ([], []))).2))).bind fun r1 =>
  (z50 fuel (((b4188.getD s4 []).getD s69.toNat (false, ([], []))).1, (((b4188.getD s4 []).getD s69.toNat (false, ([], []))).2)) r1).bind fun r2 =>
  if (0 : Int) ≤ s69 then
  if s69 < (b4188.getD s4 []).length then
  z13 m s4 s7 s68 (IntKind.i64.wrap (s69 + 1)) b4060_2 b4060_3 (b4188.set s4 ((b4188.getD s4 []).set s69.toNat r2)) b36_0 b36_1 b36_2 b420
  else none
  else none
  else none
  else none
  else none
  else none
  else none
  else none
  else
  some (.exit (s4, b4060_2, b4060_3, b4188, b36_0, b36_1, b36_2, b420, ()))
def l_simplex_table_goal__simplex_Solve_13L : LSpec := { h := l_simplex_table_goal__simplex_Solve_13H, x := z48, r := z47, xid := 4, rt := false, pins := [4060, 4188, 36, 420], f := fun k d => z13 k d.1 d.2.1 d.2.2.1 d.2.2.2.1 d.2.2.2.2.1 d.2.2.2.2.2.1 d.2.2.2.2.2.2.1 d.2.2.2.2.2.2.2.1 d.2.2.2.2.2.2.2.2.1 d.2.2.2.2.2.2.2.2.2.1 d.2.2.2.2.2.2.2.2.2.2.1 }
def z0n : Nat → Nat → Int → Int → Int → Int → List (List (Bool × ((List Int) × (List Int)))) → List Int → Option (LR z4e z4d)
 | 0, _, _, _, _, _, _, _ => none
 | m + 1, s4, s54, s55, b4060_2, b4060_3, b4188, b420 =>
  if decide (s55 < s54) = true then
  if (0 : Int) ≤ s55 then
  if s55 < b420.length then
  if (0 : Int) ≤ b420.getD s55.toNat 0 then
  if b420.getD s55.toNat 0 < (b4188.getD s4 []).length then
  (z1i fuel (((b4188.getD s4 []).getD ((b420.getD s55.toNat 0).toNat) (false, ([], []))).1, (((b4188.getD s4 []).getD ((b420.getD s55.toNat 0).toNat) (false, ([], []))).2))).bind fun r1 =>
  if (r1 == 0) = true then
  z0n m s4 s54 (IntKind.i64.wrap (s55 + 1)) b4060_2 b4060_3 b4188 b420
  else
  match z13 m s4 s55 ((b4188.getD s4 []).length : Int) 0 b4060_2 b4060_3 b4188 (((b4188.getD s4 []).getD ((b420.getD s55.toNat 0).toNat) (false, ([], []))).1) ((((b4188.getD s4 []).getD ((b420.getD s55.toNat 0).toNat) (false, ([], []))).2).1) ((((b4188.getD s4 []).getD ((b420.getD s55.toNat 0).toNat) (false, ([], []))).2).2) b420 with
  | none => none
  | some (.exit d2) =>
   z0n m d2.1 s54 (IntKind.i64.wrap (s55 + 1)) d2.2.1 d2.2.2.1 d2.2.2.2.1 d2.2.2.2.2.2.2.2.1
  | some (.ret d2) =>
   none
  else none
  else none
  else none
  else none
  else
  some (.exit (b4060_2, b4060_3, b4188, b420, ()))
def l_simplex_table_goal__simplex_Solve_8L : LSpec := { h := l_simplex_table_goal__simplex_Solve_8H, x := z4e, r := z4d, xid := 2, rt := false, pins := [4060, 4188, 420], f := fun k d => z0n k d.1 d.2.1 d.2.2.1 d.2.2.2.1 d.2.2.2.2.1 d.2.2.2.2.2.1 d.2.2.2.2.2.2.1 }
def z1c : Nat → Int → Int → Int → Int → List (List (Bool × ((List Int) × (List Int)))) → List Int → Option (LR z4m z4l)
 | 0, _, _, _, _, _, _ => none
 | m + 1, s1, s5, b4060_2, b4060_3, b4188, b420 =>
  if decide (s5 < s1) = true then
  if (0 : Int) ≤ b4060_3 then
  if b4060_3 < b4188.length then
  if (0 : Int) ≤ s5 then
  if s5 < (b4188.getD b4060_3.toNat []).length then
  (z1i fuel (((b4188.getD b4060_3.toNat []).getD s5.toNat (false, ([], []))).1, (((b4188.getD b4060_3.toNat []).getD s5.toNat (false, ([], []))).2))).bind fun r1 =>
  if decide (r1 ≥ 0) = true then
  z1c m s1 (IntKind.i64.wrap (s5 + 1)) b4060_2 b4060_3 b4188 b420
  else
  some (.exit (s5, b4060_2, b4060_3, b4188, b420, ()))
  else none
  else none
  else none
  else none
  else
  some (.exit (s5, b4060_2, b4060_3, b4188, b420, ()))
def l_simplex_table_run__simplex_Solve_2L : LSpec := { h := l_simplex_table_run__simplex_Solve_2H, x := z4m, r := z4l, xid := 2, rt := false, pins := [4060, 4188, 420], f := fun k d => z1c k d.1 d.2.1 d.2.2.1 d.2.2.2.1 d.2.2.2.2.1 d.2.2.2.2.2.1 }
def z0k : Nat → Int → Int → Int → Int → Int → Bool → List Int → List Int → List (List (Bool × ((List Int) × (List Int)))) → List Int → Option (LR z2d z2c)
 | 0, _, _, _, _, _, _, _, _, _, _ => none
 | m + 1, s1, s28, s29, b4060_2, b4060_3, b4024_0, b4024_1, b4024_2, b4188, b420 =>
  if decide (s29 < s28) = true then
  if (0 : Int) ≤ s1 then
  if s1 < b4188.length then
  if (0 : Int) ≤ s1 then
  if s1 < b4188.length then
  if (0 : Int) ≤ s29 then
  if s29 < (b4188.getD s1.toNat []).length then
  (z5l fuel (((b4188.getD s1.toNat []).getD s29.toNat (false, ([], []))).1, (((b4188.getD s1.toNat []).getD s29.toNat (false, ([], []))).2)) (b4024_0, (b4024_1, b4024_2))).bind fun r1 =>
  if (0 : Int) ≤ s29 then
  if s29 < (b4188.getD s1.toNat []).length then
  z0k m s1 s28 (IntKind.i64.wrap (s29 + 1)) b4060_2 b4060_3 b4024_0 b4024_1 b4024_2 (b4188.set s1.toNat ((b4188.getD s1.toNat []).set s29.toNat r1)) b420
  else none
  else none
  else none
  else none
  else none
  else none
  else none
  else none
  else
  some (.exit (b4060_2, b4060_3, b4024_0, b4024_1, b4024_2, b4188, b420, ()))
def l_simplex_table_pivot__simplex_table_run__simplex_Solve_2L : LSpec := { h := l_simplex_table_pivot__simplex_table_run__simplex_Solve_2H, x := z2d, r := z2c, xid := 0, rt := false, pins := [4060, 4024, 4188, 420], f := fun k d => z0k k d.1 d.2.1 d.2.2.1 d.2.2.2.1 d.2.2.2.2.1 d.2.2.2.2.2.1 d.2.2.2.2.2.2.1 d.2.2.2.2.2.2.2.1 d.2.2.2.2.2.2.2.2.1 d.2.2.2.2.2.2.2.2.2.1 }
def z0h : Nat → Int → Int → Int → Int → Int → Int → Bool → List Int → List Int → List (List (Bool × ((List Int) × (List Int)))) → List Int → Option (LR z28 z27)
 | 0, _, _, _, _, _, _, _, _, _, _, _ => none
 | m + 1, s1, s8, s87, s88, b4060_2, b4060_3, b36_0, b36_1, b36_2, b4188, b420 =>
  if decide (s88 < s87) = true then
  if (0 : Int) ≤ s8 then
  if s8 < b4188.length then
  if (0 : Int) ≤ s8 then
  if s8 < b4188.length then
  if (0 : Int) ≤ s88 then
  if s88 < (b4188.getD s8.toNat []).length then
  if (0 : Int) ≤ s1 then
  if s1 < b4188.length then
  if (0 : Int) ≤ s88 then
  if s88 < (b4188.getD s1.toNat []).length then
  (z36 fuel (b36_0, (b36_1, b36_2)) (((b4188.getD s1.toNat []).getD s88.toNat (false, ([], []))).1, (((b4188.getD s1.toNat []).getD s88.toNat (false, ([], []))).2))).bind fun r1 =>
  (z50 fuel (((b4188.getD s8.toNat []).getD s88.toNat (false, ([], []))).1, (((b4188.getD s8.toNat []).getD s88.toNat (false, ([], []))).2)) r1).bind fun r2 =>
  if (0 : Int) ≤ s88 then
  if s88 < (b4188.getD s8.toNat []).length then
  z0h m s1 s8 s87 (IntKind.i64.wrap (s88 + 1)) b4060_2 b4060_3 b36_0 b36_1 b36_2 (b4188.set s8.toNat ((b4188.getD s8.toNat []).set s88.toNat r2)) b420
  else none
  else none
  else none
  else none
  else none
  else none
  else none
  else none
  else none
  else none
  else none
  else none
  else
  some (.exit (b4060_2, b4060_3, b36_0, b36_1, b36_2, b4188, b420, ()))
def l_simplex_table_pivot__simplex_table_run__simplex_Solve_12L : LSpec := { h := l_simplex_table_pivot__simplex_table_run__simplex_Solve_12H, x := z28, r := z27, xid := 4, rt := false, pins := [4060, 36, 4188, 420], f := fun k d => z0h k d.1 d.2.1 d.2.2.1 d.2.2.2.1 d.2.2.2.2.1 d.2.2.2.2.2.1 d.2.2.2.2.2.2.1 d.2.2.2.2.2.2.2.1 d.2.2.2.2.2.2.2.2.1 d.2.2.2.2.2.2.2.2.2.1 d.2.2.2.2.2.2.2.2.2.2.1 }
def z07 : Nat → Int → Int → Int → Int → Int → Int → List (List (Bool × ((List Int) × (List Int)))) → List Int → Option (LR z2f z2e)
 | 0, _, _, _, _, _, _, _, _ => none
 | m + 1, s1, s2, s58, s59, b4060_2, b4060_3, b4188, b420 =>
  if decide (s59 < s58) = true then
  if (0 : Int) ≤ s59 then
  if s59 < b4188.length then
  if (0 : Int) ≤ s2 then
  if s2 < (b4188.getD s59.toNat []).length then
  if (s59 == s1) = false then
  (z1i fuel (((b4188.getD s59.toNat []).getD s2.toNat (false, ([], []))).1, (((b4188.getD s59.toNat []).getD s2.toNat (false, ([], []))).2))).bind fun r1 =>
  if (r1 == 0) = true then
  z07 m s1 s2 s58 (IntKind.i64.wrap (s59 + 1)) b4060_2 b4060_3 b4188 b420
  else
  if (0 : Int) ≤ s59 then
  if s59 < b4188.length then
  match z0h m s1 s59 ((b4188.getD s59.toNat []).length : Int) 0 b4060_2 b4060_3 (((b4188.getD s59.toNat []).getD s2.toNat (false, ([], []))).1) ((((b4188.getD s59.toNat []).getD s2.toNat (false, ([], []))).2).1) ((((b4188.getD s59.toNat []).getD s2.toNat (false, ([], []))).2).2) b4188 b420 with
  | none => none
  | some (.exit d2) =>
   z07 m s1 s2 s58 (IntKind.i64.wrap (s59 + 1)) d2.1 d2.2.1 d2.2.2.2.2.2.1 d2.2.2.2.2.2.2.1
  | some (.ret d2) =>
   none
  else none
  else none
  else
  z07 m s1 s2 s58 (IntKind.i64.wrap (s59 + 1)) b4060_2 b4060_3 b4188 b420
  else none
  else none
  else none
  else none
  else
  some (.exit (b4060_2, b4060_3, b4188, b420, ()))
def l_simplex_table_pivot__simplex_table_run__simplex_Solve_7L : LSpec := { h := l_simplex_table_pivot__simplex_table_run__simplex_Solve_7H, x := z2f, r := z2e, xid := 2, rt := false, pins := [4060, 4188, 420], f := fun k d => z07 k d.1 d.2.1 d.2.2.1 d.2.2.2.1 d.2.2.2.2.1 d.2.2.2.2.2.1 d.2.2.2.2.2.2.1 d.2.2.2.2.2.2.2.1 }
def z10 : Nat → Int → Int → Int → List (List (Bool × ((List Int) × (List Int)))) → List Int → Option (LR z4k z4j)
 | 0, _, _, _, _, _ => none
 | m + 1, s1, b4060_2, b4060_3, b4188, b420 =>
  match z1c m s1 0 b4060_2 b4060_3 b4188 b420 with
  | none => none
  | some (.exit d1) =>
   if (d1.1 == s1) = true then
   some (.ret ((-1), d1.2.1, d1.2.2.1, d1.2.2.2.1, d1.2.2.2.2.1, ()))
   else
   (z2x fuel (d1.2.2.2.1, (d1.2.2.2.2.1, (d1.2.1, d1.2.2.1))) d1.1).bind fun r2 =>
   if decide (r2 < 0) = true then
   some (.ret (d1.1, d1.2.1, d1.2.2.1, d1.2.2.2.1, d1.2.2.2.2.1, ()))
   else
   if (0 : Int) ≤ r2 then
   if r2 < d1.2.2.2.1.length then
   if (0 : Int) ≤ d1.1 then
   if d1.1 < (d1.2.2.2.1.getD r2.toNat []).length then
   if (0 : Int) ≤ r2 then
   if r2 < d1.2.2.2.1.length then
   match z0k m r2 ((d1.2.2.2.1.getD r2.toNat []).length : Int) 0 d1.2.1 d1.2.2.1 (((d1.2.2.2.1.getD r2.toNat []).getD d1.1.toNat (false, ([], []))).1) ((((d1.2.2.2.1.getD r2.toNat []).getD d1.1.toNat (false, ([], []))).2).1) ((((d1.2.2.2.1.getD r2.toNat []).getD d1.1.toNat (false, ([], []))).2).2) d1.2.2.2.1 d1.2.2.2.2.1 with
   | none => none
   | some (.exit d3) =>
    match z07 m r2 d1.1 (d3.2.2.2.2.2.1.length : Int) 0 d3.1 d3.2.1 d3.2.2.2.2.2.1 d3.2.2.2.2.2.2.1 with
    | none => none
    | some (.exit d4) =>
     if (0 : Int) ≤ r2 then
     if r2 < d4.2.2.2.1.length then
     z10 m s1 d4.1 d4.2.1 d4.2.2.1 (d4.2.2.2.1.set r2.toNat d1.1)
     else none
     else none
    | some (.ret d4) =>
     none
   | some (.ret d3) =>
    none
   else none
   else none
   else none
   else none
   else none
   else none
  | some (.ret d1) =>
   none
def l_simplex_table_run__simplex_Solve_1L : LSpec := { h := l_simplex_table_run__simplex_Solve_1H, x := z4k, r := z4j, xid := 0, rt := true, pins := [4060, 4188, 420], f := fun k d => z10 k d.1 d.2.1 d.2.2.1 d.2.2.2.1 d.2.2.2.2.1 }
def z0j : Nat → Int → Int → Int → Int → List (Bool × ((List Int) × (List Int))) → List Int → List (List (Bool × ((List Int) × (List Int)))) → Option (LR z3v z3u)
 | 0, _, _, _, _, _, _, _ => none
 | m + 1, s15, s16, b4060_2, b4060_3, b4040, b420, b4188 =>
  if decide (s16 < s15) = true then
  if (0 : Int) ≤ s16 then
  if s16 < b420.length then
  if decide (b420.getD s16.toNat 0 < b4060_2) = true then
  if (0 : Int) ≤ s16 then
  if s16 < b4188.length then
  (z1k fuel (b4188, (b420, (b4060_2, b4060_3)))).bind fun r1 =>
  if (0 : Int) ≤ r1 then
  if r1 < (b4188.getD s16.toNat []).length then
  if (0 : Int) ≤ b420.getD s16.toNat 0 then
  if b420.getD s16.toNat 0 < b4040.length then
  z0j m s15 (IntKind.i64.wrap (s16 + 1)) b4060_2 b4060_3 (b4040.set ((b420.getD s16.toNat 0).toNat) (((b4188.getD s16.toNat []).getD r1.toNat (false, ([], []))).1, (((b4188.getD s16.toNat []).getD r1.toNat (false, ([], []))).2))) b420 b4188
  else none
  else none
  else none
  else none
  else none
  else none
  else
  z0j m s15 (IntKind.i64.wrap (s16 + 1)) b4060_2 b4060_3 b4040 b420 b4188
  else none
  else none
  else
  some (.exit (b4040, b4060_2, b4060_3, b420, b4188, ()))
def l_simplex_table_solution__simplex_Solve_3L : LSpec := { h := l_simplex_table_solution__simplex_Solve_3H, x := z3v, r := z3u, xid := 0, rt := false, pins := [4060, 4040, 420, 4188], f := fun k d => z0j k d.1 d.2.1 d.2.2.1 d.2.2.2.1 d.2.2.2.2.1 d.2.2.2.2.2.1 d.2.2.2.2.2.2.1 }
def z1g : Nat → Int → Int → Int → Int → Int → List (Bool × ((List Int) × (List Int))) → List Int → List (List (Bool × ((List Int) × (List Int)))) → Option (LR zh0 zg9)
 | 0, _, _, _, _, _, _, _, _ => none
 | m + 1, s6, s131, s132, b4060_2, b4060_3, b464, b420, b4188 =>
  if decide (s132 < s131) = true then
  if (0 : Int) ≤ s132 then
  if s132 < b420.length then
  if decide (b420.getD s132.toNat 0 < b4060_2) = true then
  if (0 : Int) ≤ s132 then
  if s132 < b4188.length then
  if (0 : Int) ≤ s6 then
  if s6 < (b4188.getD s132.toNat []).length then
  (z8b fuel (((b4188.getD s132.toNat []).getD s6.toNat (false, ([], []))).1, (((b4188.getD s132.toNat []).getD s6.toNat (false, ([], []))).2))).bind fun r1 =>
  if (0 : Int) ≤ b420.getD s132.toNat 0 then
  if b420.getD s132.toNat 0 < b464.length then
  z1g m s6 s131 (IntKind.i64.wrap (s132 + 1)) b4060_2 b4060_3 (b464.set ((b420.getD s132.toNat 0).toNat) r1) b420 b4188
  else none
  else none
  else none
  else none
  else none
  else none
  else
  z1g m s6 s131 (IntKind.i64.wrap (s132 + 1)) b4060_2 b4060_3 b464 b420 b4188
  else none
  else none
  else
  some (.exit (b464, b4060_2, b4060_3, b420, b4188, ()))
def l_simplex_Solve_16L : LSpec := { h := l_simplex_Solve_16H, x := zh0, r := zg9, xid := 0, rt := false, pins := [4060, 464, 420, 4188], f := fun k d => z1g k d.1 d.2.1 d.2.2.1 d.2.2.2.1 d.2.2.2.2.1 d.2.2.2.2.2.1 d.2.2.2.2.2.2.1 d.2.2.2.2.2.2.2.1 }
def z0f : Nat → Int → Int → List (Bool × ((List Int) × (List Int))) → List (Bool × ((List Int) × (List Int))) → Option (LR z1z z1y)
 | 0, _, _, _, _ => none
 | m + 1, s23, s24, b8084, b4268 =>
  if decide (s24 < s23) = true then
  if (0 : Int) ≤ s24 then
  if s24 < b4268.length then
  (z8b fuel ((b4268.getD s24.toNat (false, ([], []))).1, ((b4268.getD s24.toNat (false, ([], []))).2))).bind fun r1 =>
  if (0 : Int) ≤ s24 then
  if s24 < b8084.length then
  z0f m s23 (IntKind.i64.wrap (s24 + 1)) (b8084.set s24.toNat r1) b4268
  else none
  else none
  else none
  else none
  else
  some (.exit (b8084, b4268, ()))
def l_simplex_table_goal__simplex_table_feasible__simplex_Solve_2L : LSpec := { h := l_simplex_table_goal__simplex_table_feasible__simplex_Solve_2H, x := z1z, r := z1y, xid := 0, rt := false, pins := [8084, 4268], f := fun k d => z0f k d.1 d.2.1 d.2.2.1 d.2.2.2.1 }
def z0d : Nat → Nat → Int → Int → Int → Int → Int → List (List (Bool × ((List Int) × (List Int)))) → Bool → List Int → List Int → List Int → Option (LR z1s z1r)
 | 0, _, _, _, _, _, _, _, _, _, _, _ => none
 | m + 1, s4, s7, s68, s69, b4060_2, b4060_3, b8188, b36_0, b36_1, b36_2, b420 =>
  if decide (s69 < s68) = true then
  if (0 : Int) ≤ s69 then
  if s69 < (b8188.getD s4 []).length then
  if (0 : Int) ≤ s7 then
  if s7 < b8188.length then
  if (0 : Int) ≤ s69 then
  if s69 < (b8188.getD s7.toNat []).length then
  (z36 fuel (b36_0, (b36_1, b36_2)) (((b8188.getD s7.toNat []).getD s69.toNat (false, ([], []))).1, (((b8188.getD s7.toNat []).getD s69.toNat (false, ([], []))).2))).bind fun r1 =>
  (z50 fuel (((b8188.getD s4 []).getD s69.toNat (false, ([], []))).1, (((b8188.getD s4 []).getD s69.toNat (false, ([], []))).2)) r1).bind fun r2 =>
  if (0 : Int) ≤ s69 then
  if s69 < (b8188.getD s4 []).length then
  z0d m s4 s7 s68 (IntKind.i64.wrap (s69 + 1)) b4060_2 b4060_3 (b8188.set s4 ((b8188.getD s4 []).set s69.toNat r2)) b36_0 b36_1 b36_2 b420
  else none
  else none
  else none
  else none
  else none
  else none
  else none
  else none
  else
  some (.exit (s4, b4060_2, b4060_3, b8188, b36_0, b36_1, b36_2, b420, ()))
def l_simplex_table_goal__simplex_table_feasible__simplex_Solve_13L : LSpec := { h := l_simplex_table_goal__simplex_table_feasible__simplex_Solve_13H, x := z1s, r := z1r, xid := 4, rt := false, pins := [4060, 8188, 36, 420], f := fun k d => z0d k d.1 d.2.1 d.2.2.1 d.2.2.2.1 d.2.2.2.2.1 d.2.2.2.2.2.1 d.2.2.2.2.2.2.1 d.2.2.2.2.2.2.2.1 d.2.2.2.2.2.2.2.2.1 d.2.2.2.2.2.2.2.2.2.1 d.2.2.2.2.2.2.2.2.2.2.1 }
def z09 : Nat → Nat → Int → Int → Int → Int → List (List (Bool × ((List Int) × (List Int)))) → List Int → Option (LR z21 z20)
 | 0, _, _, _, _, _, _, _ => none
 | m + 1, s4, s54, s55, b4060_2, b4060_3, b8188, b420 =>
  if decide (s55 < s54) = true then
  if (0 : Int) ≤ s55 then
  if s55 < b420.length then
  if (0 : Int) ≤ b420.getD s55.toNat 0 then
  if b420.getD s55.toNat 0 < (b8188.getD s4 []).length then
  (z1i fuel (((b8188.getD s4 []).getD ((b420.getD s55.toNat 0).toNat) (false, ([], []))).1, (((b8188.getD s4 []).getD ((b420.getD s55.toNat 0).toNat) (false, ([], []))).2))).bind fun r1 =>
  if (r1 == 0) = true then
  z09 m s4 s54 (IntKind.i64.wrap (s55 + 1)) b4060_2 b4060_3 b8188 b420
  else
  match z0d m s4 s55 ((b8188.getD s4 []).length : Int) 0 b4060_2 b4060_3 b8188 (((b8188.getD s4 []).getD ((b420.getD s55.toNat 0).toNat) (false, ([], []))).1) ((((b8188.getD s4 []).getD ((b420.getD s55.toNat 0).toNat) (false, ([], []))).2).1) ((((b8188.getD s4 []).getD ((b420.getD s55.toNat 0).toNat) (false, ([], []))).2).2) b420 with
  | none => none
  | some (.exit d2) =>
   z09 m d2.1 s54 (IntKind.i64.wrap (s55 + 1)) d2.2.1 d2.2.2.1 d2.2.2.2.1 d2.2.2.2.2.2.2.2.1
  | some (.ret d2) =>
   none
  else none
  else none
  else none
  else none
  else
  some (.exit (b4060_2, b4060_3, b8188, b420, ()))
def l_simplex_table_goal__simplex_table_feasible__simplex_Solve_8L : LSpec := { h := l_simplex_table_goal__simplex_table_feasible__simplex_Solve_8H, x := z21, r := z20, xid := 2, rt := false, pins := [4060, 8188, 420], f := fun k d => z09 k d.1 d.2.1 d.2.2.1 d.2.2.2.1 d.2.2.2.2.1 d.2.2.2.2.2.1 d.2.2.2.2.2.2.1 }
def z08 : Nat → Int → Int → Int → Int → Int → Bool → List Int → List Int → List (List (Bool × ((List Int) × (List Int)))) → List Int → Option (LR z1u z1t)
 | 0, _, _, _, _, _, _, _, _, _, _ => none
 | m + 1, s1, s28, s29, b4060_2, b4060_3, b8024_0, b8024_1, b8024_2, b8188, b420 =>
  if decide (s29 < s28) = true then
  if (0 : Int) ≤ s1 then
  if s1 < b8188.length then
  if (0 : Int) ≤ s1 then
  if s1 < b8188.length then
  if (0 : Int) ≤ s29 then
  if s29 < (b8188.getD s1.toNat []).length then
  (z5l fuel (((b8188.getD s1.toNat []).getD s29.toNat (false, ([], []))).1, (((b8188.getD s1.toNat []).getD s29.toNat (false, ([], []))).2)) (b8024_0, (b8024_1, b8024_2))).bind fun r1 =>
  if (0 : Int) ≤ s29 then
  if s29 < (b8188.getD s1.toNat []).length then
  z08 m s1 s28 (IntKind.i64.wrap (s29 + 1)) b4060_2 b4060_3 b8024_0 b8024_1 b8024_2 (b8188.set s1.toNat ((b8188.getD s1.toNat []).set s29.toNat r1)) b420
  else none
  else none
  else none
  else none
  else none
  else none
  else none
  else none
  else
  some (.exit (b4060_2, b4060_3, b8024_0, b8024_1, b8024_2, b8188, b420, ()))
def l_simplex_table_pivot__simplex_table_feasible__simplex_Solve_2L : LSpec := { h := l_simplex_table_pivot__simplex_table_feasible__simplex_Solve_2H, x := z1u, r := z1t, xid := 0, rt := false, pins := [4060, 8024, 8188, 420], f := fun k d => z08 k d.1 d.2.1 d.2.2.1 d.2.2.2.1 d.2.2.2.2.1 d.2.2.2.2.2.1 d.2.2.2.2.2.2.1 d.2.2.2.2.2.2.2.1 d.2.2.2.2.2.2.2.2.1 d.2.2.2.2.2.2.2.2.2.1 }
def z0a : Nat → Int → Int → Int → Int → Int → Int → Bool → List Int → List Int → List (List (Bool × ((List Int) × (List Int)))) → List Int → Option (LR z1q z1p)
 | 0, _, _, _, _, _, _, _, _, _, _, _ => none
 | m + 1, s1, s8, s87, s88, b4060_2, b4060_3, b36_0, b36_1, b36_2, b8188, b420 =>
  if decide (s88 < s87) = true then
  if (0 : Int) ≤ s8 then
  if s8 < b8188.length then
  if (0 : Int) ≤ s8 then
  if s8 < b8188.length then
  if (0 : Int) ≤ s88 then
  if s88 < (b8188.getD s8.toNat []).length then
  if (0 : Int) ≤ s1 then
  if s1 < b8188.length then
  if (0 : Int) ≤ s88 then
  if s88 < (b8188.getD s1.toNat []).length then
  (z36 fuel (b36_0, (b36_1, b36_2)) (((b8188.getD s1.toNat []).getD s88.toNat (false, ([], []))).1, (((b8188.getD s1.toNat []).getD s88.toNat (false, ([], []))).2))).bind fun r1 =>
  (z50 fuel (((b8188.getD s8.toNat []).getD s88.toNat (false, ([], []))).1, (((b8188.getD s8.toNat []).getD s88.toNat (false, ([], []))).2)) r1).bind fun r2 =>
  if (0 : Int) ≤ s88 then
  if s88 < (b8188.getD s8.toNat []).length then
  z0a m s1 s8 s87 (IntKind.i64.wrap (s88 + 1)) b4060_2 b4060_3 b36_0 b36_1 b36_2 (b8188.set s8.toNat ((b8188.getD s8.toNat []).set s88.toNat r2)) b420
  else none
  else none
  else none
  else none
  else none
  else none
  else none
  else none
  else none
  else none
  else none
  else none
  else
  some (.exit (b4060_2, b4060_3, b36_0, b36_1, b36_2, b8188, b420, ()))
def l_simplex_table_pivot__simplex_table_feasible__simplex_Solve_12L : LSpec := { h := l_simplex_table_pivot__simplex_table_feasible__simplex_Solve_12H, x := z1q, r := z1p, xid := 4, rt := false, pins := [4060, 36, 8188, 420], f := fun k d => z0a k d.1 d.2.1 d.2.2.1 d.2.2.2.1 d.2.2.2.2.1 d.2.2.2.2.2.1 d.2.2.2.2.2.2.1 d.2.2.2.2.2.2.2.1 d.2.2.2.2.2.2.2.2.1 d.2.2.2.2.2.2.2.2.2.1 d.2.2.2.2.2.2.2.2.2.2.1 }
def z04 : Nat → Int → Int → Int → Int → Int → Int → List (List (Bool × ((List Int) × (List Int)))) → List Int → Option (LR z1w z1v)
 | 0, _, _, _, _, _, _, _, _ => none
 | m + 1, s1, s2, s58, s59, b4060_2, b4060_3, b8188, b420 =>
  if decide (s59 < s58) = true then
  if (0 : Int) ≤ s59 then
  if s59 < b8188.length then
  if (0 : Int) ≤ s2 then
  if s2 < (b8188.getD s59.toNat []).length then
  if (s59 == s1) = false then
  (z1i fuel (((b8188.getD s59.toNat []).getD s2.toNat (false, ([], []))).1, (((b8188.getD s59.toNat []).getD s2.toNat (false, ([], []))).2))).bind fun r1 =>
  if (r1 == 0) = true then
  z04 m s1 s2 s58 (IntKind.i64.wrap (s59 + 1)) b4060_2 b4060_3 b8188 b420
  else
  if (0 : Int) ≤ s59 then
  if s59 < b8188.length then
  match z0a m s1 s59 ((b8188.getD s59.toNat []).length : Int) 0 b4060_2 b4060_3 (((b8188.getD s59.toNat []).getD s2.toNat (false, ([], []))).1) ((((b8188.getD s59.toNat []).getD s2.toNat (false, ([], []))).2).1) ((((b8188.getD s59.toNat []).getD s2.toNat (false, ([], []))).2).2) b8188 b420 with
  | none => none
  | some (.exit d2) =>
   z04 m s1 s2 s58 (IntKind.i64.wrap (s59 + 1)) d2.1 d2.2.1 d2.2.2.2.2.2.1 d2.2.2.2.2.2.2.1
  | some (.ret d2) =>
   none
  else none
  else none
  else
  z04 m s1 s2 s58 (IntKind.i64.wrap (s59 + 1)) b4060_2 b4060_3 b8188 b420
  else none
  else none
  else none
  else none
  else
  some (.exit (b4060_2, b4060_3, b8188, b420, ()))
def l_simplex_table_pivot__simplex_table_feasible__simplex_Solve_7L : LSpec := { h := l_simplex_table_pivot__simplex_table_feasible__simplex_Solve_7H, x := z1w, r := z1v, xid := 2, rt := false, pins := [4060, 8188, 420], f := fun k d => z04 k d.1 d.2.1 d.2.2.1 d.2.2.2.1 d.2.2.2.2.1 d.2.2.2.2.2.1 d.2.2.2.2.2.2.1 d.2.2.2.2.2.2.2.1 }
def z0g : Nat → Int → Int → Int → Int → List (List (Bool × ((List Int) × (List Int)))) → List Int → Option (LR z25 z24)
 | 0, _, _, _, _, _, _ => none
 | m + 1, s1, s5, b4060_2, b4060_3, b8188, b420 =>
  if decide (s5 < s1) = true then
  if (0 : Int) ≤ b4060_3 then
  if b4060_3 < b8188.length then
  if (0 : Int) ≤ s5 then
  if s5 < (b8188.getD b4060_3.toNat []).length then
  (z1i fuel (((b8188.getD b4060_3.toNat []).getD s5.toNat (false, ([], []))).1, (((b8188.getD b4060_3.toNat []).getD s5.toNat (false, ([], []))).2))).bind fun r1 =>
  if decide (r1 ≥ 0) = true then
  z0g m s1 (IntKind.i64.wrap (s5 + 1)) b4060_2 b4060_3 b8188 b420
  else
  some (.exit (s5, b4060_2, b4060_3, b8188, b420, ()))
  else none
  else none
  else none
  else none
  else
  some (.exit (s5, b4060_2, b4060_3, b8188, b420, ()))
def l_simplex_table_run__simplex_table_feasible__simplex_Solve_2L : LSpec := { h := l_simplex_table_run__simplex_table_feasible__simplex_Solve_2H, x := z25, r := z24, xid := 2, rt := false, pins := [4060, 8188, 420], f := fun k d => z0g k d.1 d.2.1 d.2.2.1 d.2.2.2.1 d.2.2.2.2.1 d.2.2.2.2.2.1 }
def z06 : Nat → Int → Int → Int → Int → Int → Bool → List Int → List Int → List (List (Bool × ((List Int) × (List Int)))) → List Int → Option (LR z19 z18)
 | 0, _, _, _, _, _, _, _, _, _, _ => none
 | m + 1, s1, s28, s29, b4060_2, b4060_3, b4024_0, b4024_1, b4024_2, b8188, b420 =>
  if decide (s29 < s28) = true then
  if (0 : Int) ≤ s1 then
  if s1 < b8188.length then
  if (0 : Int) ≤ s1 then
  if s1 < b8188.length then
  if (0 : Int) ≤ s29 then
  if s29 < (b8188.getD s1.toNat []).length then
  (z5l fuel (((b8188.getD s1.toNat []).getD s29.toNat (false, ([], []))).1, (((b8188.getD s1.toNat []).getD s29.toNat (false, ([], []))).2)) (b4024_0, (b4024_1, b4024_2))).bind fun r1 =>
  if (0 : Int) ≤ s29 then
  if s29 < (b8188.getD s1.toNat []).length then
  z06 m s1 s28 (IntKind.i64.wrap (s29 + 1)) b4060_2 b4060_3 b4024_0 b4024_1 b4024_2 (b8188.set s1.toNat ((b8188.getD s1.toNat []).set s29.toNat r1)) b420
  else none
  else none
  else none
  else none
  else none
  else none
  else none
  else none
  else
  some (.exit (b4060_2, b4060_3, b4024_0, b4024_1, b4024_2, b8188, b420, ()))
def l_simplex_table_pivot__simplex_table_run__simplex_table_feasible__simplex_Solve_2L : LSpec := { h := l_simplex_table_pivot__simplex_table_run__simplex_table_feasible__simplex_Solve_2H, x := z19, r := z18, xid := 0, rt := false, pins := [4060, 4024, 8188, 420], f := fun k d => z06 k d.1 d.2.1 d.2.2.1 d.2.2.2.1 d.2.2.2.2.1 d.2.2.2.2.2.1 d.2.2.2.2.2.2.1 d.2.2.2.2.2.2.2.1 d.2.2.2.2.2.2.2.2.1 d.2.2.2.2.2.2.2.2.2.1 }
def z05 : Nat → Int → Int → Int → Int → Int → Int → Bool → List Int → List Int → List (List (Bool × ((List Int) × (List Int)))) → List Int → Option (LR z16 z15)
 | 0, _, _, _, _, _, _, _, _, _, _, _ => none
 | m + 1, s1, s8, s87, s88, b4060_2, b4060_3, b36_0, b36_1, b36_2, b8188, b420 =>
  if decide (s88 < s87) = true then
  if (0 : Int) ≤ s8 then
  if s8 < b8188.length then
  if (0 : Int) ≤ s8 then
  if s8 < b8188.length then
  if (0 : Int) ≤ s88 then
  if s88 < (b8188.getD s8.toNat []).length then
  if (0 : Int) ≤ s1 then
  if s1 < b8188.length then
  if (0 : Int) ≤ s88 then
  if s88 < (b8188.getD s1.toNat []).length then
  (z36 fuel (b36_0, (b36_1, b36_2)) (((b8188.getD s1.toNat []).getD s88.toNat (false, ([], []))).1, (((b8188.getD s1.toNat []).getD s88.toNat (false, ([], []))).2))).bind fun r1 =>
  (z50 fuel (((b8188.getD s8.toNat []).getD s88.toNat (false, ([], []))).1, (((b8188.getD s8.toNat []).getD s88.toNat (false, ([], []))).2)) r1).bind fun r2 =>
  if (0 : Int) ≤ s88 then
  if s88 < (b8188.getD s8.toNat []).length then
  z05 m s1 s8 s87 (IntKind.i64.wrap (s88 + 1)) b4060_2 b4060_3 b36_0 b36_1 b36_2 (b8188.set s8.toNat ((b8188.getD s8.toNat []).set s88.toNat r2)) b420
  else none
  else none
  else none
  else none
  else none
  else none
  else none
  else none
  else none
  else none
  else none
  else none
  else
  some (.exit (b4060_2, b4060_3, b36_0, b36_1, b36_2, b8188, b420, ()))
def l_simplex_table_pivot__simplex_table_run__simplex_table_feasible__simplex_Solve_12L : LSpec := { h := l_simplex_table_pivot__simplex_table_run__simplex_table_feasible__simplex_Solve_12H, x := z16, r := z15, xid := 4, rt := false, pins := [4060, 36, 8188, 420], f := fun k d => z05 k d.1 d.2.1 d.2.2.1 d.2.2.2.1 d.2.2.2.2.1 d.2.2.2.2.2.1 d.2.2.2.2.2.2.1 d.2.2.2.2.2.2.2.1 d.2.2.2.2.2.2.2.2.1 d.2.2.2.2.2.2.2.2.2.1 d.2.2.2.2.2.2.2.2.2.2.1 }
def z02 : Nat → Int → Int → Int → Int → Int → Int → List (List (Bool × ((List Int) × (List Int)))) → List Int → Option (LR z1b z1a)
 | 0, _, _, _, _, _, _, _, _ => none
 | m + 1, s1, s2, s58, s59, b4060_2, b4060_3, b8188, b420 =>
  if decide (s59 < s58) = true then
  if (0 : Int) ≤ s59 then
  if s59 < b8188.length then
  if (0 : Int) ≤ s2 then
  if s2 < (b8188.getD s59.toNat []).length then
  if (s59 == s1) = false then
  (z1i fuel (((b8188.getD s59.toNat []).getD s2.toNat (false, ([], []))).1, (((b8188.getD s59.toNat []).getD s2.toNat (false, ([], []))).2))).bind fun r1 =>
  if (r1 == 0) = true then
  z02 m s1 s2 s58 (IntKind.i64.wrap (s59 + 1)) b4060_2 b4060_3 b8188 b420
  else
  if (0 : Int) ≤ s59 then
  if s59 < b8188.length then
  match z05 m s1 s59 ((b8188.getD s59.toNat []).length : Int) 0 b4060_2 b4060_3 (((b8188.getD s59.toNat []).getD s2.toNat (false, ([], []))).1) ((((b8188.getD s59.toNat []).getD s2.toNat (false, ([], []))).2).1) ((((b8188.getD s59.toNat []).getD s2.toNat (false, ([], []))).2).2) b8188 b420 with
  | none => none
  | some (.exit d2) =>
   z02 m s1 s2 s58 (IntKind.i64.wrap (s59 + 1)) d2.1 d2.2.1 d2.2.2.2.2.2.1 d2.2.2.2.2.2.2.1
  | some (.ret d2) =>
   none
  else none
  else none
  else
  z02 m s1 s2 s58 (IntKind.i64.wrap (s59 + 1)) b4060_2 b4060_3 b8188 b420
  else none
  else none
  else none
  else none
  else
  some (.exit (b4060_2, b4060_3, b8188, b420, ()))
def l_simplex_table_pivot__simplex_table_run__simplex_table_feasible__simplex_Solve_7L : LSpec := { h := l_simplex_table_pivot__simplex_table_run__simplex_table_feasible__simplex_Solve_7H, x := z1b, r := z1a, xid := 2, rt := false, pins := [4060, 8188, 420], f := fun k d => z02 k d.1 d.2.1 d.2.2.1 d.2.2.2.1 d.2.2.2.2.1 d.2.2.2.2.2.1 d.2.2.2.2.2.2.1 d.2.2.2.2.2.2.2.1 }
def z0m : Nat → Int → Int → Int → List (List (Bool × ((List Int) × (List Int)))) → List Int → Option (LR z23 z22)
 | 0, _, _, _, _, _ => none
 | m + 1, s1, b4060_2, b4060_3, b8188, b420 =>
  match z0g m s1 0 b4060_2 b4060_3 b8188 b420 with
  | none => none
  | some (.exit d1) =>
   if (d1.1 == s1) = true then
   some (.ret ((-1), d1.2.1, d1.2.2.1, d1.2.2.2.1, d1.2.2.2.2.1, ()))
   else
   (z2x fuel (d1.2.2.2.1, (d1.2.2.2.2.1, (d1.2.1, d1.2.2.1))) d1.1).bind fun r2 =>
   if decide (r2 < 0) = true then
   some (.ret (d1.1, d1.2.1, d1.2.2.1, d1.2.2.2.1, d1.2.2.2.2.1, ()))
   else
   if (0 : Int) ≤ r2 then
   if r2 < d1.2.2.2.1.length then
   if (0 : Int) ≤ d1.1 then
   if d1.1 < (d1.2.2.2.1.getD r2.toNat []).length then
   if (0 : Int) ≤ r2 then
   if r2 < d1.2.2.2.1.length then
   match z06 m r2 ((d1.2.2.2.1.getD r2.toNat []).length : Int) 0 d1.2.1 d1.2.2.1 (((d1.2.2.2.1.getD r2.toNat []).getD d1.1.toNat (false, ([], []))).1) ((((d1.2.2.2.1.getD r2.toNat []).getD d1.1.toNat (false, ([], []))).2).1) ((((d1.2.2.2.1.getD r2.toNat []).getD d1.1.toNat (false, ([], []))).2).2) d1.2.2.2.1 d1.2.2.2.2.1 with
   | none => none
   | some (.exit d3) =>
    match z02 m r2 d1.1 (d3.2.2.2.2.2.1.length : Int) 0 d3.1 d3.2.1 d3.2.2.2.2.2.1 d3.2.2.2.2.2.2.1 with
    | none => none
    | some (.exit d4) =>
     if (0 : Int) ≤ r2 then
     if r2 < d4.2.2.2.1.length then
     z0m m s1 d4.1 d4.2.1 d4.2.2.1 (d4.2.2.2.1.set r2.toNat d1.1)
     else none
     else none
    | some (.ret d4) =>
     none
   | some (.ret d3) =>
    none
   else none
   else none
   else none
   else none
   else none
   else none
  | some (.ret d1) =>
   none
def l_simplex_table_run__simplex_table_feasible__simplex_Solve_1L : LSpec := { h := l_simplex_table_run__simplex_table_feasible__simplex_Solve_1H, x := z23, r := z22, xid := 0, rt := true, pins := [4060, 8188, 420], f := fun k d => z0m k d.1 d.2.1 d.2.2.1 d.2.2.2.1 d.2.2.2.2.1 }
def z0y : Nat → Int → Int → Int → Int → Int → List (List (Bool × ((List Int) × (List Int)))) → List Int → Option (LR z3j z3i)
 | 0, _, _, _, _, _, _, _ => none
 | m + 1, s8, s112, s113, b4060_2, b4060_3, b8188, b420 =>
  if decide (s113 < s112) = true then
  if (0 : Int) ≤ s8 then
  if s8 < b8188.length then
  if (0 : Int) ≤ s113 then
  if s113 < (b8188.getD s8.toNat []).length then
  (z1i fuel (((b8188.getD s8.toNat []).getD s113.toNat (false, ([], []))).1, (((b8188.getD s8.toNat []).getD s113.toNat (false, ([], []))).2))).bind fun r1 =>
  if (r1 != 0) = true then
  if (0 : Int) ≤ s8 then
  if s8 < b8188.length then
  if (0 : Int) ≤ s113 then
  if s113 < (b8188.getD s8.toNat []).length then
  if (0 : Int) ≤ s8 then
  if s8 < b8188.length then
  match z08 m s8 ((b8188.getD s8.toNat []).length : Int) 0 b4060_2 b4060_3 (((b8188.getD s8.toNat []).getD s113.toNat (false, ([], []))).1) ((((b8188.getD s8.toNat []).getD s113.toNat (false, ([], []))).2).1) ((((b8188.getD s8.toNat []).getD s113.toNat (false, ([], []))).2).2) b8188 b420 with
  | none => none
  | some (.exit d2) =>
   match z04 m s8 s113 (d2.2.2.2.2.2.1.length : Int) 0 d2.1 d2.2.1 d2.2.2.2.2.2.1 d2.2.2.2.2.2.2.1 with
   | none => none
   | some (.exit d3) =>
    if (0 : Int) ≤ s8 then
    if s8 < d3.2.2.2.1.length then
    some (.exit (d3.1, d3.2.1, d3.2.2.1, d3.2.2.2.1.set s8.toNat s113, ()))
    else none
    else none
   | some (.ret d3) =>
    none
  | some (.ret d2) =>
   none
  else none
  else none
  else none
  else none
  else none
  else none
  else
  z0y m s8 s112 (IntKind.i64.wrap (s113 + 1)) b4060_2 b4060_3 b8188 b420
  else none
  else none
  else none
  else none
  else
  some (.exit (b4060_2, b4060_3, b8188, b420, ()))
def l_simplex_table_feasible__simplex_Solve_23L : LSpec := { h := l_simplex_table_feasible__simplex_Solve_23H, x := z3j, r := z3i, xid := 4, rt := false, pins := [4060, 8188, 420], f := fun k d => z0y k d.1 d.2.1 d.2.2.1 d.2.2.2.1 d.2.2.2.2.1 d.2.2.2.2.2.1 d.2.2.2.2.2.2.1 }
def z0q : Nat → Int → Int → Int → Int → Int → List Int → List (List (Bool × ((List Int) × (List Int)))) → Option (LR z3h z3g)
 | 0, _, _, _, _, _, _, _ => none
 | m + 1, s4, s103, s104, b4060_2, b4060_3, b420, b8188 =>
  if decide (s104 < s103) = true then
  if (0 : Int) ≤ s104 then
  if s104 < b420.length then
  if (b420.getD s104.toNat 0 != s4) = true then
  z0q m s4 s103 (IntKind.i64.wrap (s104 + 1)) b4060_2 b4060_3 b420 b8188
  else
  match z0y m s104 s4 0 b4060_2 b4060_3 b8188 b420 with
  | none => none
  | some (.exit d1) =>
   z0q m s4 s103 (IntKind.i64.wrap (s104 + 1)) d1.1 d1.2.1 d1.2.2.2.1 d1.2.2.1
  | some (.ret d1) =>
   none
  else none
  else none
  else
  some (.exit (b4060_2, b4060_3, b420, b8188, ()))
def l_simplex_table_feasible__simplex_Solve_19L : LSpec := { h := l_simplex_table_feasible__simplex_Solve_19H, x := z3h, r := z3g, xid := 2, rt := false, pins := [4060, 420, 8188], f := fun k d => z0q k d.1 d.2.1 d.2.2.1 d.2.2.2.1 d.2.2.2.2.1 d.2.2.2.2.2.1 d.2.2.2.2.2.2.1 }
def z0l : z2g := [([29, 9], [(4, l_simplex_start__simplex_Solve_4L)]), ([30, 9], [(3, l_simplex_table_feasible__simplex_Solve_3L), (19, l_simplex_table_feasible__simplex_Solve_19L), (23, l_simplex_table_feasible__simplex_Solve_23L)]), ([32, 9], [(2, l_simplex_table_goal__simplex_Solve_2L), (8, l_simplex_table_goal__simplex_Solve_8L), (13, l_simplex_table_goal__simplex_Solve_13L)]), ([34, 9], [(1, l_simplex_table_run__simplex_Solve_1L), (2, l_simplex_table_run__simplex_Solve_2L)]), ([62, 34, 9], [(2, l_simplex_table_pivot__simplex_table_run__simplex_Solve_2L), (7, l_simplex_table_pivot__simplex_table_run__simplex_Solve_7L), (12, l_simplex_table_pivot__simplex_table_run__simplex_Solve_12L)]), ([35, 9], [(3, l_simplex_table_solution__simplex_Solve_3L)]), ([9], [(16, l_simplex_Solve_16L)]), ([32, 30, 9], [(2, l_simplex_table_goal__simplex_table_feasible__simplex_Solve_2L), (8, l_simplex_table_goal__simplex_table_feasible__simplex_Solve_8L), (13, l_simplex_table_goal__simplex_table_feasible__simplex_Solve_13L)]), ([62, 30, 9], [(2, l_simplex_table_pivot__simplex_table_feasible__simplex_Solve_2L), (7, l_simplex_table_pivot__simplex_table_feasible__simplex_Solve_7L), (12, l_simplex_table_pivot__simplex_table_feasible__simplex_Solve_12L)]), ([34, 30, 9], [(1, l_simplex_table_run__simplex_table_feasible__simplex_Solve_1L), (2, l_simplex_table_run__simplex_table_feasible__simplex_Solve_2L)]), ([62, 34, 30, 9], [(2, l_simplex_table_pivot__simplex_table_run__simplex_table_feasible__simplex_Solve_2L), (7, l_simplex_table_pivot__simplex_table_run__simplex_table_feasible__simplex_Solve_7L), (12, l_simplex_table_pivot__simplex_table_run__simplex_table_feasible__simplex_Solve_12L)])]
def z44 (k : Nat) (a0 : (List (List ByteArray)) × ((List ByteArray) × (List ByteArray))) : Option ((Int × ((List ByteArray) × ((List ByteArray) × ((List ByteArray) × ByteArray)))) × Int) :=
 (z2t fuel a0).bind fun r1 =>
 if (r1 != 0) = true then
 some ((0, ([], ([], ([], ByteArray.empty)))), r1)
 else
 (z9h fuel a0.1).bind fun r2 =>
 (z2h fuel a0.2.1).bind fun r3 =>
 match z1n k (a0.1.length : Int) 0 (a0.2.2.length : Int) (a0.1.length : Int) r2 r3 [] [] with
 | none => none
 | some (.exit d4) =>
  match z0i k (-1) d4.2.1 0 d4.1 d4.2.1 d4.2.2.2.2.1 d4.2.2.2.2.2.1 with
  | none => none
  | some (.exit d5) =>
   if decide (d5.1 < 0) = true then
   (z2h fuel a0.2.2).bind fun r6 =>
   if (0 : Int) ≤ IntKind.i64.wrap ((IntKind.i64.wrap (d5.2.1 + d5.2.2.1)) + 2) then
   if IntKind.i64.wrap ((IntKind.i64.wrap (d5.2.1 + d5.2.2.1)) + 2) ≤ IntKind.i64.wrap ((IntKind.i64.wrap (d5.2.1 + d5.2.2.1)) + 2) then
   if (IntKind.i64.wrap ((IntKind.i64.wrap (d5.2.1 + d5.2.2.1)) + 2)) * 56 ≤ 281474976710656 then
   match z0t k (r6.length : Int) 0 (List.replicate ((IntKind.i64.wrap ((IntKind.i64.wrap (d5.2.1 + d5.2.2.1)) + 2)).toNat) ((false, ([], [])) : Bool × ((List Int) × (List Int)))) r6 with
   | none => none
   | some (.exit d7) =>
    if (0 : Int) ≤ d5.2.2.1 then
    if d5.2.2.1 ≤ d5.2.2.2.1.length then
    if ((d5.2.2.2.1.take d5.2.2.1.toNat).length + 1) * 24 ≤ 140737488355328 then
    match z0n k ((d5.2.2.2.1.take d5.2.2.1.toNat).length) (d5.2.2.2.2.1.length : Int) 0 d5.2.1 d5.2.2.1 ((d5.2.2.2.1.take d5.2.2.1.toNat) ++ [d7.1]) d5.2.2.2.2.1 with
    | none => none
    | some (.exit d8) =>
     match z10 k (IntKind.i64.wrap (d8.1 + d8.2.1)) d8.1 d8.2.1 d8.2.2.1 d8.2.2.2.1 with
     | none => none
     | some (.exit d9) =>
      none
     | some (.ret d9) =>
      if (0 : Int) ≤ d9.2.1 then
      if d9.2.1 ≤ d9.2.1 then
      if d9.2.1 * 56 ≤ 281474976710656 then
      match z0j k (d9.2.2.2.2.1.length : Int) 0 d9.2.1 d9.2.2.1 (List.replicate d9.2.1.toNat ((false, ([], [])) : Bool × ((List Int) × (List Int)))) d9.2.2.2.2.1 d9.2.2.2.1 with
      | none => none
      | some (.exit d10) =>
       if decide (d9.1 < 0) = true then
       if (0 : Int) ≤ d10.2.2.1 then
       if d10.2.2.1 < d10.2.2.2.2.1.length then
       if (0 : Int) ≤ IntKind.i64.wrap (d10.2.1 + d10.2.2.1) then
       if IntKind.i64.wrap (d10.2.1 + d10.2.2.1) ≤ (d10.2.2.2.2.1.getD d10.2.2.1.toNat []).length then
       if (0 : Int) ≤ d10.2.1 then
       if d10.2.1 ≤ IntKind.i64.wrap (d10.2.1 + d10.2.2.1) then
       if (0 : Int) ≤ d10.2.2.1 then
       if d10.2.2.1 < d10.2.2.2.2.1.length then
       (z1k fuel (d10.2.2.2.2.1, (d10.2.2.2.1, (d10.2.1, d10.2.2.1)))).bind fun r11 =>
       if (0 : Int) ≤ r11 then
       if r11 < (d10.2.2.2.2.1.getD d10.2.2.1.toNat []).length then
       (z12 fuel 0 d10.1 (((d10.2.2.2.2.1.getD d10.2.2.1.toNat []).take (IntKind.i64.wrap (d10.2.1 + d10.2.2.1)).toNat).drop d10.2.1.toNat) [] (((d10.2.2.2.2.1.getD d10.2.2.1.toNat []).getD r11.toNat (false, ([], []))).1, (((d10.2.2.2.2.1.getD d10.2.2.1.toNat []).getD r11.toNat (false, ([], []))).2))).bind fun r12 =>
       some (r12.1, r12.2)
       else none
       else none
       else none
       else none
       else none
       else none
       else none
       else none
       else none
       else none
       else
       if (0 : Int) ≤ d10.2.1 then
       if d10.2.1 ≤ d10.2.1 then
       if d10.2.1 * 56 ≤ 281474976710656 then
       if decide (d9.1 < d10.2.1) = true then
       (z6v fuel 1).bind fun r13 =>
       if (0 : Int) ≤ d9.1 then
       if d9.1 < (List.replicate d10.2.1.toNat ((false, ([], [])) : Bool × ((List Int) × (List Int)))).length then
       match z1g k d9.1 (d10.2.2.2.1.length : Int) 0 d10.2.1 d10.2.2.1 ((List.replicate d10.2.1.toNat ((false, ([], [])) : Bool × ((List Int) × (List Int)))).set d9.1.toNat r13) d10.2.2.2.1 d10.2.2.2.2.1 with
       | none => none
       | some (.exit d14) =>
        (z12 fuel 2 d10.1 [] d14.1 (false, ([], []))).bind fun r15 =>
        some (r15.1, r15.2)
       | some (.ret d14) =>
        none
       else none
       else none
       else
       match z1g k d9.1 (d10.2.2.2.1.length : Int) 0 d10.2.1 d10.2.2.1 (List.replicate d10.2.1.toNat ((false, ([], [])) : Bool × ((List Int) × (List Int)))) d10.2.2.2.1 d10.2.2.2.2.1 with
       | none => none
       | some (.exit d16) =>
        (z12 fuel 2 d10.1 [] d16.1 (false, ([], []))).bind fun r17 =>
        some (r17.1, r17.2)
       | some (.ret d16) =>
        none
       else none
       else none
       else none
      | some (.ret d10) =>
       none
      else none
      else none
      else none
    | some (.ret d8) =>
     none
    else none
    else none
    else none
   | some (.ret d7) =>
    none
   else none
   else none
   else none
   else
   if (0 : Int) ≤ IntKind.i64.wrap ((IntKind.i64.wrap (d4.1 + d4.2.1)) + 1) then
   if IntKind.i64.wrap ((IntKind.i64.wrap (d4.1 + d4.2.1)) + 1) ≤ IntKind.i64.wrap ((IntKind.i64.wrap (d4.1 + d4.2.1)) + 1) then
   if (IntKind.i64.wrap ((IntKind.i64.wrap (d4.1 + d4.2.1)) + 1)) * 56 ≤ 281474976710656 then
   (z6v fuel (-1)).bind fun r18 =>
   if (0 : Int) ≤ IntKind.i64.wrap (d4.1 + d4.2.1) then
   if IntKind.i64.wrap (d4.1 + d4.2.1) < (List.replicate ((IntKind.i64.wrap ((IntKind.i64.wrap (d4.1 + d4.2.1)) + 1)).toNat) ((false, ([], [])) : Bool × ((List Int) × (List Int)))).length then
   if (0 : Int) ≤ IntKind.i64.wrap ((IntKind.i64.wrap (d5.2.1 + d5.2.2.1)) + 2) then
   if IntKind.i64.wrap ((IntKind.i64.wrap (d5.2.1 + d5.2.2.1)) + 2) ≤ IntKind.i64.wrap ((IntKind.i64.wrap (d5.2.1 + d5.2.2.1)) + 2) then
   if (IntKind.i64.wrap ((IntKind.i64.wrap (d5.2.1 + d5.2.2.1)) + 2)) * 56 ≤ 281474976710656 then
   match z0f k (((List.replicate ((IntKind.i64.wrap ((IntKind.i64.wrap (d4.1 + d4.2.1)) + 1)).toNat) ((false, ([], [])) : Bool × ((List Int) × (List Int)))).set ((IntKind.i64.wrap (d4.1 + d4.2.1)).toNat) r18).length : Int) 0 (List.replicate ((IntKind.i64.wrap ((IntKind.i64.wrap (d5.2.1 + d5.2.2.1)) + 2)).toNat) ((false, ([], [])) : Bool × ((List Int) × (List Int)))) ((List.replicate ((IntKind.i64.wrap ((IntKind.i64.wrap (d4.1 + d4.2.1)) + 1)).toNat) ((false, ([], [])) : Bool × ((List Int) × (List Int)))).set ((IntKind.i64.wrap (d4.1 + d4.2.1)).toNat) r18) with
   | none => none
   | some (.exit d19) =>
    if (0 : Int) ≤ d5.2.2.1 then
    if d5.2.2.1 ≤ d5.2.2.2.1.length then
    if ((d5.2.2.2.1.take d5.2.2.1.toNat).length + 1) * 24 ≤ 140737488355328 then
    match z09 k ((d5.2.2.2.1.take d5.2.2.1.toNat).length) (d5.2.2.2.2.1.length : Int) 0 d5.2.1 d5.2.2.1 ((d5.2.2.2.1.take d5.2.2.1.toNat) ++ [d19.1]) d5.2.2.2.2.1 with
    | none => none
    | some (.exit d20) =>
     if (0 : Int) ≤ d5.1 then
     if d5.1 < d20.2.2.1.length then
     if (0 : Int) ≤ IntKind.i64.wrap (d4.1 + d4.2.1) then
     if IntKind.i64.wrap (d4.1 + d4.2.1) < (d20.2.2.1.getD d5.1.toNat []).length then
     if (0 : Int) ≤ d5.1 then
     if d5.1 < d20.2.2.1.length then
     match z08 k d5.1 ((d20.2.2.1.getD d5.1.toNat []).length : Int) 0 d20.1 d20.2.1 (((d20.2.2.1.getD d5.1.toNat []).getD ((IntKind.i64.wrap (d4.1 + d4.2.1)).toNat) (false, ([], []))).1) ((((d20.2.2.1.getD d5.1.toNat []).getD ((IntKind.i64.wrap (d4.1 + d4.2.1)).toNat) (false, ([], []))).2).1) ((((d20.2.2.1.getD d5.1.toNat []).getD ((IntKind.i64.wrap (d4.1 + d4.2.1)).toNat) (false, ([], []))).2).2) d20.2.2.1 d20.2.2.2.1 with
     | none => none
     | some (.exit d21) =>
      match z04 k d5.1 (IntKind.i64.wrap (d4.1 + d4.2.1)) (d21.2.2.2.2.2.1.length : Int) 0 d21.1 d21.2.1 d21.2.2.2.2.2.1 d21.2.2.2.2.2.2.1 with
      | none => none
      | some (.exit d22) =>
       if (0 : Int) ≤ d5.1 then
       if d5.1 < d22.2.2.2.1.length then
       match z0m k (IntKind.i64.wrap ((IntKind.i64.wrap (d4.1 + d4.2.1)) + 1)) d22.1 d22.2.1 d22.2.2.1 (d22.2.2.2.1.set d5.1.toNat (IntKind.i64.wrap (d4.1 + d4.2.1))) with
       | none => none
       | some (.exit d23) =>
        none
       | some (.ret d23) =>
        if (0 : Int) ≤ d23.2.2.1 then
        if d23.2.2.1 < d23.2.2.2.1.length then
        (z1k fuel (d23.2.2.2.1, (d23.2.2.2.2.1, (d23.2.1, d23.2.2.1)))).bind fun r24 =>
        if (0 : Int) ≤ r24 then
        if r24 < (d23.2.2.2.1.getD d23.2.2.1.toNat []).length then
        (z1i fuel (((d23.2.2.2.1.getD d23.2.2.1.toNat []).getD r24.toNat (false, ([], []))).1, (((d23.2.2.2.1.getD d23.2.2.1.toNat []).getD r24.toNat (false, ([], []))).2))).bind fun r25 =>
        if decide (r25 < 0) = true then
        if (0 : Int) ≤ d23.2.2.1 then
        if d23.2.2.1 < d23.2.2.2.1.length then
        if (0 : Int) ≤ IntKind.i64.wrap (d23.2.1 + d23.2.2.1) then
        if IntKind.i64.wrap (d23.2.1 + d23.2.2.1) ≤ (d23.2.2.2.1.getD d23.2.2.1.toNat []).length then
        if (0 : Int) ≤ d23.2.1 then
        if d23.2.1 ≤ IntKind.i64.wrap (d23.2.1 + d23.2.2.1) then
        (z12 fuel 1 [] (((d23.2.2.2.1.getD d23.2.2.1.toNat []).take (IntKind.i64.wrap (d23.2.1 + d23.2.2.1)).toNat).drop d23.2.1.toNat) [] (false, ([], []))).bind fun r26 =>
        some (r26.1, r26.2)
        else none
        else none
        else none
        else none
        else none
        else none
        else
        match z0q k (IntKind.i64.wrap (d4.1 + d4.2.1)) (d23.2.2.2.2.1.length : Int) 0 d23.2.1 d23.2.2.1 d23.2.2.2.2.1 d23.2.2.2.1 with
        | none => none
        | some (.exit d27) =>
         (z2h fuel a0.2.2).bind fun r28 =>
         if (0 : Int) ≤ IntKind.i64.wrap ((IntKind.i64.wrap (d27.1 + d27.2.1)) + 2) then
         if IntKind.i64.wrap ((IntKind.i64.wrap (d27.1 + d27.2.1)) + 2) ≤ IntKind.i64.wrap ((IntKind.i64.wrap (d27.1 + d27.2.1)) + 2) then
         if (IntKind.i64.wrap ((IntKind.i64.wrap (d27.1 + d27.2.1)) + 2)) * 56 ≤ 281474976710656 then
         match z0t k (r28.length : Int) 0 (List.replicate ((IntKind.i64.wrap ((IntKind.i64.wrap (d27.1 + d27.2.1)) + 2)).toNat) ((false, ([], [])) : Bool × ((List Int) × (List Int)))) r28 with
         | none => none
         | some (.exit d29) =>
          if (0 : Int) ≤ d27.2.1 then
          if d27.2.1 ≤ d27.2.2.2.1.length then
          if ((d27.2.2.2.1.take d27.2.1.toNat).length + 1) * 24 ≤ 140737488355328 then
          match z0n k ((d27.2.2.2.1.take d27.2.1.toNat).length) (d27.2.2.1.length : Int) 0 d27.1 d27.2.1 ((d27.2.2.2.1.take d27.2.1.toNat) ++ [d29.1]) d27.2.2.1 with
          | none => none
          | some (.exit d30) =>
           match z10 k (IntKind.i64.wrap (d30.1 + d30.2.1)) d30.1 d30.2.1 d30.2.2.1 d30.2.2.2.1 with
           | none => none
           | some (.exit d31) =>
            none
           | some (.ret d31) =>
            if (0 : Int) ≤ d31.2.1 then
            if d31.2.1 ≤ d31.2.1 then
            if d31.2.1 * 56 ≤ 281474976710656 then
            match z0j k (d31.2.2.2.2.1.length : Int) 0 d31.2.1 d31.2.2.1 (List.replicate d31.2.1.toNat ((false, ([], [])) : Bool × ((List Int) × (List Int)))) d31.2.2.2.2.1 d31.2.2.2.1 with
            | none => none
            | some (.exit d32) =>
             if decide (d31.1 < 0) = true then
             if (0 : Int) ≤ d32.2.2.1 then
             if d32.2.2.1 < d32.2.2.2.2.1.length then
             if (0 : Int) ≤ IntKind.i64.wrap (d32.2.1 + d32.2.2.1) then
             if IntKind.i64.wrap (d32.2.1 + d32.2.2.1) ≤ (d32.2.2.2.2.1.getD d32.2.2.1.toNat []).length then
             if (0 : Int) ≤ d32.2.1 then
             if d32.2.1 ≤ IntKind.i64.wrap (d32.2.1 + d32.2.2.1) then
             if (0 : Int) ≤ d32.2.2.1 then
             if d32.2.2.1 < d32.2.2.2.2.1.length then
             (z1k fuel (d32.2.2.2.2.1, (d32.2.2.2.1, (d32.2.1, d32.2.2.1)))).bind fun r33 =>
             if (0 : Int) ≤ r33 then
             if r33 < (d32.2.2.2.2.1.getD d32.2.2.1.toNat []).length then
             (z12 fuel 0 d32.1 (((d32.2.2.2.2.1.getD d32.2.2.1.toNat []).take (IntKind.i64.wrap (d32.2.1 + d32.2.2.1)).toNat).drop d32.2.1.toNat) [] (((d32.2.2.2.2.1.getD d32.2.2.1.toNat []).getD r33.toNat (false, ([], []))).1, (((d32.2.2.2.2.1.getD d32.2.2.1.toNat []).getD r33.toNat (false, ([], []))).2))).bind fun r34 =>
             some (r34.1, r34.2)
             else none
             else none
             else none
             else none
             else none
             else none
             else none
             else none
             else none
             else none
             else
             if (0 : Int) ≤ d32.2.1 then
             if d32.2.1 ≤ d32.2.1 then
             if d32.2.1 * 56 ≤ 281474976710656 then
             if decide (d31.1 < d32.2.1) = true then
             (z6v fuel 1).bind fun r35 =>
             if (0 : Int) ≤ d31.1 then
             if d31.1 < (List.replicate d32.2.1.toNat ((false, ([], [])) : Bool × ((List Int) × (List Int)))).length then
             match z1g k d31.1 (d32.2.2.2.1.length : Int) 0 d32.2.1 d32.2.2.1 ((List.replicate d32.2.1.toNat ((false, ([], [])) : Bool × ((List Int) × (List Int)))).set d31.1.toNat r35) d32.2.2.2.1 d32.2.2.2.2.1 with
             | none => none
             | some (.exit d36) =>
              (z12 fuel 2 d32.1 [] d36.1 (false, ([], []))).bind fun r37 =>
              some (r37.1, r37.2)
             | some (.ret d36) =>
              none
             else none
             else none
             else
             match z1g k d31.1 (d32.2.2.2.1.length : Int) 0 d32.2.1 d32.2.2.1 (List.replicate d32.2.1.toNat ((false, ([], [])) : Bool × ((List Int) × (List Int)))) d32.2.2.2.1 d32.2.2.2.2.1 with
             | none => none
             | some (.exit d38) =>
              (z12 fuel 2 d32.1 [] d38.1 (false, ([], []))).bind fun r39 =>
              some (r39.1, r39.2)
             | some (.ret d38) =>
              none
             else none
             else none
             else none
            | some (.ret d32) =>
             none
            else none
            else none
            else none
          | some (.ret d30) =>
           none
          else none
          else none
          else none
         | some (.ret d29) =>
          none
         else none
         else none
         else none
        | some (.ret d27) =>
         none
        else none
        else none
        else none
        else none
       else none
       else none
      | some (.ret d22) =>
       none
     | some (.ret d21) =>
      none
     else none
     else none
     else none
     else none
     else none
     else none
    | some (.ret d20) =>
     none
    else none
    else none
    else none
   | some (.ret d19) =>
    none
   else none
   else none
   else none
   else none
   else none
   else none
   else none
   else none
  | some (.ret d5) =>
   none
 | some (.ret d4) =>
  none
theorem z7w (m : Nat) (d : dens l_simplex_start__simplex_Solve_4H.tys) : l_simplex_start__simplex_Solve_4L.f (m + 1) d = round z0o z0l m [29, 9] 110 (z31 (z1h Tryd.f29) 0) l_simplex_start__simplex_Solve_4L (l_simplex_start__simplex_Solve_4L.f m) d := by kernel_rfl
theorem z5r (m : Nat) (d : dens l_simplex_table_feasible__simplex_Solve_3H.tys) : l_simplex_table_feasible__simplex_Solve_3L.f (m + 1) d = round z0o z0l m [30, 9] 134 (z31 (z1h Tryd.f30) 0) l_simplex_table_feasible__simplex_Solve_3L (l_simplex_table_feasible__simplex_Solve_3L.f m) d := by kernel_rfl
theorem z6c (m : Nat) (d : dens l_simplex_table_goal__simplex_Solve_2H.tys) : l_simplex_table_goal__simplex_Solve_2L.f (m + 1) d = round z0o z0l m [32, 9] 94 (z31 (z1h Tryd.f32) 0) l_simplex_table_goal__simplex_Solve_2L (l_simplex_table_goal__simplex_Solve_2L.f m) d := by kernel_rfl
theorem z68 (m : Nat) (d : dens l_simplex_table_goal__simplex_Solve_13H.tys) : l_simplex_table_goal__simplex_Solve_13L.f (m + 1) d = round z0o z0l m [32, 9] 94 (z31 (z1h Tryd.f32) 2) l_simplex_table_goal__simplex_Solve_13L (l_simplex_table_goal__simplex_Solve_13L.f m) d := by kernel_rfl
theorem z6d (m : Nat) (d : dens l_simplex_table_goal__simplex_Solve_8H.tys) : l_simplex_table_goal__simplex_Solve_8L.f (m + 1) d = round z0o z0l m [32, 9] 94 (z31 (z1h Tryd.f32) 1) l_simplex_table_goal__simplex_Solve_8L (l_simplex_table_goal__simplex_Solve_8L.f m) d := by kernel_rfl
theorem z6l (m : Nat) (d : dens l_simplex_table_run__simplex_Solve_2H.tys) : l_simplex_table_run__simplex_Solve_2L.f (m + 1) d = round z0o z0l m [34, 9] 42 (z31 (z1h Tryd.f34) 1) l_simplex_table_run__simplex_Solve_2L (l_simplex_table_run__simplex_Solve_2L.f m) d := by kernel_rfl
theorem z3n (m : Nat) (d : dens l_simplex_table_pivot__simplex_table_run__simplex_Solve_2H.tys) : l_simplex_table_pivot__simplex_table_run__simplex_Solve_2L.f (m + 1) d = round z0o z0l m [62, 34, 9] 132 (z31 (z1h Tryd.f62) 0) l_simplex_table_pivot__simplex_table_run__simplex_Solve_2L (l_simplex_table_pivot__simplex_table_run__simplex_Solve_2L.f m) d := by kernel_rfl
theorem z3k (m : Nat) (d : dens l_simplex_table_pivot__simplex_table_run__simplex_Solve_12H.tys) : l_simplex_table_pivot__simplex_table_run__simplex_Solve_12L.f (m + 1) d = round z0o z0l m [62, 34, 9] 132 (z31 (z1h Tryd.f62) 2) l_simplex_table_pivot__simplex_table_run__simplex_Solve_12L (l_simplex_table_pivot__simplex_table_run__simplex_Solve_12L.f m) d := by kernel_rfl
theorem z3o (m : Nat) (d : dens l_simplex_table_pivot__simplex_table_run__simplex_Solve_7H.tys) : l_simplex_table_pivot__simplex_table_run__simplex_Solve_7L.f (m + 1) d = round z0o z0l m [62, 34, 9] 132 (z31 (z1h Tryd.f62) 1) l_simplex_table_pivot__simplex_table_run__simplex_Solve_7L (l_simplex_table_pivot__simplex_table_run__simplex_Solve_7L.f m) d := by kernel_rfl
theorem z6k (m : Nat) (d : dens l_simplex_table_run__simplex_Solve_1H.tys) : l_simplex_table_run__simplex_Solve_1L.f (m + 1) d = round z0o z0l m [34, 9] 42 (z31 (z1h Tryd.f34) 0) l_simplex_table_run__simplex_Solve_1L (l_simplex_table_run__simplex_Solve_1L.f m) d := by kernel_rfl
theorem z5s (m : Nat) (d : dens l_simplex_table_solution__simplex_Solve_3H.tys) : l_simplex_table_solution__simplex_Solve_3L.f (m + 1) d = round z0o z0l m [35, 9] 43 (z31 (z1h Tryd.f35) 0) l_simplex_table_solution__simplex_Solve_3L (l_simplex_table_solution__simplex_Solve_3L.f m) d := by kernel_rfl
theorem zq7 (m : Nat) (d : dens l_simplex_Solve_16H.tys) : l_simplex_Solve_16L.f (m + 1) d = round z0o z0l m [9] 164 (z31 (z1h Tryd.f9) 0) l_simplex_Solve_16L (l_simplex_Solve_16L.f m) d := by kernel_rfl
theorem z3a (m : Nat) (d : dens l_simplex_table_goal__simplex_table_feasible__simplex_Solve_2H.tys) : l_simplex_table_goal__simplex_table_feasible__simplex_Solve_2L.f (m + 1) d = round z0o z0l m [32, 30, 9] 94 (z31 (z1h Tryd.f32) 0) l_simplex_table_goal__simplex_table_feasible__simplex_Solve_2L (l_simplex_table_goal__simplex_table_feasible__simplex_Solve_2L.f m) d := by kernel_rfl
theorem z37 (m : Nat) (d : dens l_simplex_table_goal__simplex_table_feasible__simplex_Solve_13H.tys) : l_simplex_table_goal__simplex_table_feasible__simplex_Solve_13L.f (m + 1) d = round z0o z0l m [32, 30, 9] 94 (z31 (z1h Tryd.f32) 2) l_simplex_table_goal__simplex_table_feasible__simplex_Solve_13L (l_simplex_table_goal__simplex_table_feasible__simplex_Solve_13L.f m) d := by kernel_rfl
theorem z3b (m : Nat) (d : dens l_simplex_table_goal__simplex_table_feasible__simplex_Solve_8H.tys) : l_simplex_table_goal__simplex_table_feasible__simplex_Solve_8L.f (m + 1) d = round z0o z0l m [32, 30, 9] 94 (z31 (z1h Tryd.f32) 1) l_simplex_table_goal__simplex_table_feasible__simplex_Solve_8L (l_simplex_table_goal__simplex_table_feasible__simplex_Solve_8L.f m) d := by kernel_rfl
theorem z38 (m : Nat) (d : dens l_simplex_table_pivot__simplex_table_feasible__simplex_Solve_2H.tys) : l_simplex_table_pivot__simplex_table_feasible__simplex_Solve_2L.f (m + 1) d = round z0o z0l m [62, 30, 9] 132 (z31 (z1h Tryd.f62) 0) l_simplex_table_pivot__simplex_table_feasible__simplex_Solve_2L (l_simplex_table_pivot__simplex_table_feasible__simplex_Solve_2L.f m) d := by kernel_rfl
theorem z35 (m : Nat) (d : dens l_simplex_table_pivot__simplex_table_feasible__simplex_Solve_12H.tys) : l_simplex_table_pivot__simplex_table_feasible__simplex_Solve_12L.f (m + 1) d = round z0o z0l m [62, 30, 9] 132 (z31 (z1h Tryd.f62) 2) l_simplex_table_pivot__simplex_table_feasible__simplex_Solve_12L (l_simplex_table_pivot__simplex_table_feasible__simplex_Solve_12L.f m) d := by kernel_rfl
theorem z39 (m : Nat) (d : dens l_simplex_table_pivot__simplex_table_feasible__simplex_Solve_7H.tys) : l_simplex_table_pivot__simplex_table_feasible__simplex_Solve_7L.f (m + 1) d = round z0o z0l m [62, 30, 9] 132 (z31 (z1h Tryd.f62) 1) l_simplex_table_pivot__simplex_table_feasible__simplex_Solve_7L (l_simplex_table_pivot__simplex_table_feasible__simplex_Solve_7L.f m) d := by kernel_rfl
theorem z3d (m : Nat) (d : dens l_simplex_table_run__simplex_table_feasible__simplex_Solve_2H.tys) : l_simplex_table_run__simplex_table_feasible__simplex_Solve_2L.f (m + 1) d = round z0o z0l m [34, 30, 9] 42 (z31 (z1h Tryd.f34) 1) l_simplex_table_run__simplex_table_feasible__simplex_Solve_2L (l_simplex_table_run__simplex_table_feasible__simplex_Solve_2L.f m) d := by kernel_rfl
theorem z2a (m : Nat) (d : dens l_simplex_table_pivot__simplex_table_run__simplex_table_feasible__simplex_Solve_2H.tys) : l_simplex_table_pivot__simplex_table_run__simplex_table_feasible__simplex_Solve_2L.f (m + 1) d = round z0o z0l m [62, 34, 30, 9] 132 (z31 (z1h Tryd.f62) 0) l_simplex_table_pivot__simplex_table_run__simplex_table_feasible__simplex_Solve_2L (l_simplex_table_pivot__simplex_table_run__simplex_table_feasible__simplex_Solve_2L.f m) d := by kernel_rfl
theorem z29 (m : Nat) (d : dens l_simplex_table_pivot__simplex_table_run__simplex_table_feasible__simplex_Solve_12H.tys) : l_simplex_table_pivot__simplex_table_run__simplex_table_feasible__simplex_Solve_12L.f (m + 1) d = round z0o z0l m [62, 34, 30, 9] 132 (z31 (z1h Tryd.f62) 2) l_simplex_table_pivot__simplex_table_run__simplex_table_feasible__simplex_Solve_12L (l_simplex_table_pivot__simplex_table_run__simplex_table_feasible__simplex_Solve_12L.f m) d := by kernel_rfl
theorem z2b (m : Nat) (d : dens l_simplex_table_pivot__simplex_table_run__simplex_table_feasible__simplex_Solve_7H.tys) : l_simplex_table_pivot__simplex_table_run__simplex_table_feasible__simplex_Solve_7L.f (m + 1) d = round z0o z0l m [62, 34, 30, 9] 132 (z31 (z1h Tryd.f62) 1) l_simplex_table_pivot__simplex_table_run__simplex_table_feasible__simplex_Solve_7L (l_simplex_table_pivot__simplex_table_run__simplex_table_feasible__simplex_Solve_7L.f m) d := by kernel_rfl
theorem z3c (m : Nat) (d : dens l_simplex_table_run__simplex_table_feasible__simplex_Solve_1H.tys) : l_simplex_table_run__simplex_table_feasible__simplex_Solve_1L.f (m + 1) d = round z0o z0l m [34, 30, 9] 42 (z31 (z1h Tryd.f34) 0) l_simplex_table_run__simplex_table_feasible__simplex_Solve_1L (l_simplex_table_run__simplex_table_feasible__simplex_Solve_1L.f m) d := by kernel_rfl
theorem z5q (m : Nat) (d : dens l_simplex_table_feasible__simplex_Solve_23H.tys) : l_simplex_table_feasible__simplex_Solve_23L.f (m + 1) d = round z0o z0l m [30, 9] 134 (z31 (z1h Tryd.f30) 2) l_simplex_table_feasible__simplex_Solve_23L (l_simplex_table_feasible__simplex_Solve_23L.f m) d := by kernel_rfl
theorem z5p (m : Nat) (d : dens l_simplex_table_feasible__simplex_Solve_19H.tys) : l_simplex_table_feasible__simplex_Solve_19L.f (m + 1) d = round z0o z0l m [30, 9] 134 (z31 (z1h Tryd.f30) 1) l_simplex_table_feasible__simplex_Solve_19L (l_simplex_table_feasible__simplex_Solve_19L.f m) d := by kernel_rfl
def zs1 (k : Nat) : Vm.Spec := { ps := [.pair (.slice (.slice .str)) (.pair (.slice .str) (.slice .str))], rs := [.imm (.pair (.int .i64) (.pair (.slice .str) (.pair (.slice .str) (.pair (.slice .str) .str)))), .imm (.int .i64)], f := fun x => z44 k x }
noncomputable def zf5 : Vm.Spec := zs1 fuel
theorem za9 : Vm.Spec.holds Tryd.prog 9 zf5 := z1d (E := z0o) (L := z0l) (fn := Tryd.f9) (Z := zs1) (z26 ok) (z0w (by exact ⟨⟨by kernel_rfl, z5b⟩, ⟨by kernel_rfl, zt8⟩, ⟨by kernel_rfl, z93⟩, ⟨by kernel_rfl, z7l⟩, ⟨by kernel_rfl, y7i⟩, ⟨by kernel_rfl, zm5⟩, ⟨by kernel_rfl, zm1⟩, ⟨by kernel_rfl, z9k⟩, ⟨by kernel_rfl, z3e⟩, ⟨by kernel_rfl, z7c⟩, ⟨by kernel_rfl, z9l⟩, ⟨by kernel_rfl, zc6⟩, ⟨by kernel_rfl, zm7⟩, trivial⟩)) z1f (zf8 (by exact ⟨by kernel_rfl, by kernel_rfl, by kernel_rfl, by kernel_rfl, by kernel_rfl, by kernel_rfl, by kernel_rfl, by kernel_rfl, by kernel_rfl, by kernel_rfl, by kernel_rfl, by kernel_rfl, trivial⟩)) (z5i (by exact ⟨(z32 [[9]] (by exact ⟨z0r (ls := [(4, l_simplex_start__simplex_Solve_4L)]) rfl rfl ⟨by kernel_rfl, fun _ => rfl, z7w, z0s (by kernel_rfl)⟩,  trivial⟩) rfl), (z32 [[9]] (by exact ⟨z0r (ls := [(3, l_simplex_table_feasible__simplex_Solve_3L), (19, l_simplex_table_feasible__simplex_Solve_19L), (23, l_simplex_table_feasible__simplex_Solve_23L)]) rfl rfl ⟨by kernel_rfl, fun _ => rfl, z5r, by kernel_rfl, fun _ => rfl, z5p, by kernel_rfl, fun _ => rfl, z5q, z0s (by kernel_rfl)⟩,  trivial⟩) rfl), (z32 [[9], [30, 9]] (by exact ⟨z0r (ls := [(2, l_simplex_table_goal__simplex_Solve_2L), (8, l_simplex_table_goal__simplex_Solve_8L), (13, l_simplex_table_goal__simplex_Solve_13L)]) rfl rfl ⟨by kernel_rfl, fun _ => rfl, z6c, by kernel_rfl, fun _ => rfl, z6d, by kernel_rfl, fun _ => rfl, z68, z0s (by kernel_rfl)⟩, z0r (ls := [(2, l_simplex_table_goal__simplex_table_feasible__simplex_Solve_2L), (8, l_simplex_table_goal__simplex_table_feasible__simplex_Solve_8L), (13, l_simplex_table_goal__simplex_table_feasible__simplex_Solve_13L)]) rfl rfl ⟨by kernel_rfl, fun _ => rfl, z3a, by kernel_rfl, fun _ => rfl, z3b, by kernel_rfl, fun _ => rfl, z37, z0s (by kernel_rfl)⟩,  trivial⟩) rfl), (z32 [[9], [30, 9]] (by exact ⟨z0r (ls := [(1, l_simplex_table_run__simplex_Solve_1L), (2, l_simplex_table_run__simplex_Solve_2L)]) rfl rfl ⟨by kernel_rfl, fun _ => rfl, z6k, by kernel_rfl, fun _ => rfl, z6l, z0s (by kernel_rfl)⟩, z0r (ls := [(1, l_simplex_table_run__simplex_table_feasible__simplex_Solve_1L), (2, l_simplex_table_run__simplex_table_feasible__simplex_Solve_2L)]) rfl rfl ⟨by kernel_rfl, fun _ => rfl, z3c, by kernel_rfl, fun _ => rfl, z3d, z0s (by kernel_rfl)⟩,  trivial⟩) rfl), (z32 [[9]] (by exact ⟨z0r (ls := [(3, l_simplex_table_solution__simplex_Solve_3L)]) rfl rfl ⟨by kernel_rfl, fun _ => rfl, z5s, z0s (by kernel_rfl)⟩,  trivial⟩) rfl), (z32 [[34, 9], [30, 9], [34, 30, 9]] (by exact ⟨z0r (ls := [(2, l_simplex_table_pivot__simplex_table_run__simplex_Solve_2L), (7, l_simplex_table_pivot__simplex_table_run__simplex_Solve_7L), (12, l_simplex_table_pivot__simplex_table_run__simplex_Solve_12L)]) rfl rfl ⟨by kernel_rfl, fun _ => rfl, z3n, by kernel_rfl, fun _ => rfl, z3o, by kernel_rfl, fun _ => rfl, z3k, z0s (by kernel_rfl)⟩, z0r (ls := [(2, l_simplex_table_pivot__simplex_table_feasible__simplex_Solve_2L), (7, l_simplex_table_pivot__simplex_table_feasible__simplex_Solve_7L), (12, l_simplex_table_pivot__simplex_table_feasible__simplex_Solve_12L)]) rfl rfl ⟨by kernel_rfl, fun _ => rfl, z38, by kernel_rfl, fun _ => rfl, z39, by kernel_rfl, fun _ => rfl, z35, z0s (by kernel_rfl)⟩, z0r (ls := [(2, l_simplex_table_pivot__simplex_table_run__simplex_table_feasible__simplex_Solve_2L), (7, l_simplex_table_pivot__simplex_table_run__simplex_table_feasible__simplex_Solve_7L), (12, l_simplex_table_pivot__simplex_table_run__simplex_table_feasible__simplex_Solve_12L)]) rfl rfl ⟨by kernel_rfl, fun _ => rfl, z2a, by kernel_rfl, fun _ => rfl, z2b, by kernel_rfl, fun _ => rfl, z29, z0s (by kernel_rfl)⟩,  trivial⟩) rfl),  trivial⟩)) (by kernel_rfl) (by kernel_rfl) (z0r (ls := [(16, l_simplex_Solve_16L)]) rfl rfl ⟨by kernel_rfl, fun _ => rfl, zq7, z0s (by kernel_rfl)⟩) fun k x => by kernel_rfl
noncomputable def zu6 : Env := { te := te, spec := [(19, z78), (52, y1n)], body := [] }
def l_simplex_shape_2H : Ann := { slots := [(18, .one (.own 72 (.slice .str))), (19, .one (.val (.int .i64))), (20, .one (.val (.int .i64)))], objs := [(72, .buf (.slice .str))] }
def zj6 : Ann := { slots := [], objs := [(72, .buf (.slice .str))] }
def zj5 : Ann := { slots := [(4, .one (.val (.int .i64)))], objs := [(72, .buf (.slice .str))] }
def z4y : Nat → Int → Int → List (List ByteArray) → Option (LR zj6 zj5)
 | 0, _, _, _ => none
 | m + 1, s19, s20, b72 =>
  if decide (s20 < s19) = true then
  if (0 : Int) ≤ s20 then
  if s20 < b72.length then
  (z17 fuel (b72.getD s20.toNat [])).bind fun r1 =>
  if (r1 != 0) = true then
  some (.ret (r1, b72, ()))
  else
  z4y m s19 (IntKind.i64.wrap (s20 + 1)) b72
  else none
  else none
  else
  some (.exit (b72, ()))
def l_simplex_shape_2L : LSpec := { h := l_simplex_shape_2H, x := zj6, r := zj5, xid := 0, rt := true, pins := [72], f := fun k d => z4y k d.1 d.2.1 d.2.2.1 }
def zr6 : z2g := [([41], [(2, l_simplex_shape_2L)])]
def z45 (k : Nat) (a0 : (List (List ByteArray)) × ((List ByteArray) × (List ByteArray))) (a1 : Int × ((List ByteArray) × ((List ByteArray) × ((List ByteArray) × ByteArray)))) : Option (Int) :=
 match z4y k 3 0 [a1.2.1, a1.2.2.1, a1.2.2.2.1] with
 | none => none
 | some (.exit d1) =>
  if decide (a1.1 < 0) = false then
  if decide (a1.1 > 2) = true then
  some 1
  else
  if (0 : Int) ≤ a1.1 then
  if a1.1 < 3 then
  if ((a1.2.1.length : Int) != ([[(a0.2.2.length : Int), (a0.1.length : Int), 0], [0, (a0.1.length : Int), 0], [(a0.2.2.length : Int), 0, (a0.2.2.length : Int)]].getD a1.1.toNat (List.replicate 3 0)).getD 0 0) = false then
  if ((a1.2.2.1.length : Int) != ([[(a0.2.2.length : Int), (a0.1.length : Int), 0], [0, (a0.1.length : Int), 0], [(a0.2.2.length : Int), 0, (a0.2.2.length : Int)]].getD a1.1.toNat (List.replicate 3 0)).getD 1 0) = false then
  if ((a1.2.2.2.1.length : Int) != ([[(a0.2.2.length : Int), (a0.1.length : Int), 0], [0, (a0.1.length : Int), 0], [(a0.2.2.length : Int), 0, (a0.2.2.length : Int)]].getD a1.1.toNat (List.replicate 3 0)).getD 2 0) = true then
  some 3
  else
  if (a1.1 == 0) = true then
  (z8a fuel a1.2.2.2.2).bind fun r2 =>
  some r2
  else
  if (!(a1.2.2.2.2.toList == (⟨#[]⟩ : ByteArray).toList)) = true then
  some 3
  else
  some 0
  else
  some 3
  else
  some 3
  else none
  else none
  else
  some 1
 | some (.ret d1) =>
  some d1.1
theorem zu2 (m : Nat) (d : dens l_simplex_shape_2H.tys) : l_simplex_shape_2L.f (m + 1) d = round zu6 zr6 m [41] 88 (z31 (z1h Tryd.f41) 0) l_simplex_shape_2L (l_simplex_shape_2L.f m) d := by kernel_rfl
def zs4 (k : Nat) : Vm.Spec := { ps := [.pair (.slice (.slice .str)) (.pair (.slice .str) (.slice .str)), .pair (.int .i64) (.pair (.slice .str) (.pair (.slice .str) (.pair (.slice .str) .str)))], rs := [.imm (.int .i64)], f := fun x => z45 k x.1 x.2 }
noncomputable def zv5 : Vm.Spec := zs4 fuel
theorem zw4 : Vm.Spec.holds Tryd.prog 41 zv5 := z1d (E := zu6) (L := zr6) (fn := Tryd.f41) (Z := zs4) (z26 ok) (z0w (by exact ⟨⟨by kernel_rfl, z61⟩, ⟨by kernel_rfl, zm4⟩, trivial⟩)) z1f (z0e rfl) (z01 rfl) (by kernel_rfl) (by kernel_rfl) (z0r (ls := [(2, l_simplex_shape_2L)]) rfl rfl ⟨by kernel_rfl, fun _ => rfl, zu2, z0s (by kernel_rfl)⟩) fun k x => by kernel_rfl
noncomputable def zi0 : Env := { te := te, spec := [(49, z5y)], body := [] }
def l_simplex_negative_2H : Ann := { slots := [(5, .one (.val (.slice qT))), (6, .one (.val (.int .i64))), (7, .one (.val (.int .i64)))], objs := [] }
def zb6 : Ann := { slots := [], objs := [] }
def zb5 : Ann := { slots := [(2, .one (.val .bool))], objs := [] }
def z2p : Nat → List (Bool × ((List Int) × (List Int))) → Int → Int → Option (LR zb6 zb5)
 | 0, _, _, _ => none
 | m + 1, s5, s6, s7 =>
  if decide (s7 < s6) = true then
  if (0 : Int) ≤ s7 then
  if s7 < s5.length then
  (z1i fuel ((s5.getD s7.toNat (false, ([], []))).1, ((s5.getD s7.toNat (false, ([], []))).2))).bind fun r1 =>
  if decide (r1 < 0) = true then
  some (.ret (true, ()))
  else
  z2p m s5 s6 (IntKind.i64.wrap (s7 + 1))
  else none
  else none
  else
  some (.exit ())
def l_simplex_negative_2L : LSpec := { h := l_simplex_negative_2H, x := zb6, r := zb5, xid := 0, rt := true, pins := [], f := fun k d => z2p k d.1 d.2.1 d.2.2.1 }
def zf1 : z2g := [([43], [(2, l_simplex_negative_2L)])]
def z3f (k : Nat) (a0 : List (Bool × ((List Int) × (List Int)))) : Option (Bool) :=
 match z2p k a0 (a0.length : Int) 0 with
 | none => none
 | some (.exit d1) =>
  some false
 | some (.ret d1) =>
  some d1.1
theorem zk6 (m : Nat) (d : dens l_simplex_negative_2H.tys) : l_simplex_negative_2L.f (m + 1) d = round zi0 zf1 m [43] 15 (z31 (z1h Tryd.f43) 0) l_simplex_negative_2L (l_simplex_negative_2L.f m) d := by kernel_rfl
def zf6 (k : Nat) : Vm.Spec := { ps := [.slice qT], rs := [.imm .bool], f := fun x => z3f k x }
noncomputable def zi3 : Vm.Spec := zf6 fuel
theorem zm8 : Vm.Spec.holds Tryd.prog 43 zi3 := z1d (E := zi0) (L := zf1) (fn := Tryd.f43) (Z := zf6) (z26 ok) (z0w (by exact ⟨⟨by kernel_rfl, z3e⟩, trivial⟩)) z1f (z0e rfl) (z01 rfl) (by kernel_rfl) (by kernel_rfl) (z0r (ls := [(2, l_simplex_negative_2L)]) rfl rfl ⟨by kernel_rfl, fun _ => rfl, zk6, z0s (by kernel_rfl)⟩) fun k x => by kernel_rfl
noncomputable def zr4 : Env := { te := te, spec := [(55, zp3), (64, zp5)], body := [] }
def l_simplex_scalar_3H : Ann := { slots := [(1, .one (.val (.slice qT))), (5, .one (.fix (.pbox 20 0))), (8, .one (.val (.slice qT))), (9, .one (.val (.int .i64))), (10, .one (.val (.int .i64)))], objs := [(20, .box [.val .bool, .val (.slice (.int .u32)), .val (.slice (.int .u32))])] }
def zh2 : Ann := { slots := [(5, .one (.fix (.pbox 20 0)))], objs := [(20, .box [.val .bool, .val (.slice (.int .u32)), .val (.slice (.int .u32))])] }
def zh1 : Ann := { slots := [], objs := [] }
def z4a : Nat → List (Bool × ((List Int) × (List Int))) → List (Bool × ((List Int) × (List Int))) → Int → Int → Bool → List Int → List Int → Option (LR zh2 zh1)
 | 0, _, _, _, _, _, _, _ => none
 | m + 1, s1, s8, s9, s10, b20_0, b20_1, b20_2 =>
  if decide (s10 < s9) = true then
  if (0 : Int) ≤ s10 then
  if s10 < s8.length then
  if (0 : Int) ≤ s10 then
  if s10 < s1.length then
  (z36 fuel ((s8.getD s10.toNat (false, ([], []))).1, ((s8.getD s10.toNat (false, ([], []))).2)) ((s1.getD s10.toNat (false, ([], []))).1, ((s1.getD s10.toNat (false, ([], []))).2))).bind fun r1 =>
  (z6w fuel (b20_0, (b20_1, b20_2)) r1).bind fun r2 =>
  z4a m s1 s8 s9 (IntKind.i64.wrap (s10 + 1)) r2.1 r2.2.1 r2.2.2
  else none
  else none
  else none
  else none
  else
  some (.exit (b20_0, b20_1, b20_2, ()))
def l_simplex_scalar_3L : LSpec := { h := l_simplex_scalar_3H, x := zh2, r := zh1, xid := 0, rt := false, pins := [20], f := fun k d => z4a k d.1 d.2.1 d.2.2.1 d.2.2.2.1 d.2.2.2.2.1 d.2.2.2.2.2.1 d.2.2.2.2.2.2.1 }
def zl1 : z2g := [([47], [(3, l_simplex_scalar_3L)])]
def z3q (k : Nat) (a0 : List (Bool × ((List Int) × (List Int)))) (a1 : List (Bool × ((List Int) × (List Int)))) : Option (Bool × ((List Int) × (List Int))) :=
 match z4a k a1 a0 (a0.length : Int) 0 false [] [] with
 | none => none
 | some (.exit d1) =>
  some (d1.1, (d1.2.1, d1.2.2.1))
 | some (.ret d1) =>
  none
theorem zq8 (m : Nat) (d : dens l_simplex_scalar_3H.tys) : l_simplex_scalar_3L.f (m + 1) d = round zr4 zl1 m [47] 25 (z31 (z1h Tryd.f47) 0) l_simplex_scalar_3L (l_simplex_scalar_3L.f m) d := by kernel_rfl
def zl7 (k : Nat) : Vm.Spec := { ps := [.slice qT, .slice qT], rs := [.imm qT], f := fun x => z3q k x.1 x.2 }
noncomputable def zc4 : Vm.Spec := zl7 fuel
theorem z9f : Vm.Spec.holds Tryd.prog 47 zc4 := z1d (E := zr4) (L := zl1) (fn := Tryd.f47) (Z := zl7) (z26 ok) (z0w (by exact ⟨⟨by kernel_rfl, z9j⟩, ⟨by kernel_rfl, z9l⟩, trivial⟩)) z1f (z0e rfl) (z01 rfl) (by kernel_rfl) (by kernel_rfl) (z0r (ls := [(3, l_simplex_scalar_3L)]) rfl rfl ⟨by kernel_rfl, fun _ => rfl, zq8, z0s (by kernel_rfl)⟩) fun k x => by kernel_rfl
noncomputable def zu5 : Env := { te := te, spec := [(47, zc4), (49, z5y), (63, zf4)], body := [] }
def l_simplex_below_2H : Ann := { slots := [(1, .one (.val (.slice qT))), (2, .one (.val (.nsl qT))), (10, .one (.val (.slice (.slice qT)))), (11, .one (.val (.int .i64))), (12, .one (.val (.int .i64)))], objs := [] }
def zj4 : Ann := { slots := [], objs := [] }
def zj3 : Ann := { slots := [(6, .one (.val .bool))], objs := [] }
def z30 : Nat → List (Bool × ((List Int) × (List Int))) → Option (List (Bool × ((List Int) × (List Int)))) → List (List (Bool × ((List Int) × (List Int)))) → Int → Int → Option (LR zj4 zj3)
 | 0, _, _, _, _, _ => none
 | m + 1, s1, s2, s10, s11, s12 =>
  if decide (s12 < s11) = true then
  if (0 : Int) ≤ s12 then
  if s12 < s10.length then
  (z3q fuel (s10.getD s12.toNat []) s1).bind fun r1 =>
  if (!(s2.isNone)) = true then
  if (0 : Int) ≤ s12 then
  if s12 < (s2.getD []).length then
  (z50 fuel r1 (((s2.getD []).getD s12.toNat (false, ([], []))).1, (((s2.getD []).getD s12.toNat (false, ([], []))).2))).bind fun r2 =>
  (z1i fuel r2).bind fun r3 =>
  if decide (r3 > 0) = true then
  some (.ret (false, ()))
  else
  z30 m s1 s2 s10 s11 (IntKind.i64.wrap (s12 + 1))
  else none
  else none
  else
  (z1i fuel r1).bind fun r4 =>
  if decide (r4 > 0) = true then
  some (.ret (false, ()))
  else
  z30 m s1 s2 s10 s11 (IntKind.i64.wrap (s12 + 1))
  else none
  else none
  else
  some (.exit ())
def l_simplex_below_2L : LSpec := { h := l_simplex_below_2H, x := zj4, r := zj3, xid := 0, rt := true, pins := [], f := fun k d => z30 k d.1 d.2.1 d.2.2.1 d.2.2.2.1 d.2.2.2.2.1 }
def zr5 : z2g := [([45], [(2, l_simplex_below_2L)])]
def z5w (k : Nat) (a0 : List (List (Bool × ((List Int) × (List Int))))) (a1 : List (Bool × ((List Int) × (List Int)))) (a2 : Option (List (Bool × ((List Int) × (List Int))))) : Option (Bool) :=
 match z30 k a1 a2 a0 (a0.length : Int) 0 with
 | none => none
 | some (.exit d1) =>
  some true
 | some (.ret d1) =>
  some d1.1
theorem zu1 (m : Nat) (d : dens l_simplex_below_2H.tys) : l_simplex_below_2L.f (m + 1) d = round zu5 zr5 m [45] 32 (z31 (z1h Tryd.f45) 0) l_simplex_below_2L (l_simplex_below_2L.f m) d := by kernel_rfl
def zs3 (k : Nat) : Vm.Spec := { ps := [.slice (.slice qT), .slice qT, .nsl qT], rs := [.imm .bool], f := fun x => z5w k x.1 x.2.1 x.2.2 }
noncomputable def zv4 : Vm.Spec := zs3 fuel
theorem zb1 : Vm.Spec.holds Tryd.prog 45 zv4 := z1d (E := zu5) (L := zr5) (fn := Tryd.f45) (Z := zs3) (z26 ok) (z0w (by exact ⟨⟨by kernel_rfl, z9f⟩, ⟨by kernel_rfl, z3e⟩, ⟨by kernel_rfl, z7c⟩, trivial⟩)) z1f (z0e rfl) (z01 rfl) (by kernel_rfl) (by kernel_rfl) (z0r (ls := [(2, l_simplex_below_2L)]) rfl rfl ⟨by kernel_rfl, fun _ => rfl, zu1, z0s (by kernel_rfl)⟩) fun k x => by kernel_rfl
def z6b (x0 : List (List (Bool × ((List Int) × (List Int))))) (x1 : List (Bool × ((List Int) × (List Int)))) (x2 : List (Bool × ((List Int) × (List Int)))) : Option (Bool) := (z5w fuel x0 x1 (some x2)).bind fun r => if x2.isEmpty then (if z5w fuel x0 x1 none = some r then some r else none) else some r
noncomputable def zr8 : Vm.Spec := { ps := [.slice (.slice qT), .slice qT, .slice qT], rs := [.imm .bool], f := fun x => z6b x.1 x.2.1 x.2.2 }
theorem zt7 : Vm.Spec.holds Tryd.prog 45 zr8 := yr2 zb1
noncomputable def zf0 : Env := { te := te, spec := [(49, z5y), (55, zp3), (63, zf4), (64, zp5)], body := [] }
def l_simplex_above_6H : Ann := { slots := [(1, .one (.val (.slice qT))), (9, .one (.val (.int .i64))), (10, .one (.fix (.pbox 40 0))), (17, .one (.val (.slice (.slice qT)))), (18, .one (.val (.int .i64))), (19, .one (.val (.int .i64)))], objs := [(40, .box [.val .bool, .val (.slice (.int .u32)), .val (.slice (.int .u32))])] }
def zj2 : Ann := { slots := [(10, .one (.fix (.pbox 40 0)))], objs := [(40, .box [.val .bool, .val (.slice (.int .u32)), .val (.slice (.int .u32))])] }
def zj1 : Ann := { slots := [], objs := [] }
def l_simplex_above_2H : Ann := { slots := [(0, .one (.val (.slice (.slice qT)))), (1, .one (.val (.slice qT))), (2, .one (.val (.nsl qT))), (13, .one (.val (.int .i64))), (14, .one (.val (.int .i64)))], objs := [] }
def zj0 : Ann := { slots := [], objs := [] }
def zi9 : Ann := { slots := [(8, .one (.val .bool))], objs := [] }
def z4x : Nat → List (Bool × ((List Int) × (List Int))) → Int → List (List (Bool × ((List Int) × (List Int)))) → Int → Int → Bool → List Int → List Int → Option (LR zj2 zj1)
 | 0, _, _, _, _, _, _, _, _ => none
 | m + 1, s1, s9, s17, s18, s19, b40_0, b40_1, b40_2 =>
  if decide (s19 < s18) = true then
  if (0 : Int) ≤ s19 then
  if s19 < s17.length then
  if (0 : Int) ≤ s19 then
  if s19 < s1.length then
  if (0 : Int) ≤ s9 then
  if s9 < (s17.getD s19.toNat []).length then
  (z36 fuel ((s1.getD s19.toNat (false, ([], []))).1, ((s1.getD s19.toNat (false, ([], []))).2)) (((s17.getD s19.toNat []).getD s9.toNat (false, ([], []))).1, (((s17.getD s19.toNat []).getD s9.toNat (false, ([], []))).2))).bind fun r1 =>
  (z6w fuel (b40_0, (b40_1, b40_2)) r1).bind fun r2 =>
  z4x m s1 s9 s17 s18 (IntKind.i64.wrap (s19 + 1)) r2.1 r2.2.1 r2.2.2
  else none
  else none
  else none
  else none
  else none
  else none
  else
  some (.exit (b40_0, b40_1, b40_2, ()))
def l_simplex_above_6L : LSpec := { h := l_simplex_above_6H, x := zj2, r := zj1, xid := 2, rt := false, pins := [40], f := fun k d => z4x k d.1 d.2.1 d.2.2.1 d.2.2.2.1 d.2.2.2.2.1 d.2.2.2.2.2.1 d.2.2.2.2.2.2.1 d.2.2.2.2.2.2.2.1 }
def z2z : Nat → List (List (Bool × ((List Int) × (List Int)))) → List (Bool × ((List Int) × (List Int))) → Option (List (Bool × ((List Int) × (List Int)))) → Int → Int → Option (LR zj0 zi9)
 | 0, _, _, _, _, _ => none
 | m + 1, s0, s1, s2, s13, s14 =>
  if decide (s14 < s13) = true then
  match z4x m s1 s14 s0 (s0.length : Int) 0 false [] [] with
  | none => none
  | some (.exit d1) =>
   if (!(s2.isNone)) = true then
   if (0 : Int) ≤ s14 then
   if s14 < (s2.getD []).length then
   (z50 fuel (d1.1, (d1.2.1, d1.2.2.1)) (((s2.getD []).getD s14.toNat (false, ([], []))).1, (((s2.getD []).getD s14.toNat (false, ([], []))).2))).bind fun r2 =>
   (z1i fuel r2).bind fun r3 =>
   if decide (r3 < 0) = true then
   some (.ret (false, ()))
   else
   z2z m s0 s1 s2 s13 (IntKind.i64.wrap (s14 + 1))
   else none
   else none
   else
   (z1i fuel (d1.1, (d1.2.1, d1.2.2.1))).bind fun r4 =>
   if decide (r4 < 0) = true then
   some (.ret (false, ()))
   else
   z2z m s0 s1 s2 s13 (IntKind.i64.wrap (s14 + 1))
  | some (.ret d1) =>
   none
  else
  some (.exit ())
def l_simplex_above_2L : LSpec := { h := l_simplex_above_2H, x := zj0, r := zi9, xid := 0, rt := true, pins := [], f := fun k d => z2z k d.1 d.2.1 d.2.2.1 d.2.2.2.1 d.2.2.2.2.1 }
def zc1 : z2g := [([46], [(2, l_simplex_above_2L), (6, l_simplex_above_6L)])]
def z5v (k : Nat) (a0 : List (List (Bool × ((List Int) × (List Int))))) (a1 : List (Bool × ((List Int) × (List Int)))) (a2 : Option (List (Bool × ((List Int) × (List Int))))) (a3 : Int) : Option (Bool) :=
 match z2z k a0 a1 a2 a3 0 with
 | none => none
 | some (.exit d1) =>
  some true
 | some (.ret d1) =>
  some d1.1
theorem zu0 (m : Nat) (d : dens l_simplex_above_6H.tys) : l_simplex_above_6L.f (m + 1) d = round zf0 zc1 m [46] 48 (z31 (z1h Tryd.f46) 1) l_simplex_above_6L (l_simplex_above_6L.f m) d := by kernel_rfl
theorem zt9 (m : Nat) (d : dens l_simplex_above_2H.tys) : l_simplex_above_2L.f (m + 1) d = round zf0 zc1 m [46] 48 (z31 (z1h Tryd.f46) 0) l_simplex_above_2L (l_simplex_above_2L.f m) d := by kernel_rfl
def zs2 (k : Nat) : Vm.Spec := { ps := [.slice (.slice qT), .slice qT, .nsl qT, .int .i64], rs := [.imm .bool], f := fun x => z5v k x.1 x.2.1 x.2.2.1 x.2.2.2 }
noncomputable def zv3 : Vm.Spec := zs2 fuel
theorem zb0 : Vm.Spec.holds Tryd.prog 46 zv3 := z1d (E := zf0) (L := zc1) (fn := Tryd.f46) (Z := zs2) (z26 ok) (z0w (by exact ⟨⟨by kernel_rfl, z3e⟩, ⟨by kernel_rfl, z9j⟩, ⟨by kernel_rfl, z7c⟩, ⟨by kernel_rfl, z9l⟩, trivial⟩)) z1f (z0e rfl) (z01 rfl) (by kernel_rfl) (by kernel_rfl) (z0r (ls := [(2, l_simplex_above_2L), (6, l_simplex_above_6L)]) rfl rfl ⟨by kernel_rfl, fun _ => rfl, zt9, by kernel_rfl, fun _ => rfl, zu0, z0s (by kernel_rfl)⟩) fun k x => by kernel_rfl
def z86 (x0 : List (List (Bool × ((List Int) × (List Int))))) (x1 : List (Bool × ((List Int) × (List Int)))) (x2 : List (Bool × ((List Int) × (List Int)))) (x3 : Int) : Option (Bool) := (z5v fuel x0 x1 (some x2) x3).bind fun r => if x2.isEmpty then (if z5v fuel x0 x1 none x3 = some r then some r else none) else some r
noncomputable def zr7 : Vm.Spec := { ps := [.slice (.slice qT), .slice qT, .slice qT, .int .i64], rs := [.imm .bool], f := fun x => z86 x.1 x.2.1 x.2.2.1 x.2.2.2 }
theorem zt6 : Vm.Spec.holds Tryd.prog 46 zr7 := yr3 zb0
noncomputable def y62 : Env := { te := te, spec := [(10, z6q), (33, zi2), (41, zv5), (42, y1k), (43, zi3), (44, ya3), (45, zv4), (46, zv3), (47, zc4), (48, zp4), (49, z5y)], body := [], spec2 := [(45, zr8), (46, zr7)] }
def y44 : z2g := []
def z2v (k : Nat) (a0 : (List (List ByteArray)) × ((List ByteArray) × (List ByteArray))) (a1 : Int × ((List ByteArray) × ((List ByteArray) × ((List ByteArray) × ByteArray)))) : Option (Int) :=
 (z2t fuel a0).bind fun r1 =>
 if (r1 != 0) = true then
 some r1
 else
 (z45 fuel a0 a1).bind fun r2 =>
 if (r2 != 0) = true then
 some r2
 else
 (z9h fuel a0.1).bind fun r3 =>
 (z2h fuel a0.2.1).bind fun r4 =>
 (z2h fuel a0.2.2).bind fun r5 =>
 (z2h fuel a1.2.1).bind fun r6 =>
 (z2h fuel a1.2.2.1).bind fun r7 =>
 (z2h fuel a1.2.2.2.1).bind fun r8 =>
 (z3f fuel r6).bind fun r9 =>
 if (!r9) = true then
 (z3f fuel r7).bind fun r10 =>
 if (!r10) = true then
 (z3f fuel r8).bind fun r11 =>
 if (a1.1 == 0) = true then
 (zq4 fuel a1.2.2.2.2).bind fun r12 =>
 if (!r11) = true then
 (z6b r3 r6 r4).bind fun r13 =>
 if r13 = true then
 (z86 r3 r7 r5 (r5.length : Int)).bind fun r14 =>
 if r14 = true then
 (z3q fuel r5 r6).bind fun r15 =>
 (z6x fuel r15 r12).bind fun r16 =>
 if (r16 == 0) = true then
 (z3q fuel r4 r7).bind fun r17 =>
 (z6x fuel r17 r12).bind fun r18 =>
 if (!(r18 == 0)) = true then
 some 16
 else
 some 0
 else
 some 16
 else
 some 16
 else
 some 16
 else
 some 16
 else
 if (a1.1 == 1) = true then
 if (!r11) = true then
 (z5v fuel r3 r7 none (r5.length : Int)).bind fun r19 =>
 if r19 = true then
 (z3q fuel r4 r7).bind fun r20 =>
 (z1i fuel r20).bind fun r21 =>
 if (!(decide (r21 < 0))) = true then
 some 16
 else
 some 0
 else
 some 16
 else
 some 16
 else
 if (!r11) = true then
 (z6b r3 r6 r4).bind fun r22 =>
 if r22 = true then
 (z5w fuel r3 r8 none).bind fun r23 =>
 if r23 = true then
 (z3q fuel r5 r8).bind fun r24 =>
 (z1i fuel r24).bind fun r25 =>
 if (!(decide (r25 > 0))) = true then
 some 16
 else
 some 0
 else
 some 16
 else
 some 16
 else
 some 16
 else
 if (a1.1 == 0) = true then
 (zq4 fuel a1.2.2.2.2).bind fun r26 =>
 some 16
 else
 if (a1.1 == 1) = true then
 some 16
 else
 some 16
 else
 if (a1.1 == 0) = true then
 (zq4 fuel a1.2.2.2.2).bind fun r27 =>
 some 16
 else
 if (a1.1 == 1) = true then
 some 16
 else
 some 16
def zl5 (k : Nat) : Vm.Spec := { ps := [.pair (.slice (.slice .str)) (.pair (.slice .str) (.slice .str)), .pair (.int .i64) (.pair (.slice .str) (.pair (.slice .str) (.pair (.slice .str) .str)))], rs := [.imm (.int .i64)], f := fun x => z2v k x.1 x.2 }
noncomputable def zc3 : Vm.Spec := zl5 fuel
theorem z9e : Vm.Spec.holds Tryd.prog 11 zc3 := z1d (E := y62) (L := y44) (fn := Tryd.f11) (Z := zl5) (z26 ok) (z0w (by exact ⟨⟨by kernel_rfl, z5b⟩, ⟨by kernel_rfl, z93⟩, ⟨by kernel_rfl, zw4⟩, ⟨by kernel_rfl, zm1⟩, ⟨by kernel_rfl, zm8⟩, ⟨by kernel_rfl, y0u⟩, ⟨by kernel_rfl, zb1⟩, ⟨by kernel_rfl, zb0⟩, ⟨by kernel_rfl, z9f⟩, ⟨by kernel_rfl, z9k⟩, ⟨by kernel_rfl, z3e⟩, trivial⟩) (by exact ⟨⟨by kernel_rfl, zt7⟩, ⟨by kernel_rfl, zt6⟩, trivial⟩)) z1f (z0e rfl) (z01 rfl) (by kernel_rfl) (by kernel_rfl) (z0v rfl) fun k x => by kernel_rfl
noncomputable def zu3 : Env := { te := te, spec := [], body := [] }
def zt5 : z2g := []
def z5a (k : Nat) : Option ((List (List ByteArray)) × ((List ByteArray) × (List ByteArray))) :=
 some ([[(⟨#[49]⟩ : ByteArray), (⟨#[49]⟩ : ByteArray)]], ([(⟨#[52]⟩ : ByteArray)], [(⟨#[50]⟩ : ByteArray), (⟨#[49]⟩ : ByteArray)]))
def z9c (k : Nat) : Vm.Spec := { ps := [], rs := [.imm (.pair (.slice (.slice .str)) (.pair (.slice .str) (.slice .str)))], f := fun x => z5a k }
noncomputable def za3 : Vm.Spec := z9c fuel
theorem zg1 : Vm.Spec.holds Tryd.prog 24 za3 := z1d (E := zu3) (L := zt5) (fn := Tryd.f24) (Z := z9c) (z26 ok) (z0w (by exact trivial)) z1f (z0e rfl) (z01 rfl) (by kernel_rfl) (by kernel_rfl) (z0v rfl) fun k x => by kernel_rfl
noncomputable def ze9 : Env := { te := te, spec := [(9, zf5), (10, z6q), (11, zc3), (24, za3)], body := [] }
def zd6 : z2g := []
def z4z (k : Nat) : Option (Bool) :=
 (z5a fuel).bind fun r1 =>
 (z44 fuel r1).bind fun r2 =>
 if (r2.2 == 0) = true then
 if (r2.1.1 == 0) = true then
 if ((r2.1.2.2.2.2.toList == (⟨#[56]⟩ : ByteArray).toList)) = true then
 (z5a fuel).bind fun r3 =>
 (z2v fuel r3 r2.1).bind fun r4 =>
 if (r4 == 0) = true then
 (z5a fuel).bind fun r5 =>
 (z2v fuel r5 (r2.1.1, (r2.1.2.1, (r2.1.2.2.1, (r2.1.2.2.2.1, (⟨#[57]⟩ : ByteArray)))))).bind fun r6 =>
 if (r6 == 16) = true then
 (z2t fuel ([], ([(⟨#[49]⟩ : ByteArray)], []))).bind fun r7 =>
 some (r7 == 3)
 else
 some false
 else
 some false
 else
 some false
 else
 some false
 else
 some false
def z6m (k : Nat) : Vm.Spec := { ps := [], rs := [.imm .bool], f := fun x => z4z k }
noncomputable def z6p : Vm.Spec := z6m fuel
theorem z92 : Vm.Spec.holds Tryd.prog 7 z6p := z1d (E := ze9) (L := zd6) (fn := Tryd.f7) (Z := z6m) (z26 ok) (z0w (by exact ⟨⟨by kernel_rfl, za9⟩, ⟨by kernel_rfl, z5b⟩, ⟨by kernel_rfl, z9e⟩, ⟨by kernel_rfl, zg1⟩, trivial⟩)) z1f (z0e rfl) (z01 rfl) (by kernel_rfl) (by kernel_rfl) (z0v rfl) fun k x => by kernel_rfl
noncomputable def z57 : Env := { te := te, spec := [], body := [(25, Tryd.f25), (26, Tryd.f26), (27, Tryd.f27), (28, Tryd.f28), (60, Tryd.f60), (61, Tryd.f61)] }
def l_slices_IndexFunc_Rat__slices_ContainsFunc_Rat__gamehallkeep2_small_1__slices_IndexFunc_Vec__slices_ContainsFunc_Vec__gamehallkeep2_small_2H : Ann := { slots := [(0, .one (.val (.slice .str))), (1, .one (.fix (.func 28))), (7, .one (.val (.int .i64))), (8, .one (.val (.int .i64)))], objs := [] }
def z0c : Ann := { slots := [], objs := [] }
def z0b : Ann := { slots := [(4, .one (.val (.int .i64)))], objs := [] }
def l_slices_IndexFunc_Vec__slices_ContainsFunc_Vec__gamehallkeep2_small_2H : Ann := { slots := [(0, .one (.val (.slice (.slice .str)))), (1, .one (.fix (.clos 76))), (7, .one (.val (.int .i64))), (8, .one (.val (.int .i64)))], objs := [(76, .clos 26 [.fix (.pbox 8 0)]), (8, .box [.val (.int .i64)])] }
def z1m : Ann := { slots := [], objs := [(76, .clos 26 [.fix (.pbox 8 0)]), (8, .box [.val (.int .i64)])] }
def z1l : Ann := { slots := [(4, .one (.val (.int .i64)))], objs := [(76, .clos 26 [.fix (.pbox 8 0)]), (8, .box [.val (.int .i64)])] }
def l_gamehallkeep2_small_2H : Ann := { slots := [(2, .one (.fix (.pbox 8 0))), (7, .one (.val (.slice (.slice (.slice .str))))), (8, .one (.val (.int .i64))), (9, .one (.val (.int .i64)))], objs := [(8, .box [.val (.int .i64)])] }
def z8n : Ann := { slots := [], objs := [(8, .box [.val (.int .i64)])] }
def z8m : Ann := { slots := [(4, .one (.val .bool))], objs := [(8, .box [.val (.int .i64)])] }
def z00 : Nat → List ByteArray → Int → Int → Option (LR z0c z0b)
 | 0, _, _, _ => none
 | m + 1, s0, s7, s8 =>
  if decide (s8 < s7) = true then
  if (0 : Int) ≤ s8 then
  if s8 < s0.length then
  if decide (((s0.getD s8.toNat ByteArray.empty).size : Int) > 12) = true then
  some (.ret (s8, ()))
  else
  z00 m s0 s7 (IntKind.i64.wrap (s8 + 1))
  else none
  else none
  else
  some (.exit ())
def l_slices_IndexFunc_Rat__slices_ContainsFunc_Rat__gamehallkeep2_small_1__slices_IndexFunc_Vec__slices_ContainsFunc_Vec__gamehallkeep2_small_2L : LSpec := { h := l_slices_IndexFunc_Rat__slices_ContainsFunc_Rat__gamehallkeep2_small_1__slices_IndexFunc_Vec__slices_ContainsFunc_Vec__gamehallkeep2_small_2H, x := z0c, r := z0b, xid := 0, rt := true, pins := [], f := fun k d => z00 k d.1 d.2.1 d.2.2.1 }
def z03 : Nat → List (List ByteArray) → Int → Int → Int → Option (LR z1m z1l)
 | 0, _, _, _, _ => none
 | m + 1, s0, s7, s8, b8_0 =>
  if decide (s8 < s7) = true then
  if (0 : Int) ≤ s8 then
  if s8 < s0.length then
  if decide (((s0.getD s8.toNat []).length : Int) > b8_0) = false then
  match z00 m (s0.getD s8.toNat []) ((s0.getD s8.toNat []).length : Int) 0 with
  | none => none
  | some (.exit d1) =>
   z03 m s0 s7 (IntKind.i64.wrap (s8 + 1)) b8_0
  | some (.ret d1) =>
   if decide (d1.1 ≥ 0) = true then
   some (.ret (s8, b8_0, ()))
   else
   z03 m s0 s7 (IntKind.i64.wrap (s8 + 1)) b8_0
  else
  some (.ret (s8, b8_0, ()))
  else none
  else none
  else
  some (.exit (b8_0, ()))
def l_slices_IndexFunc_Vec__slices_ContainsFunc_Vec__gamehallkeep2_small_2L : LSpec := { h := l_slices_IndexFunc_Vec__slices_ContainsFunc_Vec__gamehallkeep2_small_2H, x := z1m, r := z1l, xid := 0, rt := true, pins := [76, 8], f := fun k d => z03 k d.1 d.2.1 d.2.2.1 d.2.2.2.1 }
def z2y : Nat → List (List (List ByteArray)) → Int → Int → Int → Option (LR z8n z8m)
 | 0, _, _, _, _ => none
 | m + 1, s7, s8, s9, b8_0 =>
  if decide (s9 < s8) = true then
  if (0 : Int) ≤ s9 then
  if s9 < s7.length then
  if decide (((s7.getD s9.toNat []).length : Int) > b8_0) = false then
  match z03 m (s7.getD s9.toNat []) ((s7.getD s9.toNat []).length : Int) 0 b8_0 with
  | none => none
  | some (.exit d1) =>
   z2y m s7 s8 (IntKind.i64.wrap (s9 + 1)) d1.1
  | some (.ret d1) =>
   if decide (d1.1 ≥ 0) = true then
   some (.ret (false, d1.2.1, ()))
   else
   z2y m s7 s8 (IntKind.i64.wrap (s9 + 1)) d1.2.1
  else
  some (.ret (false, b8_0, ()))
  else none
  else none
  else
  some (.exit (b8_0, ()))
def l_gamehallkeep2_small_2L : LSpec := { h := l_gamehallkeep2_small_2H, x := z8n, r := z8m, xid := 0, rt := true, pins := [8], f := fun k d => z2y k d.1 d.2.1 d.2.2.1 d.2.2.2.1 }
def z55 : z2g := [([61, 27, 26, 60, 25, 8], [(2, l_slices_IndexFunc_Rat__slices_ContainsFunc_Rat__gamehallkeep2_small_1__slices_IndexFunc_Vec__slices_ContainsFunc_Vec__gamehallkeep2_small_2L)]), ([60, 25, 8], [(2, l_slices_IndexFunc_Vec__slices_ContainsFunc_Vec__gamehallkeep2_small_2L)]), ([8], [(2, l_gamehallkeep2_small_2L)])]
def z43 (k : Nat) (a0 : Int) (a1 : List (List (List ByteArray))) : Option (Bool) :=
 match z2y k a1 (a1.length : Int) 0 a0 with
 | none => none
 | some (.exit d1) =>
  some true
 | some (.ret d1) =>
  some d1.1
theorem z0x (m : Nat) (d : dens l_slices_IndexFunc_Rat__slices_ContainsFunc_Rat__gamehallkeep2_small_1__slices_IndexFunc_Vec__slices_ContainsFunc_Vec__gamehallkeep2_small_2H.tys) : l_slices_IndexFunc_Rat__slices_ContainsFunc_Rat__gamehallkeep2_small_1__slices_IndexFunc_Vec__slices_ContainsFunc_Vec__gamehallkeep2_small_2L.f (m + 1) d = round z57 z55 m [61, 27, 26, 60, 25, 8] 19 (z31 (z1h Tryd.f61) 0) l_slices_IndexFunc_Rat__slices_ContainsFunc_Rat__gamehallkeep2_small_1__slices_IndexFunc_Vec__slices_ContainsFunc_Vec__gamehallkeep2_small_2L (l_slices_IndexFunc_Rat__slices_ContainsFunc_Rat__gamehallkeep2_small_1__slices_IndexFunc_Vec__slices_ContainsFunc_Vec__gamehallkeep2_small_2L.f m) d := by kernel_rfl
theorem z2u (m : Nat) (d : dens l_slices_IndexFunc_Vec__slices_ContainsFunc_Vec__gamehallkeep2_small_2H.tys) : l_slices_IndexFunc_Vec__slices_ContainsFunc_Vec__gamehallkeep2_small_2L.f (m + 1) d = round z57 z55 m [60, 25, 8] 19 (z31 (z1h Tryd.f60) 0) l_slices_IndexFunc_Vec__slices_ContainsFunc_Vec__gamehallkeep2_small_2L (l_slices_IndexFunc_Vec__slices_ContainsFunc_Vec__gamehallkeep2_small_2L.f m) d := by kernel_rfl
theorem ze0 (m : Nat) (d : dens l_gamehallkeep2_small_2H.tys) : l_gamehallkeep2_small_2L.f (m + 1) d = round z57 z55 m [8] 23 (z31 (z1h Tryd.f8) 0) l_gamehallkeep2_small_2L (l_gamehallkeep2_small_2L.f m) d := by kernel_rfl
def z9d (k : Nat) : Vm.Spec := { ps := [.int .i64, .slice (.slice (.slice .str))], rs := [.imm .bool], f := fun x => z43 k x.1 x.2 }
noncomputable def za4 : Vm.Spec := z9d fuel
theorem zg2 : Vm.Spec.holds Tryd.prog 8 za4 := z1d (E := z57) (L := z55) (fn := Tryd.f8) (Z := z9d) (z26 ok) (z0w (by exact trivial)) z1f (zf8 (by exact ⟨by kernel_rfl, by kernel_rfl, by kernel_rfl, by kernel_rfl, by kernel_rfl, by kernel_rfl, by kernel_rfl, by kernel_rfl, by kernel_rfl, by kernel_rfl, by kernel_rfl, by kernel_rfl, trivial⟩)) (z5i (by exact ⟨(fun _ => za1 (by kernel_rfl)), (fun _ => za1 (by kernel_rfl)), (fun _ => za1 (by kernel_rfl)), (fun _ => za1 (by kernel_rfl)), (z32 [[25, 8]] (by exact ⟨z0r (ls := [(2, l_slices_IndexFunc_Vec__slices_ContainsFunc_Vec__gamehallkeep2_small_2L)]) rfl rfl ⟨by kernel_rfl, fun _ => rfl, z2u, z0s (by kernel_rfl)⟩,  trivial⟩) rfl), (z32 [[27, 26, 60, 25, 8]] (by exact ⟨z0r (ls := [(2, l_slices_IndexFunc_Rat__slices_ContainsFunc_Rat__gamehallkeep2_small_1__slices_IndexFunc_Vec__slices_ContainsFunc_Vec__gamehallkeep2_small_2L)]) rfl rfl ⟨by kernel_rfl, fun _ => rfl, z0x, z0s (by kernel_rfl)⟩,  trivial⟩) rfl),  trivial⟩)) (by kernel_rfl) (by kernel_rfl) (z0r (ls := [(2, l_gamehallkeep2_small_2L)]) rfl rfl ⟨by kernel_rfl, fun _ => rfl, ze0, z0s (by kernel_rfl)⟩) fun k x => by kernel_rfl
noncomputable def zc0 : Env := { te := te, spec := [(7, z6p), (8, za4), (9, zf5), (10, z6q), (11, zc3)], body := [] }
def za2 : z2g := []
def z34 (k : Nat) (a0 : (List (List ByteArray)) × ((List ByteArray) × (List ByteArray))) : Option (Bool) :=
 (z4z fuel).bind fun r1 =>
 if (!r1) = true then
 some false
 else
 (z43 fuel 6 [a0.1, [a0.2.1, a0.2.2]]).bind fun r2 =>
 if (!r2) = true then
 some true
 else
 (z44 fuel a0).bind fun r3 =>
 if (r3.2 != 0) = true then
 (z2t fuel a0).bind fun r4 =>
 if (r3.2 == r4) = true then
 some (IntKind.i64.wrap ((IntKind.i64.wrap ((r3.1.2.1.length : Int) + (r3.1.2.2.1.length : Int))) + (r3.1.2.2.2.1.length : Int)) == 0)
 else
 some false
 else
 (z2v fuel a0 r3.1).bind fun r5 =>
 some (r5 == 0)
def z5z (k : Nat) : Vm.Spec := { ps := [.pair (.slice (.slice .str)) (.pair (.slice .str) (.slice .str))], rs := [.imm .bool], f := fun x => z34 k x }
noncomputable def zc2 : Vm.Spec := z5z fuel
theorem z89 : Vm.Spec.holds Tryd.prog 3 zc2 := z1d (E := zc0) (L := za2) (fn := Tryd.f3) (Z := z5z) (z26 ok) (z0w (by exact ⟨⟨by kernel_rfl, z92⟩, ⟨by kernel_rfl, zg2⟩, ⟨by kernel_rfl, za9⟩, ⟨by kernel_rfl, z5b⟩, ⟨by kernel_rfl, z9e⟩, trivial⟩)) z1f (z0e rfl) (z01 rfl) (by kernel_rfl) (by kernel_rfl) (z0v rfl) fun k x => by kernel_rfl
end Go.Proofs.YtcdcoeofhnfjdaaDoor
