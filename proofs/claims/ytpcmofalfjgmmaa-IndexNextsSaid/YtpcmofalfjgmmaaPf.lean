/- Pure functions, printed by a program of this session out of the program. -/
import Derived.Test.YtpcmofalfjgmmaaVmD
import Derived.Test.YtpcmofalfjgmmaaProg
set_option linter.unusedVariables false
namespace Go.Proofs.Ytpcmofalfjgmmaa
open Go Vm Go.Proofs
def te : TE := [(3, ⟨.int .i64, .sc, 8⟩),
  (4, ⟨.bool, .sc, 1⟩),
  (22, ⟨.slice (.int .i64), .slice 3, 24⟩),
  (24, ⟨.int .i64, .sc, 8⟩),
  (37, ⟨.slice (.int .i64), .slice 24, 24⟩)]
theorem ok : EOk Try.prog ⟨te, [], []⟩ := eok_of (by kernel_rfl)
/-! gamehall/index.Check -/
noncomputable def E15 : Env := { te := te, spec := [], body := [] }
def l15_4H : Ann := { slots := [(8, .one (.val (.slice (.int .i64)))), (9, .one (.val (.int .i64))), (10, .one (.val (.int .i64)))], objs := [] }
def l15_4X : Ann := { slots := [], objs := [] }
def l15_4R : Ann := { slots := [(2, .one (.val (.int .i64)))], objs := [] }
def l15_4 : Nat → List Int → Int → Int → Option (LR l15_4X l15_4R)
  | 0, _, _, _ => none
  | m + 1, s8, s9, s10 =>
    if decide (s10 < s9) = true then
      if 0 ≤ s10 then
        if s10 < s8.length then
          if decide (s8.getD s10.toNat 0 < 0) = false then
            if decide (s8.getD s10.toNat 0 > 6) = true then
              some (.ret (4, ()))
            else
              l15_4 m s8 s9 (IntKind.i64.wrap (s10 + 1))
          else
            some (.ret (4, ()))
        else none
      else none
    else
      some (.exit ())
def l15_4L : LSpec := { h := l15_4H, x := l15_4X, r := l15_4R, xid := 0, rt := true, pins := [], f := fun k d => l15_4 k d.1 d.2.1 d.2.2.1 }
def LL15 : Loops := [([15], [(4, l15_4L)])]
def f15 (k : Nat) (a0 : List Int) : Option (Int) :=
  if decide ((a0.length : Int) > 16) = true then
    some 2
  else
    match l15_4 k a0 (a0.length : Int) 0 with
    | none => none
    | some (.exit d1) =>
      some 0
    | some (.ret d1) =>
      some d1.1
theorem l15_4_step (m : Nat) (d : dens l15_4H.tys) : l15_4L.f (m + 1) d = round E15 LL15 m [15] 21 (loopN (bodyOf Try.f15) 0) l15_4L (l15_4L.f m) d := by kernel_rfl
theorem f15_run (k : Nat) (x : denL [.slice (.int .i64)]) : runFn E15 LL15 k 15 Try.f15 [.slice (.int .i64)] [.imm (.int .i64)] x = f15 k x := by kernel_rfl
noncomputable def S15 : Vm.Spec := { ps := [.slice (.int .i64)], rs := [.imm (.int .i64)], f := fun x => f15 fuel x }
theorem f15_holds : Vm.Spec.holds Try.prog 15 S15 := by
  have hB : BodiesOk Try.prog E15 := bodies_none rfl
  have hBS : BodiesStepped E15 LL15 := bodies_stepped_none rfl
  have hS : SpecsOk Try.prog E15 := specs_ok (by exact trivial)
  have hE : EOk Try.prog E15 := eok_te ok
  exact fn_sound (L := LL15) hE hS hB (draws_ok hE hS (by kernel_rfl)) hBS (fn := Try.f15) (by kernel_rfl) (c := bodyOf Try.f15) (by kernel_rfl) (stepped_of (ls := [(4, l15_4L)]) rfl rfl ⟨by kernel_rfl, fun _ => rfl, l15_4_step, stepsI_end (by kernel_rfl)⟩) fun x r h => ⟨fuel, (f15_run fuel x).trans h⟩

/-! gamehall/index.counts -/
noncomputable def E17 : Env := { te := te, spec := [], body := [] }
def l17_3H : Ann := { slots := [(3, .one (.own 24 (.int .i64))), (7, .one (.val (.slice (.int .i64)))), (8, .one (.val (.int .i64))), (9, .one (.val (.int .i64)))], objs := [(24, .buf (.int .i64))] }
def l17_3X : Ann := { slots := [(3, .one (.own 24 (.int .i64)))], objs := [(24, .buf (.int .i64))] }
def l17_3R : Ann := { slots := [], objs := [] }
def l17_3 : Nat → List Int → Int → Int → List Int → Option (LR l17_3X l17_3R)
  | 0, _, _, _, _ => none
  | m + 1, s7, s8, s9, b24 =>
    if decide (s9 < s8) = true then
      if 0 ≤ s9 then
        if s9 < s7.length then
          if 0 ≤ s7.getD s9.toNat 0 then
            if s7.getD s9.toNat 0 < b24.length then
              if 0 ≤ s7.getD s9.toNat 0 then
                if s7.getD s9.toNat 0 < b24.length then
                  l17_3 m s7 s8 (IntKind.i64.wrap (s9 + 1)) (b24.set ((s7.getD s9.toNat 0).toNat) (IntKind.i64.wrap ((b24.getD ((s7.getD s9.toNat 0).toNat) 0) + 1)))
                else none
              else none
            else none
          else none
        else none
      else none
    else
      some (.exit (b24, ()))
def l17_3L : LSpec := { h := l17_3H, x := l17_3X, r := l17_3R, xid := 0, rt := false, pins := [24], f := fun k d => l17_3 k d.1 d.2.1 d.2.2.1 d.2.2.2.1 }
def LL17 : Loops := [([17], [(3, l17_3L)])]
def f17 (k : Nat) (a0 : List Int) : Option (List Int) :=
  match l17_3 k a0 (a0.length : Int) 0 (List.replicate 7 0) with
  | none => none
  | some (.exit d1) =>
    some d1.1
  | some (.ret d1) =>
    none
theorem l17_3_step (m : Nat) (d : dens l17_3H.tys) : l17_3L.f (m + 1) d = round E17 LL17 m [17] 21 (loopN (bodyOf Try.f17) 0) l17_3L (l17_3L.f m) d := by kernel_rfl
theorem f17_run (k : Nat) (x : denL [.slice (.int .i64)]) : runFn E17 LL17 k 17 Try.f17 [.slice (.int .i64)] [.fresh (.int .i64)] x = f17 k x := by kernel_rfl
noncomputable def S17 : Vm.Spec := { ps := [.slice (.int .i64)], rs := [.fresh (.int .i64)], f := fun x => f17 fuel x }
theorem f17_holds : Vm.Spec.holds Try.prog 17 S17 := by
  have hB : BodiesOk Try.prog E17 := bodies_none rfl
  have hBS : BodiesStepped E17 LL17 := bodies_stepped_none rfl
  have hS : SpecsOk Try.prog E17 := specs_ok (by exact trivial)
  have hE : EOk Try.prog E17 := eok_te ok
  exact fn_sound (L := LL17) hE hS hB (draws_ok hE hS (by kernel_rfl)) hBS (fn := Try.f17) (by kernel_rfl) (c := bodyOf Try.f17) (by kernel_rfl) (stepped_of (ls := [(3, l17_3L)]) rfl rfl ⟨by kernel_rfl, fun _ => rfl, l17_3_step, stepsI_end (by kernel_rfl)⟩) fun x r h => ⟨fuel, (f17_run fuel x).trans h⟩

/-! gamehall/index.CheckCounts -/
noncomputable def E16 : Env := { te := te, spec := [], body := [] }
def l16_5H : Ann := { slots := [(3, .one (.val (.int .i64))), (9, .one (.val (.slice (.int .i64)))), (10, .one (.val (.int .i64))), (11, .one (.val (.int .i64)))], objs := [] }
def l16_5X : Ann := { slots := [(3, .one (.val (.int .i64)))], objs := [] }
def l16_5R : Ann := { slots := [(2, .one (.val (.int .i64)))], objs := [] }
def l16_5 : Nat → Int → List Int → Int → Int → Option (LR l16_5X l16_5R)
  | 0, _, _, _, _ => none
  | m + 1, s3, s9, s10, s11 =>
    if decide (s11 < s10) = true then
      if 0 ≤ s11 then
        if s11 < s9.length then
          if decide (s9.getD s11.toNat 0 < 0) = false then
            if decide (s9.getD s11.toNat 0 > 16) = true then
              some (.ret (4, ()))
            else
              l16_5 m (IntKind.i64.wrap (s3 + (s9.getD s11.toNat 0))) s9 s10 (IntKind.i64.wrap (s11 + 1))
          else
            some (.ret (4, ()))
        else none
      else none
    else
      some (.exit (s3, ()))
def l16_5L : LSpec := { h := l16_5H, x := l16_5X, r := l16_5R, xid := 0, rt := true, pins := [], f := fun k d => l16_5 k d.1 d.2.1 d.2.2.1 d.2.2.2.1 }
def LL16 : Loops := [([16], [(5, l16_5L)])]
def f16 (k : Nat) (a0 : List Int) : Option (Int) :=
  if ((a0.length : Int) != 7) = true then
    some 3
  else
    match l16_5 k 0 a0 (a0.length : Int) 0 with
    | none => none
    | some (.exit d1) =>
      if decide (d1.1 > 16) = true then
        some 2
      else
        some 0
    | some (.ret d1) =>
      some d1.1
theorem l16_5_step (m : Nat) (d : dens l16_5H.tys) : l16_5L.f (m + 1) d = round E16 LL16 m [16] 27 (loopN (bodyOf Try.f16) 0) l16_5L (l16_5L.f m) d := by kernel_rfl
theorem f16_run (k : Nat) (x : denL [.slice (.int .i64)]) : runFn E16 LL16 k 16 Try.f16 [.slice (.int .i64)] [.imm (.int .i64)] x = f16 k x := by kernel_rfl
noncomputable def S16 : Vm.Spec := { ps := [.slice (.int .i64)], rs := [.imm (.int .i64)], f := fun x => f16 fuel x }
theorem f16_holds : Vm.Spec.holds Try.prog 16 S16 := by
  have hB : BodiesOk Try.prog E16 := bodies_none rfl
  have hBS : BodiesStepped E16 LL16 := bodies_stepped_none rfl
  have hS : SpecsOk Try.prog E16 := specs_ok (by exact trivial)
  have hE : EOk Try.prog E16 := eok_te ok
  exact fn_sound (L := LL16) hE hS hB (draws_ok hE hS (by kernel_rfl)) hBS (fn := Try.f16) (by kernel_rfl) (c := bodyOf Try.f16) (by kernel_rfl) (stepped_of (ls := [(5, l16_5L)]) rfl rfl ⟨by kernel_rfl, fun _ => rfl, l16_5_step, stepsI_end (by kernel_rfl)⟩) fun x r h => ⟨fuel, (f16_run fuel x).trans h⟩

/-! gamehall/index.many -/
noncomputable def E18 : Env := { te := te, spec := [], body := [] }
def l18_6H : Ann := { slots := [(3, .one (.val (.int .i64))), (4, .one (.val (.int .i64))), (6, .one (.val (.int .i64))), (7, .one (.val (.int .i64)))], objs := [] }
def l18_6X : Ann := { slots := [(3, .one (.val (.int .i64))), (4, .one (.val (.int .i64)))], objs := [] }
def l18_6R : Ann := { slots := [], objs := [] }
def l18_3H : Ann := { slots := [(3, .one (.val (.int .i64))), (4, .one (.val (.int .i64))), (8, .one (.val (.slice (.int .i64)))), (9, .one (.val (.int .i64))), (10, .one (.val (.int .i64)))], objs := [] }
def l18_3X : Ann := { slots := [(3, .one (.val (.int .i64)))], objs := [] }
def l18_3R : Ann := { slots := [], objs := [] }
def l18_6 : Nat → Int → Int → Int → Int → Option (LR l18_6X l18_6R)
  | 0, _, _, _, _ => none
  | m + 1, s3, s4, s6, s7 =>
    if decide (s7 ≤ s6) = true then
      if s7 = 0 then
        none
      else
        l18_6 m (IntKind.i64.wrap ((IntKind.i64.wrap (s3 * (IntKind.i64.wrap (s4 + 1)))).tdiv s7)) (IntKind.i64.wrap (s4 + 1)) s6 (IntKind.i64.wrap (s7 + 1))
    else
      some (.exit (s3, s4, ()))
def l18_6L : LSpec := { h := l18_6H, x := l18_6X, r := l18_6R, xid := 2, rt := false, pins := [], f := fun k d => l18_6 k d.1 d.2.1 d.2.2.1 d.2.2.2.1 }
def l18_3 : Nat → Int → Int → List Int → Int → Int → Option (LR l18_3X l18_3R)
  | 0, _, _, _, _, _ => none
  | m + 1, s3, s4, s8, s9, s10 =>
    if decide (s10 < s9) = true then
      if 0 ≤ s10 then
        if s10 < s8.length then
          match l18_6 m s3 s4 (s8.getD s10.toNat 0) 1 with
          | none => none
          | some (.exit d1) =>
            l18_3 m d1.1 d1.2.1 s8 s9 (IntKind.i64.wrap (s10 + 1))
          | some (.ret d1) =>
            none
        else none
      else none
    else
      some (.exit (s3, ()))
def l18_3L : LSpec := { h := l18_3H, x := l18_3X, r := l18_3R, xid := 0, rt := false, pins := [], f := fun k d => l18_3 k d.1 d.2.1 d.2.2.1 d.2.2.2.1 d.2.2.2.2.1 }
def LL18 : Loops := [([18], [(3, l18_3L), (6, l18_6L)])]
def f18 (k : Nat) (a0 : List Int) : Option (Int) :=
  match l18_3 k 1 0 a0 (a0.length : Int) 0 with
  | none => none
  | some (.exit d1) =>
    some d1.1
  | some (.ret d1) =>
    none
theorem l18_6_step (m : Nat) (d : dens l18_6H.tys) : l18_6L.f (m + 1) d = round E18 LL18 m [18] 28 (loopN (bodyOf Try.f18) 1) l18_6L (l18_6L.f m) d := by kernel_rfl
theorem l18_3_step (m : Nat) (d : dens l18_3H.tys) : l18_3L.f (m + 1) d = round E18 LL18 m [18] 28 (loopN (bodyOf Try.f18) 0) l18_3L (l18_3L.f m) d := by kernel_rfl
theorem f18_run (k : Nat) (x : denL [.slice (.int .i64)]) : runFn E18 LL18 k 18 Try.f18 [.slice (.int .i64)] [.imm (.int .i64)] x = f18 k x := by kernel_rfl
noncomputable def S18 : Vm.Spec := { ps := [.slice (.int .i64)], rs := [.imm (.int .i64)], f := fun x => f18 fuel x }
theorem f18_holds : Vm.Spec.holds Try.prog 18 S18 := by
  have hB : BodiesOk Try.prog E18 := bodies_none rfl
  have hBS : BodiesStepped E18 LL18 := bodies_stepped_none rfl
  have hS : SpecsOk Try.prog E18 := specs_ok (by exact trivial)
  have hE : EOk Try.prog E18 := eok_te ok
  exact fn_sound (L := LL18) hE hS hB (draws_ok hE hS (by kernel_rfl)) hBS (fn := Try.f18) (by kernel_rfl) (c := bodyOf Try.f18) (by kernel_rfl) (stepped_of (ls := [(3, l18_3L), (6, l18_6L)]) rfl rfl ⟨by kernel_rfl, fun _ => rfl, l18_3_step, by kernel_rfl, fun _ => rfl, l18_6_step, stepsI_end (by kernel_rfl)⟩) fun x r h => ⟨fuel, (f18_run fuel x).trans h⟩

/-! gamehall/index.Counts -/
noncomputable def E8 : Env := { te := te, spec := [(15, S15), (17, S17)], body := [] }
def LL8 : Loops := []
def f8 (k : Nat) (a0 : List Int) : Option (List Int × Int) :=
  (f15 fuel a0).bind fun r1 =>
  if (r1 != 0) = true then
    some ([], r1)
  else
    (f17 fuel a0).bind fun r2 =>
    some (r2, 0)
theorem f8_run (k : Nat) (x : denL [.slice (.int .i64)]) : runFn E8 LL8 k 8 Try.f8 [.slice (.int .i64)] [.fresh (.int .i64), .imm (.int .i64)] x = f8 k x := by kernel_rfl
noncomputable def S8 : Vm.Spec := { ps := [.slice (.int .i64)], rs := [.fresh (.int .i64), .imm (.int .i64)], f := fun x => f8 fuel x }
theorem f8_holds : Vm.Spec.holds Try.prog 8 S8 := by
  have hB : BodiesOk Try.prog E8 := bodies_none rfl
  have hBS : BodiesStepped E8 LL8 := bodies_stepped_none rfl
  have hS : SpecsOk Try.prog E8 := specs_ok (by exact ⟨⟨by kernel_rfl, f15_holds⟩, ⟨by kernel_rfl, f17_holds⟩, trivial⟩)
  have hE : EOk Try.prog E8 := eok_te ok
  exact fn_sound (L := LL8) hE hS hB (draws_ok hE hS (by kernel_rfl)) hBS (fn := Try.f8) (by kernel_rfl) (c := bodyOf Try.f8) (by kernel_rfl) (stepped_none rfl) fun x r h => ⟨fuel, (f8_run fuel x).trans h⟩

/-! gamehall/index.Count -/
noncomputable def E9 : Env := { te := te, spec := [(16, S16), (18, S18)], body := [] }
def LL9 : Loops := []
def f9 (k : Nat) (a0 : List Int) : Option (Int × Int) :=
  (f16 fuel a0).bind fun r1 =>
  if (r1 != 0) = true then
    some (0, r1)
  else
    (f18 fuel a0).bind fun r2 =>
    some (r2, 0)
theorem f9_run (k : Nat) (x : denL [.slice (.int .i64)]) : runFn E9 LL9 k 9 Try.f9 [.slice (.int .i64)] [.imm (.int .i64), .imm (.int .i64)] x = f9 k x := by kernel_rfl
noncomputable def S9 : Vm.Spec := { ps := [.slice (.int .i64)], rs := [.imm (.int .i64), .imm (.int .i64)], f := fun x => f9 fuel x }
theorem f9_holds : Vm.Spec.holds Try.prog 9 S9 := by
  have hB : BodiesOk Try.prog E9 := bodies_none rfl
  have hBS : BodiesStepped E9 LL9 := bodies_stepped_none rfl
  have hS : SpecsOk Try.prog E9 := specs_ok (by exact ⟨⟨by kernel_rfl, f16_holds⟩, ⟨by kernel_rfl, f18_holds⟩, trivial⟩)
  have hE : EOk Try.prog E9 := eok_te ok
  exact fn_sound (L := LL9) hE hS hB (draws_ok hE hS (by kernel_rfl)) hBS (fn := Try.f9) (by kernel_rfl) (c := bodyOf Try.f9) (by kernel_rfl) (stepped_none rfl) fun x r h => ⟨fuel, (f9_run fuel x).trans h⟩

/-! gamehall/index.Rank -/
noncomputable def E7 : Env := { te := te, spec := [(15, S15), (17, S17), (18, S18)], body := [] }
def l7_10H : Ann := { slots := [(5, .one (.own 64 (.int .i64))), (6, .one (.val (.int .i64))), (23, .one (.val (.int .i64))), (24, .one (.val (.int .i64)))], objs := [(64, .buf (.int .i64))] }
def l7_10X : Ann := { slots := [(5, .one (.own 64 (.int .i64))), (6, .one (.val (.int .i64)))], objs := [(64, .buf (.int .i64))] }
def l7_10R : Ann := { slots := [], objs := [] }
def l7_7H : Ann := { slots := [(5, .one (.own 64 (.int .i64))), (6, .one (.val (.int .i64))), (17, .one (.val (.slice (.int .i64)))), (18, .one (.val (.int .i64))), (19, .one (.val (.int .i64)))], objs := [(64, .buf (.int .i64))] }
def l7_7X : Ann := { slots := [(6, .one (.val (.int .i64)))], objs := [(64, .buf (.int .i64))] }
def l7_7R : Ann := { slots := [], objs := [] }
def l7_10 : Nat → Int → Int → Int → List Int → Option (LR l7_10X l7_10R)
  | 0, _, _, _, _ => none
  | m + 1, s6, s23, s24, b64 =>
    if decide (s24 < s23) = true then
      if 0 ≤ s24 then
        if s24 < b64.length then
          if decide (b64.getD s24.toNat 0 > 0) = true then
            if 0 ≤ s24 then
              if s24 < b64.length then
                if 0 ≤ s24 then
                  if s24 < b64.length then
                    (f18 fuel (b64.set s24.toNat (IntKind.i64.wrap ((b64.getD s24.toNat 0) - 1)))).bind fun r1 =>
                    if 0 ≤ s24 then
                      if s24 < (b64.set s24.toNat (IntKind.i64.wrap ((b64.getD s24.toNat 0) - 1))).length then
                        if 0 ≤ s24 then
                          if s24 < (b64.set s24.toNat (IntKind.i64.wrap ((b64.getD s24.toNat 0) - 1))).length then
                            l7_10 m (IntKind.i64.wrap (s6 + r1)) s23 (IntKind.i64.wrap (s24 + 1)) ((b64.set s24.toNat (IntKind.i64.wrap ((b64.getD s24.toNat 0) - 1))).set s24.toNat (IntKind.i64.wrap (((b64.set s24.toNat (IntKind.i64.wrap ((b64.getD s24.toNat 0) - 1))).getD s24.toNat 0) + 1)))
                          else none
                        else none
                      else none
                    else none
                  else none
                else none
              else none
            else none
          else
            l7_10 m s6 s23 (IntKind.i64.wrap (s24 + 1)) b64
        else none
      else none
    else
      some (.exit (s6, b64, ()))
def l7_10L : LSpec := { h := l7_10H, x := l7_10X, r := l7_10R, xid := 2, rt := false, pins := [64], f := fun k d => l7_10 k d.1 d.2.1 d.2.2.1 d.2.2.2.1 }
def l7_7 : Nat → Int → List Int → Int → Int → List Int → Option (LR l7_7X l7_7R)
  | 0, _, _, _, _, _ => none
  | m + 1, s6, s17, s18, s19, b64 =>
    if decide (s19 < s18) = true then
      if 0 ≤ s19 then
        if s19 < s17.length then
          match l7_10 m s6 (s17.getD s19.toNat 0) 0 b64 with
          | none => none
          | some (.exit d1) =>
            if 0 ≤ s17.getD s19.toNat 0 then
              if s17.getD s19.toNat 0 < d1.2.1.length then
                if 0 ≤ s17.getD s19.toNat 0 then
                  if s17.getD s19.toNat 0 < d1.2.1.length then
                    l7_7 m d1.1 s17 s18 (IntKind.i64.wrap (s19 + 1)) (d1.2.1.set ((s17.getD s19.toNat 0).toNat) (IntKind.i64.wrap ((d1.2.1.getD ((s17.getD s19.toNat 0).toNat) 0) - 1)))
                  else none
                else none
              else none
            else none
          | some (.ret d1) =>
            none
        else none
      else none
    else
      some (.exit (s6, b64, ()))
def l7_7L : LSpec := { h := l7_7H, x := l7_7X, r := l7_7R, xid := 0, rt := false, pins := [64], f := fun k d => l7_7 k d.1 d.2.1 d.2.2.1 d.2.2.2.1 d.2.2.2.2.1 }
def LL7 : Loops := [([7], [(7, l7_7L), (10, l7_10L)])]
def f7 (k : Nat) (a0 : List Int) : Option (Int × Int) :=
  (f15 fuel a0).bind fun r1 =>
  if (r1 != 0) = true then
    some (0, r1)
  else
    (f17 fuel a0).bind fun r2 =>
    match l7_7 k 0 a0 (a0.length : Int) 0 r2 with
    | none => none
    | some (.exit d3) =>
      some (d3.1, 0)
    | some (.ret d3) =>
      none
theorem l7_10_step (m : Nat) (d : dens l7_10H.tys) : l7_10L.f (m + 1) d = round E7 LL7 m [7] 57 (loopN (bodyOf Try.f7) 1) l7_10L (l7_10L.f m) d := by kernel_rfl
theorem l7_7_step (m : Nat) (d : dens l7_7H.tys) : l7_7L.f (m + 1) d = round E7 LL7 m [7] 57 (loopN (bodyOf Try.f7) 0) l7_7L (l7_7L.f m) d := by kernel_rfl
theorem f7_run (k : Nat) (x : denL [.slice (.int .i64)]) : runFn E7 LL7 k 7 Try.f7 [.slice (.int .i64)] [.imm (.int .i64), .imm (.int .i64)] x = f7 k x := by kernel_rfl
noncomputable def S7 : Vm.Spec := { ps := [.slice (.int .i64)], rs := [.imm (.int .i64), .imm (.int .i64)], f := fun x => f7 fuel x }
theorem f7_holds : Vm.Spec.holds Try.prog 7 S7 := by
  have hB : BodiesOk Try.prog E7 := bodies_none rfl
  have hBS : BodiesStepped E7 LL7 := bodies_stepped_none rfl
  have hS : SpecsOk Try.prog E7 := specs_ok (by exact ⟨⟨by kernel_rfl, f15_holds⟩, ⟨by kernel_rfl, f17_holds⟩, ⟨by kernel_rfl, f18_holds⟩, trivial⟩)
  have hE : EOk Try.prog E7 := eok_te ok
  exact fn_sound (L := LL7) hE hS hB (draws_ok hE hS (by kernel_rfl)) hBS (fn := Try.f7) (by kernel_rfl) (c := bodyOf Try.f7) (by kernel_rfl) (stepped_of (ls := [(7, l7_7L), (10, l7_10L)]) rfl rfl ⟨by kernel_rfl, fun _ => rfl, l7_7_step, by kernel_rfl, fun _ => rfl, l7_10_step, stepsI_end (by kernel_rfl)⟩) fun x r h => ⟨fuel, (f7_run fuel x).trans h⟩

/-! slices.Clone[[]int,int] -/
noncomputable def E19 : Env := { te := te, spec := [], body := [] }
def LL19 : Loops := []
def f19 (k : Nat) (a0 : Option (List Int)) : Option (List Int) :=
  if a0.isNone = true then
    some []
  else
    if (0 + (a0.getD []).length) * 8 ≤ 140737488355328 then
      some ([] ++ (a0.getD []))
    else none
theorem f19_run (k : Nat) (x : denL [.nsl (.int .i64)]) : runFn E19 LL19 k 19 Try.f19 [.nsl (.int .i64)] [.fresh (.int .i64)] x = f19 k x := by kernel_rfl
noncomputable def S19 : Vm.Spec := { ps := [.nsl (.int .i64)], rs := [.fresh (.int .i64)], f := fun x => f19 fuel x }
theorem f19_holds : Vm.Spec.holds Try.prog 19 S19 := by
  have hB : BodiesOk Try.prog E19 := bodies_none rfl
  have hBS : BodiesStepped E19 LL19 := bodies_stepped_none rfl
  have hS : SpecsOk Try.prog E19 := specs_ok (by exact trivial)
  have hE : EOk Try.prog E19 := eok_te ok
  exact fn_sound (L := LL19) hE hS hB (draws_ok hE hS (by kernel_rfl)) hBS (fn := Try.f19) (by kernel_rfl) (c := bodyOf Try.f19) (by kernel_rfl) (stepped_none rfl) fun x r h => ⟨fuel, (f19_run fuel x).trans h⟩

def f19s (x : List Int) := f19 fuel (some x)
noncomputable def S19s : Vm.Spec := { ps := [.slice (.int .i64)], rs := [.fresh (.int .i64)], f := f19s }
theorem f19s_holds : Vm.Spec.holds Try.prog 19 S19s := holds_nsl f19_holds fun xs r h => ⟨h, fun e => by subst e; exact h⟩

/-! gamehall/index.Unrank -/
noncomputable def E10 : Env := { te := te, spec := [(16, S16), (18, S18), (19, S19s)], body := [] }
def l10_9H : Ann := { slots := [(8, .one (.val (.int .i64))), (29, .one (.val (.slice (.int .i64)))), (30, .one (.val (.int .i64))), (31, .one (.val (.int .i64)))], objs := [] }
def l10_9X : Ann := { slots := [(8, .one (.val (.int .i64)))], objs := [] }
def l10_9R : Ann := { slots := [], objs := [] }
def l10_17H : Ann := { slots := [(1, .one (.val (.int .i64))), (7, .one (.own 112 (.int .i64))), (11, .one (.own 300 (.int .i64))), (43, .one (.val (.int .i64))), (44, .one (.val (.int .i64)))], objs := [(112, .buf (.int .i64)), (300, .buf (.int .i64))] }
def l10_17X : Ann := { slots := [(1, .one (.val (.int .i64))), (7, .one (.own 112 (.int .i64))), (11, .one (.own 300 (.int .i64)))], objs := [(112, .buf (.int .i64)), (300, .buf (.int .i64))] }
def l10_17R : Ann := { slots := [], objs := [] }
def l10_15H : Ann := { slots := [(1, .one (.val (.int .i64))), (7, .one (.own 112 (.int .i64))), (11, .one (.own 300 (.int .i64))), (39, .one (.val (.int .i64))), (40, .one (.val (.int .i64)))], objs := [(112, .buf (.int .i64)), (300, .buf (.int .i64))] }
def l10_15X : Ann := { slots := [(11, .one (.own 300 (.int .i64)))], objs := [(300, .buf (.int .i64)), (112, .buf (.int .i64))] }
def l10_15R : Ann := { slots := [], objs := [] }
def l10_9 : Nat → Int → List Int → Int → Int → Option (LR l10_9X l10_9R)
  | 0, _, _, _, _ => none
  | m + 1, s8, s29, s30, s31 =>
    if decide (s31 < s30) = true then
      if 0 ≤ s31 then
        if s31 < s29.length then
          l10_9 m (IntKind.i64.wrap (s8 + (s29.getD s31.toNat 0))) s29 s30 (IntKind.i64.wrap (s31 + 1))
        else none
      else none
    else
      some (.exit (s8, ()))
def l10_9L : LSpec := { h := l10_9H, x := l10_9X, r := l10_9R, xid := 0, rt := false, pins := [], f := fun k d => l10_9 k d.1 d.2.1 d.2.2.1 d.2.2.2.1 }
def l10_17 : Nat → Int → Int → Int → List Int → List Int → Option (LR l10_17X l10_17R)
  | 0, _, _, _, _, _ => none
  | m + 1, s1, s43, s44, b112, b300 =>
    if decide (s44 < s43) = true then
      if 0 ≤ s44 then
        if s44 < b112.length then
          if (b112.getD s44.toNat 0 == 0) = true then
            l10_17 m s1 s43 (IntKind.i64.wrap (s44 + 1)) b112 b300
          else
            if 0 ≤ s44 then
              if s44 < b112.length then
                if 0 ≤ s44 then
                  if s44 < b112.length then
                    (f18 fuel (b112.set s44.toNat (IntKind.i64.wrap ((b112.getD s44.toNat 0) - 1)))).bind fun r1 =>
                    if decide (s1 ≥ r1) = true then
                      if 0 ≤ s44 then
                        if s44 < (b112.set s44.toNat (IntKind.i64.wrap ((b112.getD s44.toNat 0) - 1))).length then
                          if 0 ≤ s44 then
                            if s44 < (b112.set s44.toNat (IntKind.i64.wrap ((b112.getD s44.toNat 0) - 1))).length then
                              l10_17 m (IntKind.i64.wrap (s1 - r1)) s43 (IntKind.i64.wrap (s44 + 1)) ((b112.set s44.toNat (IntKind.i64.wrap ((b112.getD s44.toNat 0) - 1))).set s44.toNat (IntKind.i64.wrap (((b112.set s44.toNat (IntKind.i64.wrap ((b112.getD s44.toNat 0) - 1))).getD s44.toNat 0) + 1))) b300
                            else none
                          else none
                        else none
                      else none
                    else
                      if (b300.length + 1) * 8 ≤ 140737488355328 then
                        some (.exit (s1, b112.set s44.toNat (IntKind.i64.wrap ((b112.getD s44.toNat 0) - 1)), b300 ++ [s44], ()))
                      else none
                  else none
                else none
              else none
            else none
        else none
      else none
    else
      some (.exit (s1, b112, b300, ()))
def l10_17L : LSpec := { h := l10_17H, x := l10_17X, r := l10_17R, xid := 4, rt := false, pins := [112], f := fun k d => l10_17 k d.1 d.2.1 d.2.2.1 d.2.2.2.1 d.2.2.2.2.1 }
def l10_15 : Nat → Int → Int → Int → List Int → List Int → Option (LR l10_15X l10_15R)
  | 0, _, _, _, _, _ => none
  | m + 1, s1, s39, s40, b112, b300 =>
    if decide (s40 < s39) = true then
      match l10_17 m s1 (b112.length : Int) 0 b112 b300 with
      | none => none
      | some (.exit d1) =>
        l10_15 m d1.1 s39 (IntKind.i64.wrap (s40 + 1)) d1.2.1 d1.2.2.1
      | some (.ret d1) =>
        none
    else
      some (.exit (b300, b112, ()))
def l10_15L : LSpec := { h := l10_15H, x := l10_15X, r := l10_15R, xid := 2, rt := false, pins := [112], f := fun k d => l10_15 k d.1 d.2.1 d.2.2.1 d.2.2.2.1 d.2.2.2.2.1 }
def LL10 : Loops := [([10], [(9, l10_9L), (15, l10_15L), (17, l10_17L)])]
def f10 (k : Nat) (a0 : List Int) (a1 : Int) : Option (List Int × Int) :=
  (f16 fuel a0).bind fun r1 =>
  if (r1 != 0) = true then
    some ([], r1)
  else
    if decide (a1 < 0) = false then
      (f18 fuel a0).bind fun r2 =>
      if decide (a1 ≥ r2) = true then
        some ([], 4)
      else
        (f19s a0).bind fun r3 =>
        match l10_9 k 0 a0 (a0.length : Int) 0 with
        | none => none
        | some (.exit d4) =>
          match l10_15 k a1 d4.1 0 r3 [] with
          | none => none
          | some (.exit d5) =>
            some (d5.1, 0)
          | some (.ret d5) =>
            none
        | some (.ret d4) =>
          none
    else
      some ([], 4)
theorem l10_9_step (m : Nat) (d : dens l10_9H.tys) : l10_9L.f (m + 1) d = round E10 LL10 m [10] 79 (loopN (bodyOf Try.f10) 0) l10_9L (l10_9L.f m) d := by kernel_rfl
theorem l10_17_step (m : Nat) (d : dens l10_17H.tys) : l10_17L.f (m + 1) d = round E10 LL10 m [10] 79 (loopN (bodyOf Try.f10) 2) l10_17L (l10_17L.f m) d := by kernel_rfl
theorem l10_15_step (m : Nat) (d : dens l10_15H.tys) : l10_15L.f (m + 1) d = round E10 LL10 m [10] 79 (loopN (bodyOf Try.f10) 1) l10_15L (l10_15L.f m) d := by kernel_rfl
theorem f10_run (k : Nat) (x : denL [.slice (.int .i64), .int .i64]) : runFn E10 LL10 k 10 Try.f10 [.slice (.int .i64), .int .i64] [.fresh (.int .i64), .imm (.int .i64)] x = f10 k x.1 x.2 := by kernel_rfl
noncomputable def S10 : Vm.Spec := { ps := [.slice (.int .i64), .int .i64], rs := [.fresh (.int .i64), .imm (.int .i64)], f := fun x => f10 fuel x.1 x.2 }
theorem f10_holds : Vm.Spec.holds Try.prog 10 S10 := by
  have hB : BodiesOk Try.prog E10 := bodies_none rfl
  have hBS : BodiesStepped E10 LL10 := bodies_stepped_none rfl
  have hS : SpecsOk Try.prog E10 := specs_ok (by exact ⟨⟨by kernel_rfl, f16_holds⟩, ⟨by kernel_rfl, f18_holds⟩, ⟨by kernel_rfl, f19s_holds⟩, trivial⟩)
  have hE : EOk Try.prog E10 := eok_te ok
  exact fn_sound (L := LL10) hE hS hB (draws_ok hE hS (by kernel_rfl)) hBS (fn := Try.f10) (by kernel_rfl) (c := bodyOf Try.f10) (by kernel_rfl) (stepped_of (ls := [(9, l10_9L), (15, l10_15L), (17, l10_17L)]) rfl rfl ⟨by kernel_rfl, fun _ => rfl, l10_9_step, by kernel_rfl, fun _ => rfl, l10_15_step, by kernel_rfl, fun _ => rfl, l10_17_step, stepsI_end (by kernel_rfl)⟩) fun x r h => ⟨fuel, (f10_run fuel x).trans h⟩

/-! slices.Equal[[]int,int] -/
noncomputable def E12 : Env := { te := te, spec := [], body := [] }
def l12_4H : Ann := { slots := [(0, .one (.val (.slice (.int .i64)))), (1, .one (.val (.slice (.int .i64)))), (12, .one (.val (.int .i64))), (13, .one (.val (.int .i64)))], objs := [] }
def l12_4X : Ann := { slots := [], objs := [] }
def l12_4R : Ann := { slots := [(4, .one (.val .bool))], objs := [] }
def l12_4 : Nat → List Int → List Int → Int → Int → Option (LR l12_4X l12_4R)
  | 0, _, _, _, _ => none
  | m + 1, s0, s1, s12, s13 =>
    if decide (s13 < s12) = true then
      if 0 ≤ s13 then
        if s13 < s0.length then
          if 0 ≤ s13 then
            if s13 < s1.length then
              if (s0.getD s13.toNat 0 != s1.getD s13.toNat 0) = true then
                some (.ret (false, ()))
              else
                l12_4 m s0 s1 s12 (IntKind.i64.wrap (s13 + 1))
            else none
          else none
        else none
      else none
    else
      some (.exit ())
def l12_4L : LSpec := { h := l12_4H, x := l12_4X, r := l12_4R, xid := 0, rt := true, pins := [], f := fun k d => l12_4 k d.1 d.2.1 d.2.2.1 d.2.2.2.1 }
def LL12 : Loops := [([12], [(4, l12_4L)])]
def f12 (k : Nat) (a0 : List Int) (a1 : List Int) : Option (Bool) :=
  if ((a0.length : Int) != (a1.length : Int)) = true then
    some false
  else
    match l12_4 k a0 a1 (a0.length : Int) 0 with
    | none => none
    | some (.exit d1) =>
      some true
    | some (.ret d1) =>
      some d1.1
theorem l12_4_step (m : Nat) (d : dens l12_4H.tys) : l12_4L.f (m + 1) d = round E12 LL12 m [12] 26 (loopN (bodyOf Try.f12) 0) l12_4L (l12_4L.f m) d := by kernel_rfl
theorem f12_run (k : Nat) (x : denL [.slice (.int .i64), .slice (.int .i64)]) : runFn E12 LL12 k 12 Try.f12 [.slice (.int .i64), .slice (.int .i64)] [.imm .bool] x = f12 k x.1 x.2 := by kernel_rfl
noncomputable def S12 : Vm.Spec := { ps := [.slice (.int .i64), .slice (.int .i64)], rs := [.imm .bool], f := fun x => f12 fuel x.1 x.2 }
theorem f12_holds : Vm.Spec.holds Try.prog 12 S12 := by
  have hB : BodiesOk Try.prog E12 := bodies_none rfl
  have hBS : BodiesStepped E12 LL12 := bodies_stepped_none rfl
  have hS : SpecsOk Try.prog E12 := specs_ok (by exact trivial)
  have hE : EOk Try.prog E12 := eok_te ok
  exact fn_sound (L := LL12) hE hS hB (draws_ok hE hS (by kernel_rfl)) hBS (fn := Try.f12) (by kernel_rfl) (c := bodyOf Try.f12) (by kernel_rfl) (stepped_of (ls := [(4, l12_4L)]) rfl rfl ⟨by kernel_rfl, fun _ => rfl, l12_4_step, stepsI_end (by kernel_rfl)⟩) fun x r h => ⟨fuel, (f12_run fuel x).trans h⟩

/-! gamehall/index.Next -/
noncomputable def E13 : Env := { te := te, spec := [(15, S15), (19, S19s)], body := [(22, Try.f22)] }
def l13_6H : Ann := { slots := [(5, .one (.own 56 (.int .i64))), (6, .one (.val (.int .i64)))], objs := [(56, .buf (.int .i64))] }
def l13_6X : Ann := { slots := [(5, .one (.own 56 (.int .i64))), (6, .one (.val (.int .i64)))], objs := [(56, .buf (.int .i64))] }
def l13_6R : Ann := { slots := [], objs := [] }
def l13_11H : Ann := { slots := [(5, .one (.own 56 (.int .i64))), (6, .one (.val (.int .i64))), (7, .one (.val (.int .i64)))], objs := [(56, .buf (.int .i64))] }
def l13_11X : Ann := { slots := [(5, .one (.own 56 (.int .i64))), (7, .one (.val (.int .i64)))], objs := [(56, .buf (.int .i64))] }
def l13_11R : Ann := { slots := [], objs := [] }
def l22_13_1H : Ann := { slots := [(0, .one (.vw 56 (.int .i64))), (2, .one (.val (.int .i64))), (3, .one (.val (.int .i64)))], objs := [(56, .buf (.int .i64))] }
def l22_13_1X : Ann := { slots := [], objs := [(56, .buf (.int .i64))] }
def l22_13_1R : Ann := { slots := [], objs := [] }
def l13_6 : Nat → Int → List Int → Option (LR l13_6X l13_6R)
  | 0, _, _ => none
  | m + 1, s6, b56 =>
    if decide (s6 ≥ 0) = true then
      if 0 ≤ s6 then
        if s6 < b56.length then
          if 0 ≤ IntKind.i64.wrap (s6 + 1) then
            if IntKind.i64.wrap (s6 + 1) < b56.length then
              if decide (b56.getD s6.toNat 0 ≥ b56.getD ((IntKind.i64.wrap (s6 + 1)).toNat) 0) = true then
                l13_6 m (IntKind.i64.wrap (s6 - 1)) b56
              else
                some (.exit (s6, b56, ()))
            else none
          else none
        else none
      else none
    else
      some (.exit (s6, b56, ()))
def l13_6L : LSpec := { h := l13_6H, x := l13_6X, r := l13_6R, xid := 0, rt := false, pins := [56], f := fun k d => l13_6 k d.1 d.2.1 }
def l13_11 : Nat → Int → Int → List Int → Option (LR l13_11X l13_11R)
  | 0, _, _, _ => none
  | m + 1, s6, s7, b56 =>
    if 0 ≤ s7 then
      if s7 < b56.length then
        if 0 ≤ s6 then
          if s6 < b56.length then
            if decide (b56.getD s7.toNat 0 ≤ b56.getD s6.toNat 0) = true then
              l13_11 m s6 (IntKind.i64.wrap (s7 - 1)) b56
            else
              some (.exit (s7, b56, ()))
          else none
        else none
      else none
    else none
def l13_11L : LSpec := { h := l13_11H, x := l13_11X, r := l13_11R, xid := 2, rt := false, pins := [56], f := fun k d => l13_11 k d.1 d.2.1 d.2.2.1 }
def l22_13_1 : Nat → Nat → Nat → Int → Int → List Int → Option (LR l22_13_1X l22_13_1R)
  | 0, _, _, _, _, _ => none
  | m + 1, s0o, s0n, s2, s3, b56 =>
    if decide (s2 < s3) = true then
      if 0 ≤ s3 then
        if s3 < s0n then
          if 0 ≤ s2 then
            if s2 < s0n then
              if 0 ≤ s2 then
                if s2 < s0n then
                  if 0 ≤ s3 then
                    if s3 < s0n then
                      l22_13_1 m s0o s0n (IntKind.i64.wrap (s2 + 1)) (IntKind.i64.wrap (s3 - 1)) ((b56.set (((s0o : Int) + s2).toNat) (b56.getD (((s0o : Int) + s3).toNat) 0)).set (((s0o : Int) + s3).toNat) (b56.getD (((s0o : Int) + s2).toNat) 0))
                    else none
                  else none
                else none
              else none
            else none
          else none
        else none
      else none
    else
      some (.exit (b56, ()))
def l22_13_1L : LSpec := { h := l22_13_1H, x := l22_13_1X, r := l22_13_1R, xid := 0, rt := false, pins := [56], f := fun k d => l22_13_1 k d.1 d.2.1 d.2.2.1 d.2.2.2.1 d.2.2.2.2.1 }
def LL13 : Loops := [([13], [(6, l13_6L), (11, l13_11L)]), ([22, 13], [(1, l22_13_1L)])]
def f13 (k : Nat) (a0 : List Int) : Option (List Int × Int) :=
  (f15 fuel a0).bind fun r1 =>
  if (r1 != 0) = true then
    some ([], r1)
  else
    (f19s a0).bind fun r2 =>
    match l13_6 k (IntKind.i64.wrap ((r2.length : Int) - 2)) r2 with
    | none => none
    | some (.exit d3) =>
      if decide (d3.1 < 0) = true then
        some ([], 8)
      else
        match l13_11 k d3.1 (IntKind.i64.wrap ((d3.2.1.length : Int) - 1)) d3.2.1 with
        | none => none
        | some (.exit d4) =>
          if 0 ≤ d4.1 then
            if d4.1 < d4.2.1.length then
              if 0 ≤ d3.1 then
                if d3.1 < d4.2.1.length then
                  if 0 ≤ d3.1 then
                    if d3.1 < d4.2.1.length then
                      if 0 ≤ d4.1 then
                        if d4.1 < (d4.2.1.set d3.1.toNat (d4.2.1.getD d4.1.toNat 0)).length then
                          if 0 ≤ IntKind.i64.wrap (d3.1 + 1) then
                            if IntKind.i64.wrap (d3.1 + 1) ≤ ((d4.2.1.set d3.1.toNat (d4.2.1.getD d4.1.toNat 0)).set d4.1.toNat (d4.2.1.getD d3.1.toNat 0)).length then
                              match l22_13_1 k ((IntKind.i64.wrap (d3.1 + 1)).toNat) ((((d4.2.1.set d3.1.toNat (d4.2.1.getD d4.1.toNat 0)).set d4.1.toNat (d4.2.1.getD d3.1.toNat 0)).length) - ((IntKind.i64.wrap (d3.1 + 1)).toNat)) 0 (IntKind.i64.wrap ((((((d4.2.1.set d3.1.toNat (d4.2.1.getD d4.1.toNat 0)).set d4.1.toNat (d4.2.1.getD d3.1.toNat 0)).length) - ((IntKind.i64.wrap (d3.1 + 1)).toNat) : Nat) : Int) - 1)) ((d4.2.1.set d3.1.toNat (d4.2.1.getD d4.1.toNat 0)).set d4.1.toNat (d4.2.1.getD d3.1.toNat 0)) with
                              | none => none
                              | some (.exit d5) =>
                                some (d5.1, 0)
                              | some (.ret d5) =>
                                none
                            else none
                          else none
                        else none
                      else none
                    else none
                  else none
                else none
              else none
            else none
          else none
        | some (.ret d4) =>
          none
    | some (.ret d3) =>
      none
theorem l13_6_step (m : Nat) (d : dens l13_6H.tys) : l13_6L.f (m + 1) d = round E13 LL13 m [13] 70 (loopN (bodyOf Try.f13) 0) l13_6L (l13_6L.f m) d := by kernel_rfl
theorem l13_11_step (m : Nat) (d : dens l13_11H.tys) : l13_11L.f (m + 1) d = round E13 LL13 m [13] 70 (loopN (bodyOf Try.f13) 1) l13_11L (l13_11L.f m) d := by kernel_rfl
theorem l22_13_1_step (m : Nat) (d : dens l22_13_1H.tys) : l22_13_1L.f (m + 1) d = round E13 LL13 m [22, 13] 28 (loopN (bodyOf Try.f22) 0) l22_13_1L (l22_13_1L.f m) d := by kernel_rfl
theorem f13_run (k : Nat) (x : denL [.slice (.int .i64)]) : runFn E13 LL13 k 13 Try.f13 [.slice (.int .i64)] [.fresh (.int .i64), .imm (.int .i64)] x = f13 k x := by kernel_rfl
noncomputable def S13 : Vm.Spec := { ps := [.slice (.int .i64)], rs := [.fresh (.int .i64), .imm (.int .i64)], f := fun x => f13 fuel x }
theorem f13_holds : Vm.Spec.holds Try.prog 13 S13 := by
  have hB : BodiesOk Try.prog E13 := bodies_ok (by exact ⟨by kernel_rfl, by kernel_rfl, trivial⟩)
  have hBS : BodiesStepped E13 LL13 := by
    refine bodies_stepped ?_
    exact ⟨(stepped_paths [[13]] (by exact ⟨stepped_of (ls := [(1, l22_13_1L)]) rfl rfl ⟨by kernel_rfl, fun _ => rfl, l22_13_1_step, stepsI_end (by kernel_rfl)⟩,  trivial⟩) rfl),  trivial⟩
  have hS : SpecsOk Try.prog E13 := specs_ok (by exact ⟨⟨by kernel_rfl, f15_holds⟩, ⟨by kernel_rfl, f19s_holds⟩, trivial⟩)
  have hE : EOk Try.prog E13 := eok_te ok
  exact fn_sound (L := LL13) hE hS hB (draws_ok hE hS (by kernel_rfl)) hBS (fn := Try.f13) (by kernel_rfl) (c := bodyOf Try.f13) (by kernel_rfl) (stepped_of (ls := [(6, l13_6L), (11, l13_11L)]) rfl rfl ⟨by kernel_rfl, fun _ => rfl, l13_6_step, by kernel_rfl, fun _ => rfl, l13_11_step, stepsI_end (by kernel_rfl)⟩) fun x r h => ⟨fuel, (f13_run fuel x).trans h⟩

/-! gamehall/gamehallkeep2.fine -/
noncomputable def E11 : Env := { te := te, spec := [], body := [(20, Try.f20), (21, Try.f21), (24, Try.f24)] }
def l24_20_11_2H : Ann := { slots := [(0, .one (.val (.slice (.int .i64)))), (1, .one (.fix (.func 21))), (7, .one (.val (.int .i64))), (8, .one (.val (.int .i64)))], objs := [] }
def l24_20_11_2X : Ann := { slots := [], objs := [] }
def l24_20_11_2R : Ann := { slots := [(4, .one (.val (.int .i64)))], objs := [] }
def l24_20_11_2 : Nat → List Int → Int → Int → Option (LR l24_20_11_2X l24_20_11_2R)
  | 0, _, _, _ => none
  | m + 1, s0, s7, s8 =>
    if decide (s8 < s7) = true then
      if 0 ≤ s8 then
        if s8 < s0.length then
          if (s0.getD s8.toNat 0 != 0) = true then
            some (.ret (s8, ()))
          else
            l24_20_11_2 m s0 s7 (IntKind.i64.wrap (s8 + 1))
        else none
      else none
    else
      some (.exit ())
def l24_20_11_2L : LSpec := { h := l24_20_11_2H, x := l24_20_11_2X, r := l24_20_11_2R, xid := 0, rt := true, pins := [], f := fun k d => l24_20_11_2 k d.1 d.2.1 d.2.2.1 }
def LL11 : Loops := [([24, 20, 11], [(2, l24_20_11_2L)])]
def f11 (k : Nat) (a0 : List Int) : Option (Bool) :=
  match l24_20_11_2 k a0 (a0.length : Int) 0 with
  | none => none
  | some (.exit d1) =>
    some true
  | some (.ret d1) =>
    some (!(decide (d1.1 ≥ 0)))
theorem l24_20_11_2_step (m : Nat) (d : dens l24_20_11_2H.tys) : l24_20_11_2L.f (m + 1) d = round E11 LL11 m [24, 20, 11] 19 (loopN (bodyOf Try.f24) 0) l24_20_11_2L (l24_20_11_2L.f m) d := by kernel_rfl
theorem f11_run (k : Nat) (x : denL [.slice (.int .i64)]) : runFn E11 LL11 k 11 Try.f11 [.slice (.int .i64)] [.imm .bool] x = f11 k x := by kernel_rfl
noncomputable def S11 : Vm.Spec := { ps := [.slice (.int .i64)], rs := [.imm .bool], f := fun x => f11 fuel x }
theorem f11_holds : Vm.Spec.holds Try.prog 11 S11 := by
  have hB : BodiesOk Try.prog E11 := bodies_ok (by exact ⟨by kernel_rfl, by kernel_rfl, by kernel_rfl, by kernel_rfl, by kernel_rfl, by kernel_rfl, trivial⟩)
  have hBS : BodiesStepped E11 LL11 := by
    refine bodies_stepped ?_
    exact ⟨(fun _ => stepped_noloop (by kernel_rfl)), (fun _ => stepped_noloop (by kernel_rfl)), (stepped_paths [[20, 11]] (by exact ⟨stepped_of (ls := [(2, l24_20_11_2L)]) rfl rfl ⟨by kernel_rfl, fun _ => rfl, l24_20_11_2_step, stepsI_end (by kernel_rfl)⟩,  trivial⟩) rfl),  trivial⟩
  have hS : SpecsOk Try.prog E11 := specs_ok (by exact trivial)
  have hE : EOk Try.prog E11 := eok_te ok
  exact fn_sound (L := LL11) hE hS hB (draws_ok hE hS (by kernel_rfl)) hBS (fn := Try.f11) (by kernel_rfl) (c := bodyOf Try.f11) (by kernel_rfl) (stepped_none rfl) fun x r h => ⟨fuel, (f11_run fuel x).trans h⟩

/-! slices.Compare[[]int,int] -/
noncomputable def E14 : Env := { te := te, spec := [], body := [(23, Try.f23), (25, Try.f25)] }
def l14_2H : Ann := { slots := [(1, .one (.val (.slice (.int .i64)))), (9, .one (.val (.slice (.int .i64)))), (10, .one (.val (.int .i64))), (11, .one (.val (.int .i64)))], objs := [] }
def l14_2X : Ann := { slots := [], objs := [] }
def l14_2R : Ann := { slots := [(4, .one (.val (.int .i64)))], objs := [] }
def l14_2 : Nat → List Int → List Int → Int → Int → Option (LR l14_2X l14_2R)
  | 0, _, _, _, _ => none
  | m + 1, s1, s9, s10, s11 =>
    if decide (s11 < s10) = true then
      if 0 ≤ s11 then
        if s11 < s9.length then
          if decide (s11 ≥ (s1.length : Int)) = true then
            some (.ret (1, ()))
          else
            if 0 ≤ s11 then
              if s11 < s1.length then
                if (s9.getD s11.toNat 0 != s9.getD s11.toNat 0) = true then
                  if (s1.getD s11.toNat 0 != s1.getD s11.toNat 0) = true then
                    l14_2 m s1 s9 s10 (IntKind.i64.wrap (s11 + 1))
                  else
                    some (.ret ((-1), ()))
                else
                  if (s1.getD s11.toNat 0 != s1.getD s11.toNat 0) = true then
                    some (.ret (1, ()))
                  else
                    if decide (s9.getD s11.toNat 0 < s1.getD s11.toNat 0) = true then
                      some (.ret ((-1), ()))
                    else
                      if decide (s9.getD s11.toNat 0 > s1.getD s11.toNat 0) = true then
                        some (.ret (1, ()))
                      else
                        l14_2 m s1 s9 s10 (IntKind.i64.wrap (s11 + 1))
              else none
            else none
        else none
      else none
    else
      some (.exit ())
def l14_2L : LSpec := { h := l14_2H, x := l14_2X, r := l14_2R, xid := 0, rt := true, pins := [], f := fun k d => l14_2 k d.1 d.2.1 d.2.2.1 d.2.2.2.1 }
def LL14 : Loops := [([14], [(2, l14_2L)])]
def f14 (k : Nat) (a0 : List Int) (a1 : List Int) : Option (Int) :=
  match l14_2 k a1 a0 (a0.length : Int) 0 with
  | none => none
  | some (.exit d1) =>
    if decide ((a0.length : Int) < (a1.length : Int)) = true then
      some (-1)
    else
      some 0
  | some (.ret d1) =>
    some d1.1
theorem l14_2_step (m : Nat) (d : dens l14_2H.tys) : l14_2L.f (m + 1) d = round E14 LL14 m [14] 36 (loopN (bodyOf Try.f14) 0) l14_2L (l14_2L.f m) d := by kernel_rfl
theorem f14_run (k : Nat) (x : denL [.slice (.int .i64), .slice (.int .i64)]) : runFn E14 LL14 k 14 Try.f14 [.slice (.int .i64), .slice (.int .i64)] [.imm (.int .i64)] x = f14 k x.1 x.2 := by kernel_rfl
noncomputable def S14 : Vm.Spec := { ps := [.slice (.int .i64), .slice (.int .i64)], rs := [.imm (.int .i64)], f := fun x => f14 fuel x.1 x.2 }
theorem f14_holds : Vm.Spec.holds Try.prog 14 S14 := by
  have hB : BodiesOk Try.prog E14 := bodies_ok (by exact ⟨by kernel_rfl, by kernel_rfl, by kernel_rfl, by kernel_rfl, trivial⟩)
  have hBS : BodiesStepped E14 LL14 := by
    refine bodies_stepped ?_
    exact ⟨(fun _ => stepped_noloop (by kernel_rfl)), (fun _ => stepped_noloop (by kernel_rfl)),  trivial⟩
  have hS : SpecsOk Try.prog E14 := specs_ok (by exact trivial)
  have hE : EOk Try.prog E14 := eok_te ok
  exact fn_sound (L := LL14) hE hS hB (draws_ok hE hS (by kernel_rfl)) hBS (fn := Try.f14) (by kernel_rfl) (c := bodyOf Try.f14) (by kernel_rfl) (stepped_of (ls := [(2, l14_2L)]) rfl rfl ⟨by kernel_rfl, fun _ => rfl, l14_2_step, stepsI_end (by kernel_rfl)⟩) fun x r h => ⟨fuel, (f14_run fuel x).trans h⟩

/-! gamehall/gamehallkeep2.indexFact -/
noncomputable def E6 : Env := { te := te, spec := [(7, S7), (8, S8), (9, S9), (10, S10), (11, S11), (12, S12), (13, S13), (15, S15), (16, S16)], body := [] }
def LL6 : Loops := []
def f6 (k : Nat) : Option (Bool) :=
  (f8 fuel [0, 1, 0]).bind fun r1 =>
  (f9 fuel [2, 1, 0, 0, 0, 0, 0]).bind fun r2 =>
  (f7 fuel [0, 1, 0]).bind fun r3 =>
  (f10 fuel [2, 1, 0, 0, 0, 0, 0] 1).bind fun r4 =>
  (f13 fuel [0, 0, 1]).bind fun r5 =>
  (f11 fuel [r1.2, r2.2, r3.2, r4.2, r5.2]).bind fun r6 =>
  if r6 = true then
    (f12 fuel r1.1 [2, 1, 0, 0, 0, 0, 0]).bind fun r7 =>
    if r7 = true then
      if (r2.1 == 3) = true then
        if (r3.1 == 1) = true then
          (f12 fuel r4.1 [0, 1, 0]).bind fun r8 =>
          if r8 = true then
            (f12 fuel r5.1 r4.1).bind fun r9 =>
            if r9 = true then
              (f15 fuel [7]).bind fun r10 =>
              if (r10 == 4) = true then
                (f16 fuel []).bind fun r11 =>
                some (r11 == 3)
              else
                some false
            else
              some false
          else
            some false
        else
          some false
      else
        some false
    else
      some false
  else
    some false
theorem f6_run (k : Nat) (x : denL []) : runFn E6 LL6 k 6 Try.f6 [] [.imm .bool] x = f6 k := by kernel_rfl
noncomputable def S6 : Vm.Spec := { ps := [], rs := [.imm .bool], f := fun x => f6 fuel }
theorem f6_holds : Vm.Spec.holds Try.prog 6 S6 := by
  have hB : BodiesOk Try.prog E6 := bodies_none rfl
  have hBS : BodiesStepped E6 LL6 := bodies_stepped_none rfl
  have hS : SpecsOk Try.prog E6 := specs_ok (by exact ⟨⟨by kernel_rfl, f7_holds⟩, ⟨by kernel_rfl, f8_holds⟩, ⟨by kernel_rfl, f9_holds⟩, ⟨by kernel_rfl, f10_holds⟩, ⟨by kernel_rfl, f11_holds⟩, ⟨by kernel_rfl, f12_holds⟩, ⟨by kernel_rfl, f13_holds⟩, ⟨by kernel_rfl, f15_holds⟩, ⟨by kernel_rfl, f16_holds⟩, trivial⟩)
  have hE : EOk Try.prog E6 := eok_te ok
  exact fn_sound (L := LL6) hE hS hB (draws_ok hE hS (by kernel_rfl)) hBS (fn := Try.f6) (by kernel_rfl) (c := bodyOf Try.f6) (by kernel_rfl) (stepped_none rfl) fun x r h => ⟨fuel, (f6_run fuel x).trans h⟩

/-! gamehall/gamehallkeep2.IndexBack -/
noncomputable def E3 : Env := { te := te, spec := [(6, S6), (7, S7), (8, S8), (9, S9), (10, S10), (11, S11), (12, S12)], body := [] }
def LL3 : Loops := []
def f3 (k : Nat) (a0 : List Int) : Option (Bool) :=
  (f6 fuel).bind fun r1 =>
  if (!r1) = true then
    some false
  else
    (f7 fuel a0).bind fun r2 =>
    (f8 fuel a0).bind fun r3 =>
    if (r2.2 != 0) = false then
      if (r3.2 != 0) = true then
        if (r2.2 == r3.2) = true then
          if (r2.1 == 0) = true then
            some ((r3.1.length : Int) == 0)
          else
            some false
        else
          some false
      else
        (f9 fuel r3.1).bind fun r4 =>
        (f10 fuel r3.1 r2.1).bind fun r5 =>
        (f11 fuel [r4.2, r5.2]).bind fun r6 =>
        if r6 = true then
          if decide (r2.1 ≥ 0) = true then
            if decide (r2.1 < r4.1) = true then
              (f12 fuel r5.1 a0).bind fun r7 =>
              some r7
            else
              some false
          else
            some false
        else
          some false
    else
      if (r2.2 == r3.2) = true then
        if (r2.1 == 0) = true then
          some ((r3.1.length : Int) == 0)
        else
          some false
      else
        some false
theorem f3_run (k : Nat) (x : denL [.slice (.int .i64)]) : runFn E3 LL3 k 3 Try.f3 [.slice (.int .i64)] [.imm .bool] x = f3 k x := by kernel_rfl
noncomputable def S3 : Vm.Spec := { ps := [.slice (.int .i64)], rs := [.imm .bool], f := fun x => f3 fuel x }
theorem f3_holds : Vm.Spec.holds Try.prog 3 S3 := by
  have hB : BodiesOk Try.prog E3 := bodies_none rfl
  have hBS : BodiesStepped E3 LL3 := bodies_stepped_none rfl
  have hS : SpecsOk Try.prog E3 := specs_ok (by exact ⟨⟨by kernel_rfl, f6_holds⟩, ⟨by kernel_rfl, f7_holds⟩, ⟨by kernel_rfl, f8_holds⟩, ⟨by kernel_rfl, f9_holds⟩, ⟨by kernel_rfl, f10_holds⟩, ⟨by kernel_rfl, f11_holds⟩, ⟨by kernel_rfl, f12_holds⟩, trivial⟩)
  have hE : EOk Try.prog E3 := eok_te ok
  exact fn_sound (L := LL3) hE hS hB (draws_ok hE hS (by kernel_rfl)) hBS (fn := Try.f3) (by kernel_rfl) (c := bodyOf Try.f3) (by kernel_rfl) (stepped_none rfl) fun x r h => ⟨fuel, (f3_run fuel x).trans h⟩

/-! gamehall/gamehallkeep2.IndexNexts -/
noncomputable def E4 : Env := { te := te, spec := [(6, S6), (7, S7), (8, S8), (9, S9), (11, S11), (13, S13)], body := [] }
def LL4 : Loops := []
def f4 (k : Nat) (a0 : List Int) : Option (Bool) :=
  (f6 fuel).bind fun r1 =>
  if (!r1) = true then
    some false
  else
    (f7 fuel a0).bind fun r2 =>
    (f13 fuel a0).bind fun r3 =>
    (f8 fuel a0).bind fun r4 =>
    if (r2.2 != 0) = true then
      if (r3.2 == r2.2) = true then
        some ((r3.1.length : Int) == 0)
      else
        some false
    else
      (f9 fuel r4.1).bind fun r5 =>
      (f11 fuel [r4.2, r5.2]).bind fun r6 =>
      if (!r6) = true then
        some false
      else
        if (r3.2 == 8) = true then
          if (r2.1 == IntKind.i64.wrap (r5.1 - 1)) = true then
            some ((r3.1.length : Int) == 0)
          else
            some false
        else
          (f7 fuel r3.1).bind fun r7 =>
          if (r3.2 == 0) = true then
            if (r7.2 == 0) = true then
              some (r7.1 == IntKind.i64.wrap (r2.1 + 1))
            else
              some false
          else
            some false
theorem f4_run (k : Nat) (x : denL [.slice (.int .i64)]) : runFn E4 LL4 k 4 Try.f4 [.slice (.int .i64)] [.imm .bool] x = f4 k x := by kernel_rfl
noncomputable def S4 : Vm.Spec := { ps := [.slice (.int .i64)], rs := [.imm .bool], f := fun x => f4 fuel x }
theorem f4_holds : Vm.Spec.holds Try.prog 4 S4 := by
  have hB : BodiesOk Try.prog E4 := bodies_none rfl
  have hBS : BodiesStepped E4 LL4 := bodies_stepped_none rfl
  have hS : SpecsOk Try.prog E4 := specs_ok (by exact ⟨⟨by kernel_rfl, f6_holds⟩, ⟨by kernel_rfl, f7_holds⟩, ⟨by kernel_rfl, f8_holds⟩, ⟨by kernel_rfl, f9_holds⟩, ⟨by kernel_rfl, f11_holds⟩, ⟨by kernel_rfl, f13_holds⟩, trivial⟩)
  have hE : EOk Try.prog E4 := eok_te ok
  exact fn_sound (L := LL4) hE hS hB (draws_ok hE hS (by kernel_rfl)) hBS (fn := Try.f4) (by kernel_rfl) (c := bodyOf Try.f4) (by kernel_rfl) (stepped_none rfl) fun x r h => ⟨fuel, (f4_run fuel x).trans h⟩

/-! gamehall/gamehallkeep2.IndexOrders -/
noncomputable def E5 : Env := { te := te, spec := [(6, S6), (7, S7), (8, S8), (11, S11), (12, S12), (14, S14)], body := [] }
def LL5 : Loops := []
def f5 (k : Nat) (a0 : List Int) (a1 : List Int) : Option (Bool) :=
  (f6 fuel).bind fun r1 =>
  if (!r1) = true then
    some false
  else
    (f7 fuel a0).bind fun r2 =>
    (f7 fuel a1).bind fun r3 =>
    (f8 fuel a0).bind fun r4 =>
    (f8 fuel a1).bind fun r5 =>
    (f11 fuel [r2.2, r3.2, r4.2, r5.2]).bind fun r6 =>
    if (!r6) = false then
      (f12 fuel r4.1 r5.1).bind fun r7 =>
      if (!r7) = true then
        some true
      else
        (f14 fuel a0 a1).bind fun r8 =>
        if decide (r8 < 0) = true then
          if decide (r2.1 < r3.1) = false then
            if (r8 == 0) = true then
              if (r2.1 == r3.1) = false then
                if decide (r8 > 0) = true then
                  some (decide (r2.1 > r3.1))
                else
                  some false
              else
                some true
            else
              if decide (r8 > 0) = true then
                some (decide (r2.1 > r3.1))
              else
                some false
          else
            some true
        else
          if (r8 == 0) = true then
            if (r2.1 == r3.1) = false then
              if decide (r8 > 0) = true then
                some (decide (r2.1 > r3.1))
              else
                some false
            else
              some true
          else
            if decide (r8 > 0) = true then
              some (decide (r2.1 > r3.1))
            else
              some false
    else
      some true
theorem f5_run (k : Nat) (x : denL [.slice (.int .i64), .slice (.int .i64)]) : runFn E5 LL5 k 5 Try.f5 [.slice (.int .i64), .slice (.int .i64)] [.imm .bool] x = f5 k x.1 x.2 := by kernel_rfl
noncomputable def S5 : Vm.Spec := { ps := [.slice (.int .i64), .slice (.int .i64)], rs := [.imm .bool], f := fun x => f5 fuel x.1 x.2 }
theorem f5_holds : Vm.Spec.holds Try.prog 5 S5 := by
  have hB : BodiesOk Try.prog E5 := bodies_none rfl
  have hBS : BodiesStepped E5 LL5 := bodies_stepped_none rfl
  have hS : SpecsOk Try.prog E5 := specs_ok (by exact ⟨⟨by kernel_rfl, f6_holds⟩, ⟨by kernel_rfl, f7_holds⟩, ⟨by kernel_rfl, f8_holds⟩, ⟨by kernel_rfl, f11_holds⟩, ⟨by kernel_rfl, f12_holds⟩, ⟨by kernel_rfl, f14_holds⟩, trivial⟩)
  have hE : EOk Try.prog E5 := eok_te ok
  exact fn_sound (L := LL5) hE hS hB (draws_ok hE hS (by kernel_rfl)) hBS (fn := Try.f5) (by kernel_rfl) (c := bodyOf Try.f5) (by kernel_rfl) (stepped_none rfl) fun x r h => ⟨fuel, (f5_run fuel x).trans h⟩

end Go.Proofs.Ytpcmofalfjgmmaa
