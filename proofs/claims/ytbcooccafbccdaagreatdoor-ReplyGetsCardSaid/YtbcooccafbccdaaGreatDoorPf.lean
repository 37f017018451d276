/- Pure functions, printed by a program of this session out of the program. -/
import Derived.Test.YtbcooccafbccdaaGreatDoorPe
set_option linter.unusedVariables false
namespace Go.Proofs.YtbcooccafbccdaaGreatDoor
open Go Vm Go.Proofs
noncomputable def E_reply_Check : Env := { te := te, spec := [(39, S_recall_Strategy), (48, S_tree_Check)], body := [], flat := [106] }
def LL_reply_Check : Loops := []
def f_reply_Check (k : Nat) (a0 : List (Int × (Int × (Int × ((List Int) × ((List ByteArray) × ByteArray)))))) (a1 : List (Int × (List ByteArray))) (a2 : List (Int × (List ByteArray))) : Option (Int) :=
 (f_tree_Check fuel a0).bind fun r1 =>
 if (r1 != 0) = true then
  some r1
 else
  (f_recall_Strategy fuel a0 0 a1).bind fun r2 =>
  if (r2 != 0) = true then
   some r2
  else
   (f_recall_Strategy fuel a0 1 a2).bind fun r3 =>
   some r3
theorem f_reply_Check_run (k : Nat) (x : denL [.slice (.pair (.int .i64) (.pair (.int .i64) (.pair (.int .i64) (.pair (.slice (.int .i64)) (.pair (.slice .str) .str))))), .slice (.pair (.int .i64) (.slice .str)), .slice (.pair (.int .i64) (.slice .str))]) : runFn E_reply_Check LL_reply_Check k 20 Tryz.f20 [.slice (.pair (.int .i64) (.pair (.int .i64) (.pair (.int .i64) (.pair (.slice (.int .i64)) (.pair (.slice .str) .str))))), .slice (.pair (.int .i64) (.slice .str)), .slice (.pair (.int .i64) (.slice .str))] [.imm (.int .i64)] x = f_reply_Check k x.1 x.2.1 x.2.2 := by kernel_rfl
noncomputable def S_reply_Check : Vm.Spec := { ps := [.slice (.pair (.int .i64) (.pair (.int .i64) (.pair (.int .i64) (.pair (.slice (.int .i64)) (.pair (.slice .str) .str))))), .slice (.pair (.int .i64) (.slice .str)), .slice (.pair (.int .i64) (.slice .str))], rs := [.imm (.int .i64)], f := fun x => f_reply_Check fuel x.1 x.2.1 x.2.2 }
theorem f_reply_Check_holds : Vm.Spec.holds Tryz.prog 20 S_reply_Check := by
 have hB : BodiesOk Tryz.prog E_reply_Check := bodies_none rfl
 have hBS : BodiesStepped E_reply_Check LL_reply_Check := bodies_stepped_none rfl
 have hS : SpecsOk Tryz.prog E_reply_Check := specs_ok (by exact ⟨⟨by kernel_rfl, f_recall_Strategy_holds⟩, ⟨by kernel_rfl, f_tree_Check_holds⟩, trivial⟩)
 have hE : EOk Tryz.prog E_reply_Check := eok_te ok
 exact fn_sound (L := LL_reply_Check) hE hS hB (draws_ok hE hS (by kernel_rfl)) hBS (fn := Tryz.f20) (by kernel_rfl) (c := bodyOf Tryz.f20) (by kernel_rfl) (stepped_none rfl) fun x r h => ⟨fuel, (f_reply_Check_run fuel x).trans h⟩
noncomputable def E_rat_Q_Mul : Env := { te := te, spec := [(55, S_nat_N_Mul), (56, S_rat_Q_whole), (57, S_rat_low)], body := [], flat := [106] }
def LL_rat_Q_Mul : Loops := []
def f_rat_Q_Mul (k : Nat) (a0 : Bool × ((List Int) × (List Int))) (a1 : Bool × ((List Int) × (List Int))) : Option (Bool × ((List Int) × (List Int))) :=
 if ((a0.2.1.length : Int) == 0) = false then
  if ((a1.2.1.length : Int) == 0) = true then
   some (false, ([], []))
  else
   (f_nat_N_Mul fuel a0.2.1 a1.2.1).bind fun r1 =>
   (f_rat_Q_whole fuel a0).bind fun r2 =>
   (f_rat_Q_whole fuel a1).bind fun r3 =>
   (f_nat_N_Mul fuel r2 r3).bind fun r4 =>
   (f_rat_low fuel (!(a0.1 == a1.1)) r1 r4).bind fun r5 =>
   some r5
 else
  some (false, ([], []))
theorem f_rat_Q_Mul_run (k : Nat) (x : denL [.pair .bool (.pair (.slice (.int .u32)) (.slice (.int .u32))), .pair .bool (.pair (.slice (.int .u32)) (.slice (.int .u32)))]) : runFn E_rat_Q_Mul LL_rat_Q_Mul k 41 Tryz.f41 [.pair .bool (.pair (.slice (.int .u32)) (.slice (.int .u32))), .pair .bool (.pair (.slice (.int .u32)) (.slice (.int .u32)))] [.imm (.pair .bool (.pair (.slice (.int .u32)) (.slice (.int .u32))))] x = f_rat_Q_Mul k x.1 x.2 := by kernel_rfl
noncomputable def S_rat_Q_Mul : Vm.Spec := { ps := [.pair .bool (.pair (.slice (.int .u32)) (.slice (.int .u32))), .pair .bool (.pair (.slice (.int .u32)) (.slice (.int .u32)))], rs := [.imm (.pair .bool (.pair (.slice (.int .u32)) (.slice (.int .u32))))], f := fun x => f_rat_Q_Mul fuel x.1 x.2 }
theorem f_rat_Q_Mul_holds : Vm.Spec.holds Tryz.prog 41 S_rat_Q_Mul := by
 have hB : BodiesOk Tryz.prog E_rat_Q_Mul := bodies_none rfl
 have hBS : BodiesStepped E_rat_Q_Mul LL_rat_Q_Mul := bodies_stepped_none rfl
 have hS : SpecsOk Tryz.prog E_rat_Q_Mul := specs_ok (by exact ⟨⟨by kernel_rfl, f_nat_N_Mul_holds⟩, ⟨by kernel_rfl, f_rat_Q_whole_holds⟩, ⟨by kernel_rfl, f_rat_low_holds⟩, trivial⟩)
 have hE : EOk Tryz.prog E_rat_Q_Mul := eok_te ok
 exact fn_sound (L := LL_rat_Q_Mul) hE hS hB (draws_ok hE hS (by kernel_rfl)) hBS (fn := Tryz.f41) (by kernel_rfl) (c := bodyOf Tryz.f41) (by kernel_rfl) (stepped_none rfl) fun x r h => ⟨fuel, (f_rat_Q_Mul_run fuel x).trans h⟩
noncomputable def E_rat_Int : Env := { te := te, spec := [(64, S_nat_Of)], body := [], flat := [106] }
def LL_rat_Int : Loops := []
def f_rat_Int (k : Nat) (a0 : Int) : Option (Bool × ((List Int) × (List Int))) :=
 if decide (a0 < 0) = true then
  (f_nat_Of fuel (IntKind.i64.wrap (0 - a0))).bind fun r1 =>
  (f_nat_Of fuel 1).bind fun r2 =>
  some (true, (r1, r2))
 else
  (f_nat_Of fuel a0).bind fun r3 =>
  (f_nat_Of fuel 1).bind fun r4 =>
  some (false, (r3, r4))
theorem f_rat_Int_run (k : Nat) (x : denL [.int .i64]) : runFn E_rat_Int LL_rat_Int k 53 Tryz.f53 [.int .i64] [.imm (.pair .bool (.pair (.slice (.int .u32)) (.slice (.int .u32))))] x = f_rat_Int k x := by kernel_rfl
noncomputable def S_rat_Int : Vm.Spec := { ps := [.int .i64], rs := [.imm (.pair .bool (.pair (.slice (.int .u32)) (.slice (.int .u32))))], f := fun x => f_rat_Int fuel x }
theorem f_rat_Int_holds : Vm.Spec.holds Tryz.prog 53 S_rat_Int := by
 have hB : BodiesOk Tryz.prog E_rat_Int := bodies_none rfl
 have hBS : BodiesStepped E_rat_Int LL_rat_Int := bodies_stepped_none rfl
 have hS : SpecsOk Tryz.prog E_rat_Int := specs_ok (by exact ⟨⟨by kernel_rfl, f_nat_Of_holds⟩, trivial⟩)
 have hE : EOk Tryz.prog E_rat_Int := eok_te ok
 exact fn_sound (L := LL_rat_Int) hE hS hB (draws_ok hE hS (by kernel_rfl)) hBS (fn := Tryz.f53) (by kernel_rfl) (c := bodyOf Tryz.f53) (by kernel_rfl) (stepped_none rfl) fun x r h => ⟨fuel, (f_rat_Int_run fuel x).trans h⟩
noncomputable def E_recall_Odd : Env := { te := te, spec := [(34, S_rat_In)], body := [(51, Tryz.f51), (77, Tryz.f77)], flat := [106] }
def l_slices_IndexFunc_TreeChoice__recall_Odd_2H : Ann := { slots := [(0, .one (.val (.slice (.pair (.int .i64) (.slice .str))))), (1, .one (.fix (.clos 36))), (7, .one (.val (.int .i64))), (8, .one (.val (.int .i64)))], objs := [(36, .clos 77 [.fix (.pbox 16 0)]), (16, .box [.val (.int .i64)])] }
def l_slices_IndexFunc_TreeChoice__recall_Odd_2X : Ann := { slots := [], objs := [(36, .clos 77 [.fix (.pbox 16 0)]), (16, .box [.val (.int .i64)])] }
def l_slices_IndexFunc_TreeChoice__recall_Odd_2R : Ann := { slots := [(4, .one (.val (.int .i64)))], objs := [(36, .clos 77 [.fix (.pbox 16 0)]), (16, .box [.val (.int .i64)])] }
def l_slices_IndexFunc_TreeChoice__recall_Odd_2 : Nat → List (Int × (List ByteArray)) → Int → Int → Int → Option (LR l_slices_IndexFunc_TreeChoice__recall_Odd_2X l_slices_IndexFunc_TreeChoice__recall_Odd_2R)
 | 0, _, _, _, _ => none
 | m + 1, s0, s7, s8, b16_0 =>
  if decide (s8 < s7) = true then
   if (0 : Int) ≤ s8 then
    if s8 < s0.length then
     if ((s0.getD s8.toNat (0, [])).1 == b16_0) = true then
      some (.ret (s8, b16_0, ()))
     else
      l_slices_IndexFunc_TreeChoice__recall_Odd_2 m s0 s7 (IntKind.i64.wrap (s8 + 1)) b16_0
    else none
   else none
  else
   some (.exit (b16_0, ()))
def l_slices_IndexFunc_TreeChoice__recall_Odd_2L : LSpec := { h := l_slices_IndexFunc_TreeChoice__recall_Odd_2H, x := l_slices_IndexFunc_TreeChoice__recall_Odd_2X, r := l_slices_IndexFunc_TreeChoice__recall_Odd_2R, xid := 0, rt := true, pins := [36, 16], f := fun k d => l_slices_IndexFunc_TreeChoice__recall_Odd_2 k d.1 d.2.1 d.2.2.1 d.2.2.2.1 }
def LL_recall_Odd : Loops := [([51, 54], [(2, l_slices_IndexFunc_TreeChoice__recall_Odd_2L)])]
def f_recall_Odd (k : Nat) (a0 : List (Int × (List ByteArray))) (a1 : Int) (a2 : Int) : Option (Bool × ((List Int) × (List Int))) :=
 match l_slices_IndexFunc_TreeChoice__recall_Odd_2 k a0 (a0.length : Int) 0 a1 with
 | none => none
 | some (.exit d1) =>
  none
 | some (.ret d1) =>
  if (0 : Int) ≤ d1.1 then
   if d1.1 < a0.length then
    if (0 : Int) ≤ a2 then
     if a2 < ((a0.getD d1.1.toNat (0, [])).2).length then
      (f_rat_In fuel (((a0.getD d1.1.toNat (0, [])).2).getD a2.toNat ByteArray.empty)).bind fun r3 =>
      some r3
     else none
    else none
   else none
  else none
theorem l_slices_IndexFunc_TreeChoice__recall_Odd_2_step (m : Nat) (d : dens l_slices_IndexFunc_TreeChoice__recall_Odd_2H.tys) : l_slices_IndexFunc_TreeChoice__recall_Odd_2L.f (m + 1) d = round E_recall_Odd LL_recall_Odd m [51, 54] 19 (loopN (bodyOf Tryz.f51) 0) l_slices_IndexFunc_TreeChoice__recall_Odd_2L (l_slices_IndexFunc_TreeChoice__recall_Odd_2L.f m) d := by kernel_rfl
theorem f_recall_Odd_run (k : Nat) (x : denL [.slice (.pair (.int .i64) (.slice .str)), .int .i64, .int .i64]) : runFn E_recall_Odd LL_recall_Odd k 54 Tryz.f54 [.slice (.pair (.int .i64) (.slice .str)), .int .i64, .int .i64] [.imm (.pair .bool (.pair (.slice (.int .u32)) (.slice (.int .u32))))] x = f_recall_Odd k x.1 x.2.1 x.2.2 := by kernel_rfl
noncomputable def S_recall_Odd : Vm.Spec := { ps := [.slice (.pair (.int .i64) (.slice .str)), .int .i64, .int .i64], rs := [.imm (.pair .bool (.pair (.slice (.int .u32)) (.slice (.int .u32))))], f := fun x => f_recall_Odd fuel x.1 x.2.1 x.2.2 }
theorem f_recall_Odd_holds : Vm.Spec.holds Tryz.prog 54 S_recall_Odd := by
 have hB : BodiesOk Tryz.prog E_recall_Odd := bodies_ok (by exact ⟨by kernel_rfl, by kernel_rfl, by kernel_rfl, by kernel_rfl, trivial⟩)
 have hBS : BodiesStepped E_recall_Odd LL_recall_Odd := by
  refine bodies_stepped ?_
  exact ⟨(stepped_paths [[54]] (by exact ⟨stepped_of (ls := [(2, l_slices_IndexFunc_TreeChoice__recall_Odd_2L)]) rfl rfl ⟨by kernel_rfl, fun _ => rfl, l_slices_IndexFunc_TreeChoice__recall_Odd_2_step, stepsI_end (by kernel_rfl)⟩,  trivial⟩) rfl), (fun _ => stepped_noloop (by kernel_rfl)),  trivial⟩
 have hS : SpecsOk Tryz.prog E_recall_Odd := specs_ok (by exact ⟨⟨by kernel_rfl, f_rat_In_holds⟩, trivial⟩)
 have hE : EOk Tryz.prog E_recall_Odd := eok_te ok
 exact fn_sound (L := LL_recall_Odd) hE hS hB (draws_ok hE hS (by kernel_rfl)) hBS (fn := Tryz.f54) (by kernel_rfl) (c := bodyOf Tryz.f54) (by kernel_rfl) (stepped_none rfl) fun x r h => ⟨fuel, (f_recall_Odd_run fuel x).trans h⟩
noncomputable def E_reply_Reach : Env := { te := te, spec := [(34, S_rat_In), (41, S_rat_Q_Mul), (53, S_rat_Int), (54, S_recall_Odd)], body := [], flat := [106] }
def l_reply_Reach_7H : Ann := { slots := [(3, .one (.fix (.pbox 12 0))), (5, .one (.own 48 (.pair .bool (.pair (.slice (.int .u32)) (.slice (.int .u32)))))), (6, .one (.val (.int .i64))), (7, .one (.fix (.pbox 28 0))), (24, .one (.val (.slice (.int .i64)))), (25, .one (.val (.int .i64))), (26, .one (.val (.int .i64)))], objs := [(12, .box [.val (.arr 2 (.nsl (.pair (.int .i64) (.slice .str))))]), (48, .buf (.pair .bool (.pair (.slice (.int .u32)) (.slice (.int .u32))))), (28, .box [.val (.int .i64), .val (.int .i64), .val (.int .i64), .val (.slice (.int .i64)), .val (.slice .str), .val .str])] }
def l_reply_Reach_7X : Ann := { slots := [(3, .one (.fix (.pbox 12 0))), (5, .one (.own 48 (.pair .bool (.pair (.slice (.int .u32)) (.slice (.int .u32))))))], objs := [(12, .box [.val (.arr 2 (.nsl (.pair (.int .i64) (.slice .str))))]), (48, .buf (.pair .bool (.pair (.slice (.int .u32)) (.slice (.int .u32))))), (28, .box [.val (.int .i64), .val (.int .i64), .val (.int .i64), .val (.slice (.int .i64)), .val (.slice .str), .val .str])] }
def l_reply_Reach_7R : Ann := { slots := [], objs := [] }
def l_reply_Reach_4H : Ann := { slots := [(3, .one (.fix (.pbox 12 0))), (5, .one (.own 48 (.pair .bool (.pair (.slice (.int .u32)) (.slice (.int .u32)))))), (16, .one (.val (.slice (.pair (.int .i64) (.pair (.int .i64) (.pair (.int .i64) (.pair (.slice (.int .i64)) (.pair (.slice .str) .str)))))))), (17, .one (.val (.int .i64))), (18, .one (.val (.int .i64)))], objs := [(12, .box [.val (.arr 2 (.nsl (.pair (.int .i64) (.slice .str))))]), (48, .buf (.pair .bool (.pair (.slice (.int .u32)) (.slice (.int .u32)))))] }
def l_reply_Reach_4X : Ann := { slots := [(5, .one (.own 48 (.pair .bool (.pair (.slice (.int .u32)) (.slice (.int .u32))))))], objs := [(48, .buf (.pair .bool (.pair (.slice (.int .u32)) (.slice (.int .u32))))), (12, .box [.val (.arr 2 (.nsl (.pair (.int .i64) (.slice .str))))])] }
def l_reply_Reach_4R : Ann := { slots := [], objs := [] }
def l_reply_Reach_7 : Nat → Int → List Int → Int → Int → List (Option (List (Int × (List ByteArray)))) → List (Bool × ((List Int) × (List Int))) → Int → Int → Int → List Int → List ByteArray → ByteArray → Option (LR l_reply_Reach_7X l_reply_Reach_7R)
 | 0, _, _, _, _, _, _, _, _, _, _, _, _ => none
 | m + 1, s6, s24, s25, s26, b12_0, b48, b28_0, b28_1, b28_2, b28_3, b28_4, b28_5 =>
  if decide (s26 < s25) = true then
   if (0 : Int) ≤ s26 then
    if s26 < s24.length then
     if (0 : Int) ≤ s6 then
      if s6 < b48.length then
       if (0 : Int) ≤ s24.getD s26.toNat 0 then
        if s24.getD s26.toNat 0 < b48.length then
         if (b28_0 == 1) = true then
          if (0 : Int) ≤ s6 then
           if s6 < (b48.set ((s24.getD s26.toNat 0).toNat) ((b48.getD s6.toNat (false, ([], []))).1, ((b48.getD s6.toNat (false, ([], []))).2))).length then
            if (0 : Int) ≤ s26 then
             if s26 < b28_4.length then
              (f_rat_In fuel (b28_4.getD s26.toNat ByteArray.empty)).bind fun r1 =>
              (f_rat_Q_Mul fuel (((b48.set ((s24.getD s26.toNat 0).toNat) ((b48.getD s6.toNat (false, ([], []))).1, ((b48.getD s6.toNat (false, ([], []))).2))).getD s6.toNat (false, ([], []))).1, (((b48.set ((s24.getD s26.toNat 0).toNat) ((b48.getD s6.toNat (false, ([], []))).1, ((b48.getD s6.toNat (false, ([], []))).2))).getD s6.toNat (false, ([], []))).2)) r1).bind fun r2 =>
              if (0 : Int) ≤ s24.getD s26.toNat 0 then
               if s24.getD s26.toNat 0 < (b48.set ((s24.getD s26.toNat 0).toNat) ((b48.getD s6.toNat (false, ([], []))).1, ((b48.getD s6.toNat (false, ([], []))).2))).length then
                l_reply_Reach_7 m s6 s24 s25 (IntKind.i64.wrap (s26 + 1)) b12_0 ((b48.set ((s24.getD s26.toNat 0).toNat) ((b48.getD s6.toNat (false, ([], []))).1, ((b48.getD s6.toNat (false, ([], []))).2))).set ((s24.getD s26.toNat 0).toNat) r2) b28_0 b28_1 b28_2 b28_3 b28_4 b28_5
               else none
              else none
             else none
            else none
           else none
          else none
         else
          if (0 : Int) ≤ b28_1 then
           if b28_1 < 2 then
            if (!((b12_0.getD b28_1.toNat none).isNone)) = true then
             if (0 : Int) ≤ s6 then
              if s6 < (b48.set ((s24.getD s26.toNat 0).toNat) ((b48.getD s6.toNat (false, ([], []))).1, ((b48.getD s6.toNat (false, ([], []))).2))).length then
               if (0 : Int) ≤ b28_1 then
                if b28_1 < 2 then
                 (f_recall_Odd fuel ((b12_0.getD b28_1.toNat none).getD []) b28_2 s26).bind fun r3 =>
                 (f_rat_Q_Mul fuel (((b48.set ((s24.getD s26.toNat 0).toNat) ((b48.getD s6.toNat (false, ([], []))).1, ((b48.getD s6.toNat (false, ([], []))).2))).getD s6.toNat (false, ([], []))).1, (((b48.set ((s24.getD s26.toNat 0).toNat) ((b48.getD s6.toNat (false, ([], []))).1, ((b48.getD s6.toNat (false, ([], []))).2))).getD s6.toNat (false, ([], []))).2)) r3).bind fun r4 =>
                 if (0 : Int) ≤ s24.getD s26.toNat 0 then
                  if s24.getD s26.toNat 0 < (b48.set ((s24.getD s26.toNat 0).toNat) ((b48.getD s6.toNat (false, ([], []))).1, ((b48.getD s6.toNat (false, ([], []))).2))).length then
                   l_reply_Reach_7 m s6 s24 s25 (IntKind.i64.wrap (s26 + 1)) b12_0 ((b48.set ((s24.getD s26.toNat 0).toNat) ((b48.getD s6.toNat (false, ([], []))).1, ((b48.getD s6.toNat (false, ([], []))).2))).set ((s24.getD s26.toNat 0).toNat) r4) b28_0 b28_1 b28_2 b28_3 b28_4 b28_5
                  else none
                 else none
                else none
               else none
              else none
             else none
            else
             l_reply_Reach_7 m s6 s24 s25 (IntKind.i64.wrap (s26 + 1)) b12_0 (b48.set ((s24.getD s26.toNat 0).toNat) ((b48.getD s6.toNat (false, ([], []))).1, ((b48.getD s6.toNat (false, ([], []))).2))) b28_0 b28_1 b28_2 b28_3 b28_4 b28_5
           else none
          else none
        else none
       else none
      else none
     else none
    else none
   else none
  else
   some (.exit (b12_0, b48, b28_0, b28_1, b28_2, b28_3, b28_4, b28_5, ()))
def l_reply_Reach_7L : LSpec := { h := l_reply_Reach_7H, x := l_reply_Reach_7X, r := l_reply_Reach_7R, xid := 2, rt := false, pins := [12, 48, 28], f := fun k d => l_reply_Reach_7 k d.1 d.2.1 d.2.2.1 d.2.2.2.1 d.2.2.2.2.1 d.2.2.2.2.2.1 d.2.2.2.2.2.2.1 d.2.2.2.2.2.2.2.1 d.2.2.2.2.2.2.2.2.1 d.2.2.2.2.2.2.2.2.2.1 d.2.2.2.2.2.2.2.2.2.2.1 d.2.2.2.2.2.2.2.2.2.2.2.1 }
def l_reply_Reach_4 : Nat → List (Int × (Int × (Int × ((List Int) × ((List ByteArray) × ByteArray))))) → Int → Int → List (Option (List (Int × (List ByteArray)))) → List (Bool × ((List Int) × (List Int))) → Option (LR l_reply_Reach_4X l_reply_Reach_4R)
 | 0, _, _, _, _, _ => none
 | m + 1, s16, s17, s18, b12_0, b48 =>
  if decide (s18 < s17) = true then
   if (0 : Int) ≤ s18 then
    if s18 < s16.length then
     match l_reply_Reach_7 m s18 (((((s16.getD s18.toNat (0, (0, (0, ([], ([], ByteArray.empty)))))).2).2).2).1) ((((((s16.getD s18.toNat (0, (0, (0, ([], ([], ByteArray.empty)))))).2).2).2).1).length : Int) 0 b12_0 b48 ((s16.getD s18.toNat (0, (0, (0, ([], ([], ByteArray.empty)))))).1) (((s16.getD s18.toNat (0, (0, (0, ([], ([], ByteArray.empty)))))).2).1) ((((s16.getD s18.toNat (0, (0, (0, ([], ([], ByteArray.empty)))))).2).2).1) (((((s16.getD s18.toNat (0, (0, (0, ([], ([], ByteArray.empty)))))).2).2).2).1) ((((((s16.getD s18.toNat (0, (0, (0, ([], ([], ByteArray.empty)))))).2).2).2).2).1) ((((((s16.getD s18.toNat (0, (0, (0, ([], ([], ByteArray.empty)))))).2).2).2).2).2) with
     | none => none
     | some (.exit d1) =>
      l_reply_Reach_4 m s16 s17 (IntKind.i64.wrap (s18 + 1)) d1.1 d1.2.1
     | some (.ret d1) =>
      none
    else none
   else none
  else
   some (.exit (b48, b12_0, ()))
def l_reply_Reach_4L : LSpec := { h := l_reply_Reach_4H, x := l_reply_Reach_4X, r := l_reply_Reach_4R, xid := 0, rt := false, pins := [12, 48], f := fun k d => l_reply_Reach_4 k d.1 d.2.1 d.2.2.1 d.2.2.2.1 d.2.2.2.2.1 }
def LL_reply_Reach : Loops := [([29], [(4, l_reply_Reach_4L), (7, l_reply_Reach_7L)])]
def f_reply_Reach (k : Nat) (a0 : List (Int × (Int × (Int × ((List Int) × ((List ByteArray) × ByteArray)))))) (a1 : List (Option (List (Int × (List ByteArray))))) : Option (List (Bool × ((List Int) × (List Int)))) :=
 if (0 : Int) ≤ (a0.length : Int) then
  if (a0.length : Int) ≤ (a0.length : Int) then
   if (a0.length : Int) * 56 ≤ 281474976710656 then
    (f_rat_Int fuel 1).bind fun r1 =>
    if (0 : Int) < (List.replicate ((a0.length : Int).toNat) ((false, ([], [])) : Bool × ((List Int) × (List Int)))).length then
     match l_reply_Reach_4 k a0 (a0.length : Int) 0 a1 ((List.replicate ((a0.length : Int).toNat) ((false, ([], [])) : Bool × ((List Int) × (List Int)))).set 0 r1) with
     | none => none
     | some (.exit d2) =>
      some d2.1
     | some (.ret d2) =>
      none
    else none
   else none
  else none
 else none
theorem l_reply_Reach_7_step (m : Nat) (d : dens l_reply_Reach_7H.tys) : l_reply_Reach_7L.f (m + 1) d = round E_reply_Reach LL_reply_Reach m [29] 81 (loopN (bodyOf Tryz.f29) 1) l_reply_Reach_7L (l_reply_Reach_7L.f m) d := by kernel_rfl
theorem l_reply_Reach_4_step (m : Nat) (d : dens l_reply_Reach_4H.tys) : l_reply_Reach_4L.f (m + 1) d = round E_reply_Reach LL_reply_Reach m [29] 81 (loopN (bodyOf Tryz.f29) 0) l_reply_Reach_4L (l_reply_Reach_4L.f m) d := by kernel_rfl
theorem f_reply_Reach_run (k : Nat) (x : denL [.slice (.pair (.int .i64) (.pair (.int .i64) (.pair (.int .i64) (.pair (.slice (.int .i64)) (.pair (.slice .str) .str))))), .arr 2 (.nsl (.pair (.int .i64) (.slice .str)))]) : runFn E_reply_Reach LL_reply_Reach k 29 Tryz.f29 [.slice (.pair (.int .i64) (.pair (.int .i64) (.pair (.int .i64) (.pair (.slice (.int .i64)) (.pair (.slice .str) .str))))), .arr 2 (.nsl (.pair (.int .i64) (.slice .str)))] [.fresh (.pair .bool (.pair (.slice (.int .u32)) (.slice (.int .u32))))] x = f_reply_Reach k x.1 x.2 := by kernel_rfl
noncomputable def S_reply_Reach : Vm.Spec := { ps := [.slice (.pair (.int .i64) (.pair (.int .i64) (.pair (.int .i64) (.pair (.slice (.int .i64)) (.pair (.slice .str) .str))))), .arr 2 (.nsl (.pair (.int .i64) (.slice .str)))], rs := [.fresh (.pair .bool (.pair (.slice (.int .u32)) (.slice (.int .u32))))], f := fun x => f_reply_Reach fuel x.1 x.2 }
theorem f_reply_Reach_holds : Vm.Spec.holds Tryz.prog 29 S_reply_Reach := by
 have hB : BodiesOk Tryz.prog E_reply_Reach := bodies_none rfl
 have hBS : BodiesStepped E_reply_Reach LL_reply_Reach := bodies_stepped_none rfl
 have hS : SpecsOk Tryz.prog E_reply_Reach := specs_ok (by exact ⟨⟨by kernel_rfl, f_rat_In_holds⟩, ⟨by kernel_rfl, f_rat_Q_Mul_holds⟩, ⟨by kernel_rfl, f_rat_Int_holds⟩, ⟨by kernel_rfl, f_recall_Odd_holds⟩, trivial⟩)
 have hE : EOk Tryz.prog E_reply_Reach := eok_te ok
 exact fn_sound (L := LL_reply_Reach) hE hS hB (draws_ok hE hS (by kernel_rfl)) hBS (fn := Tryz.f29) (by kernel_rfl) (c := bodyOf Tryz.f29) (by kernel_rfl) (stepped_of (ls := [(4, l_reply_Reach_4L), (7, l_reply_Reach_7L)]) rfl rfl ⟨by kernel_rfl, fun _ => rfl, l_reply_Reach_4_step, by kernel_rfl, fun _ => rfl, l_reply_Reach_7_step, stepsI_end (by kernel_rfl)⟩) fun x r h => ⟨fuel, (f_reply_Reach_run fuel x).trans h⟩
noncomputable def E_reply_Odds : Env := { te := te, spec := [(20, S_reply_Check), (29, S_reply_Reach), (31, S_rat_Told)], body := [(30, Tryz.f30)], flat := [106] }
def l_reply_Odds_6H : Ann := { slots := [(9, .one (.own 176 .str)), (27, .one (.own 108 (.pair .bool (.pair (.slice (.int .u32)) (.slice (.int .u32)))))), (28, .one (.val (.int .i64))), (29, .one (.val (.int .i64)))], objs := [(176, .buf .str), (108, .buf (.pair .bool (.pair (.slice (.int .u32)) (.slice (.int .u32)))))] }
def l_reply_Odds_6X : Ann := { slots := [(9, .one (.own 176 .str))], objs := [(176, .buf .str), (108, .buf (.pair .bool (.pair (.slice (.int .u32)) (.slice (.int .u32)))))] }
def l_reply_Odds_6R : Ann := { slots := [(6, .one (.fix .nil)), (7, .one (.val (.int .i64)))], objs := [(108, .buf (.pair .bool (.pair (.slice (.int .u32)) (.slice (.int .u32)))))] }
def l_reply_Odds_6 : Nat → Int → Int → List ByteArray → List (Bool × ((List Int) × (List Int))) → Option (LR l_reply_Odds_6X l_reply_Odds_6R)
 | 0, _, _, _, _ => none
 | m + 1, s28, s29, b176, b108 =>
  if decide (s29 < s28) = true then
   if (0 : Int) ≤ s29 then
    if s29 < b108.length then
     (f_rat_Told fuel ((b108.getD s29.toNat (false, ([], []))).1, ((b108.getD s29.toNat (false, ([], []))).2))).bind fun r1 =>
     if (r1.2 != 0) = true then
      some (.ret (r1.2, b108, ()))
     else
      if (b176.length + 1) * 16 ≤ 140737488355328 then
       l_reply_Odds_6 m s28 (IntKind.i64.wrap (s29 + 1)) (b176 ++ [r1.1]) b108
      else none
    else none
   else none
  else
   some (.exit (b176, b108, ()))
def l_reply_Odds_6L : LSpec := { h := l_reply_Odds_6H, x := l_reply_Odds_6X, r := l_reply_Odds_6R, xid := 0, rt := true, pins := [108], f := fun k d => l_reply_Odds_6 k d.1 d.2.1 d.2.2.1 d.2.2.2.1 }
def LL_reply_Odds : Loops := [([9], [(6, l_reply_Odds_6L)])]
def f_reply_Odds (k : Nat) (a0 : List (Int × (Int × (Int × ((List Int) × ((List ByteArray) × ByteArray)))))) (a1 : List (Int × (List ByteArray))) (a2 : List (Int × (List ByteArray))) : Option (List ByteArray × Int) :=
 (f_reply_Check fuel a0 a1 a2).bind fun r1 =>
 if (r1 != 0) = true then
  some ([], r1)
 else
  if (0 + a1.length) * 32 ≤ 140737488355328 then
   if (0 + a2.length) * 32 ≤ 140737488355328 then
    (f_reply_Reach fuel a0 [some ([] ++ a1), some ([] ++ a2)]).bind fun r2 =>
    match l_reply_Odds_6 k (r2.length : Int) 0 [] r2 with
    | none => none
    | some (.exit d3) =>
     some (d3.1, 0)
    | some (.ret d3) =>
     some ([], d3.1)
   else none
  else none
theorem l_reply_Odds_6_step (m : Nat) (d : dens l_reply_Odds_6H.tys) : l_reply_Odds_6L.f (m + 1) d = round E_reply_Odds LL_reply_Odds m [9] 47 (loopN (bodyOf Tryz.f9) 0) l_reply_Odds_6L (l_reply_Odds_6L.f m) d := by kernel_rfl
theorem f_reply_Odds_run (k : Nat) (x : denL [.slice (.pair (.int .i64) (.pair (.int .i64) (.pair (.int .i64) (.pair (.slice (.int .i64)) (.pair (.slice .str) .str))))), .slice (.pair (.int .i64) (.slice .str)), .slice (.pair (.int .i64) (.slice .str))]) : runFn E_reply_Odds LL_reply_Odds k 9 Tryz.f9 [.slice (.pair (.int .i64) (.pair (.int .i64) (.pair (.int .i64) (.pair (.slice (.int .i64)) (.pair (.slice .str) .str))))), .slice (.pair (.int .i64) (.slice .str)), .slice (.pair (.int .i64) (.slice .str))] [.fresh .str, .imm (.int .i64)] x = f_reply_Odds k x.1 x.2.1 x.2.2 := by kernel_rfl
noncomputable def S_reply_Odds : Vm.Spec := { ps := [.slice (.pair (.int .i64) (.pair (.int .i64) (.pair (.int .i64) (.pair (.slice (.int .i64)) (.pair (.slice .str) .str))))), .slice (.pair (.int .i64) (.slice .str)), .slice (.pair (.int .i64) (.slice .str))], rs := [.fresh .str, .imm (.int .i64)], f := fun x => f_reply_Odds fuel x.1 x.2.1 x.2.2 }
theorem f_reply_Odds_holds : Vm.Spec.holds Tryz.prog 9 S_reply_Odds := by
 have hB : BodiesOk Tryz.prog E_reply_Odds := bodies_ok (by exact ⟨by kernel_rfl, by kernel_rfl, trivial⟩)
 have hBS : BodiesStepped E_reply_Odds LL_reply_Odds := by
  refine bodies_stepped ?_
  exact ⟨(fun _ => stepped_noloop (by kernel_rfl)),  trivial⟩
 have hS : SpecsOk Tryz.prog E_reply_Odds := specs_ok (by exact ⟨⟨by kernel_rfl, f_reply_Check_holds⟩, ⟨by kernel_rfl, f_reply_Reach_holds⟩, ⟨by kernel_rfl, f_rat_Told_holds⟩, trivial⟩)
 have hE : EOk Tryz.prog E_reply_Odds := eok_te ok
 exact fn_sound (L := LL_reply_Odds) hE hS hB (draws_ok hE hS (by kernel_rfl)) hBS (fn := Tryz.f9) (by kernel_rfl) (c := bodyOf Tryz.f9) (by kernel_rfl) (stepped_of (ls := [(6, l_reply_Odds_6L)]) rfl rfl ⟨by kernel_rfl, fun _ => rfl, l_reply_Odds_6_step, stepsI_end (by kernel_rfl)⟩) fun x r h => ⟨fuel, (f_reply_Odds_run fuel x).trans h⟩
noncomputable def E_tree_Player : Env := { te := te, spec := [(48, S_tree_Check)], body := [], flat := [106] }
def LL_tree_Player : Loops := []
def f_tree_Player (k : Nat) (a0 : List (Int × (Int × (Int × ((List Int) × ((List ByteArray) × ByteArray)))))) (a1 : Int) : Option (Int) :=
 (f_tree_Check fuel a0).bind fun r1 =>
 if (r1 != 0) = true then
  some r1
 else
  if (a1 != 0) = true then
   if (a1 != 1) = true then
    some 4
   else
    some 0
  else
   some 0
theorem f_tree_Player_run (k : Nat) (x : denL [.slice (.pair (.int .i64) (.pair (.int .i64) (.pair (.int .i64) (.pair (.slice (.int .i64)) (.pair (.slice .str) .str))))), .int .i64]) : runFn E_tree_Player LL_tree_Player k 37 Tryz.f37 [.slice (.pair (.int .i64) (.pair (.int .i64) (.pair (.int .i64) (.pair (.slice (.int .i64)) (.pair (.slice .str) .str))))), .int .i64] [.imm (.int .i64)] x = f_tree_Player k x.1 x.2 := by kernel_rfl
noncomputable def S_tree_Player : Vm.Spec := { ps := [.slice (.pair (.int .i64) (.pair (.int .i64) (.pair (.int .i64) (.pair (.slice (.int .i64)) (.pair (.slice .str) .str))))), .int .i64], rs := [.imm (.int .i64)], f := fun x => f_tree_Player fuel x.1 x.2 }
theorem f_tree_Player_holds : Vm.Spec.holds Tryz.prog 37 S_tree_Player := by
 have hB : BodiesOk Tryz.prog E_tree_Player := bodies_none rfl
 have hBS : BodiesStepped E_tree_Player LL_tree_Player := bodies_stepped_none rfl
 have hS : SpecsOk Tryz.prog E_tree_Player := specs_ok (by exact ⟨⟨by kernel_rfl, f_tree_Check_holds⟩, trivial⟩)
 have hE : EOk Tryz.prog E_tree_Player := eok_te ok
 exact fn_sound (L := LL_tree_Player) hE hS hB (draws_ok hE hS (by kernel_rfl)) hBS (fn := Tryz.f37) (by kernel_rfl) (c := bodyOf Tryz.f37) (by kernel_rfl) (stepped_none rfl) fun x r h => ⟨fuel, (f_tree_Player_run fuel x).trans h⟩
noncomputable def E_slices_Clone_step : Env := { te := te, spec := [], body := [], flat := [106] }
def LL_slices_Clone_step : Loops := []
def f_slices_Clone_step (k : Nat) (a0 : Option (List (Int × Int))) : Option (List (Int × Int)) :=
 if a0.isNone = true then
  some []
 else
  if (0 + (a0.getD []).length) * 16 ≤ 140737488355328 then
   some ([] ++ (a0.getD []))
  else none
theorem f_slices_Clone_step_run (k : Nat) (x : denL [.nsl (.pair (.int .i64) (.int .i64))]) : runFn E_slices_Clone_step LL_slices_Clone_step k 82 Tryz.f82 [.nsl (.pair (.int .i64) (.int .i64))] [.fresh (.pair (.int .i64) (.int .i64))] x = f_slices_Clone_step k x := by kernel_rfl
noncomputable def S_slices_Clone_step : Vm.Spec := { ps := [.nsl (.pair (.int .i64) (.int .i64))], rs := [.fresh (.pair (.int .i64) (.int .i64))], f := fun x => f_slices_Clone_step fuel x }
theorem f_slices_Clone_step_holds : Vm.Spec.holds Tryz.prog 82 S_slices_Clone_step := by
 have hB : BodiesOk Tryz.prog E_slices_Clone_step := bodies_none rfl
 have hBS : BodiesStepped E_slices_Clone_step LL_slices_Clone_step := bodies_stepped_none rfl
 have hS : SpecsOk Tryz.prog E_slices_Clone_step := specs_ok (by exact trivial)
 have hE : EOk Tryz.prog E_slices_Clone_step := eok_te ok
 exact fn_sound (L := LL_slices_Clone_step) hE hS hB (draws_ok hE hS (by kernel_rfl)) hBS (fn := Tryz.f82) (by kernel_rfl) (c := bodyOf Tryz.f82) (by kernel_rfl) (stepped_none rfl) fun x r h => ⟨fuel, (f_slices_Clone_step_run fuel x).trans h⟩
def f_slices_Clone_steps (x : List (Int × Int)) := f_slices_Clone_step fuel (some x)
noncomputable def S_slices_Clone_steps : Vm.Spec := { ps := [.slice (.pair (.int .i64) (.int .i64))], rs := [.fresh (.pair (.int .i64) (.int .i64))], f := f_slices_Clone_steps }
theorem f_slices_Clone_steps_holds : Vm.Spec.holds Tryz.prog 82 S_slices_Clone_steps := holds_nsl f_slices_Clone_step_holds fun xs r h => ⟨h, fun e => by subst e; exact h⟩
noncomputable def E_recall_paths : Env := { te := te, spec := [(82, S_slices_Clone_steps)], body := [], flat := [106] }
def l_recall_paths_6H : Ann := { slots := [(1, .one (.val (.int .i64))), (5, .one (.own 48 (.slice (.pair (.int .i64) (.int .i64))))), (6, .one (.val (.int .i64))), (7, .one (.fix (.pbox 28 0))), (21, .one (.val (.slice (.int .i64)))), (22, .one (.val (.int .i64))), (23, .one (.val (.int .i64)))], objs := [(48, .buf (.slice (.pair (.int .i64) (.int .i64)))), (28, .box [.val (.int .i64), .val (.int .i64), .val (.int .i64), .val (.slice (.int .i64)), .val (.slice .str), .val .str])] }
def l_recall_paths_6X : Ann := { slots := [(5, .one (.own 48 (.slice (.pair (.int .i64) (.int .i64)))))], objs := [(48, .buf (.slice (.pair (.int .i64) (.int .i64)))), (28, .box [.val (.int .i64), .val (.int .i64), .val (.int .i64), .val (.slice (.int .i64)), .val (.slice .str), .val .str])] }
def l_recall_paths_6R : Ann := { slots := [], objs := [] }
def l_recall_paths_3H : Ann := { slots := [(1, .one (.val (.int .i64))), (5, .one (.own 48 (.slice (.pair (.int .i64) (.int .i64))))), (13, .one (.val (.slice (.pair (.int .i64) (.pair (.int .i64) (.pair (.int .i64) (.pair (.slice (.int .i64)) (.pair (.slice .str) .str)))))))), (14, .one (.val (.int .i64))), (15, .one (.val (.int .i64)))], objs := [(48, .buf (.slice (.pair (.int .i64) (.int .i64))))] }
def l_recall_paths_3X : Ann := { slots := [(5, .one (.own 48 (.slice (.pair (.int .i64) (.int .i64)))))], objs := [(48, .buf (.slice (.pair (.int .i64) (.int .i64))))] }
def l_recall_paths_3R : Ann := { slots := [], objs := [] }
def l_recall_paths_6 : Nat → Int → Int → List Int → Int → Int → List (List (Int × Int)) → Int → Int → Int → List Int → List ByteArray → ByteArray → Option (LR l_recall_paths_6X l_recall_paths_6R)
 | 0, _, _, _, _, _, _, _, _, _, _, _, _ => none
 | m + 1, s1, s6, s21, s22, s23, b48, b28_0, b28_1, b28_2, b28_3, b28_4, b28_5 =>
  if decide (s23 < s22) = true then
   if (0 : Int) ≤ s23 then
    if s23 < s21.length then
     if (0 : Int) ≤ s6 then
      if s6 < b48.length then
       if (0 : Int) ≤ s21.getD s23.toNat 0 then
        if s21.getD s23.toNat 0 < b48.length then
         if (b28_0 == 2) = true then
          if (b28_1 == s1) = true then
           if (0 : Int) ≤ s6 then
            if s6 < (b48.set ((s21.getD s23.toNat 0).toNat) (b48.getD s6.toNat [])).length then
             (f_slices_Clone_steps ((b48.set ((s21.getD s23.toNat 0).toNat) (b48.getD s6.toNat [])).getD s6.toNat [])).bind fun r1 =>
             if (r1.length + 1) * 16 ≤ 140737488355328 then
              if (0 : Int) ≤ s21.getD s23.toNat 0 then
               if s21.getD s23.toNat 0 < (b48.set ((s21.getD s23.toNat 0).toNat) (b48.getD s6.toNat [])).length then
                l_recall_paths_6 m s1 s6 s21 s22 (IntKind.i64.wrap (s23 + 1)) ((b48.set ((s21.getD s23.toNat 0).toNat) (b48.getD s6.toNat [])).set ((s21.getD s23.toNat 0).toNat) (r1 ++ [(b28_2, s23)])) b28_0 b28_1 b28_2 b28_3 b28_4 b28_5
               else none
              else none
             else none
            else none
           else none
          else
           l_recall_paths_6 m s1 s6 s21 s22 (IntKind.i64.wrap (s23 + 1)) (b48.set ((s21.getD s23.toNat 0).toNat) (b48.getD s6.toNat [])) b28_0 b28_1 b28_2 b28_3 b28_4 b28_5
         else
          l_recall_paths_6 m s1 s6 s21 s22 (IntKind.i64.wrap (s23 + 1)) (b48.set ((s21.getD s23.toNat 0).toNat) (b48.getD s6.toNat [])) b28_0 b28_1 b28_2 b28_3 b28_4 b28_5
        else none
       else none
      else none
     else none
    else none
   else none
  else
   some (.exit (b48, b28_0, b28_1, b28_2, b28_3, b28_4, b28_5, ()))
def l_recall_paths_6L : LSpec := { h := l_recall_paths_6H, x := l_recall_paths_6X, r := l_recall_paths_6R, xid := 2, rt := false, pins := [48, 28], f := fun k d => l_recall_paths_6 k d.1 d.2.1 d.2.2.1 d.2.2.2.1 d.2.2.2.2.1 d.2.2.2.2.2.1 d.2.2.2.2.2.2.1 d.2.2.2.2.2.2.2.1 d.2.2.2.2.2.2.2.2.1 d.2.2.2.2.2.2.2.2.2.1 d.2.2.2.2.2.2.2.2.2.2.1 d.2.2.2.2.2.2.2.2.2.2.2.1 }
def l_recall_paths_3 : Nat → Int → List (Int × (Int × (Int × ((List Int) × ((List ByteArray) × ByteArray))))) → Int → Int → List (List (Int × Int)) → Option (LR l_recall_paths_3X l_recall_paths_3R)
 | 0, _, _, _, _, _ => none
 | m + 1, s1, s13, s14, s15, b48 =>
  if decide (s15 < s14) = true then
   if (0 : Int) ≤ s15 then
    if s15 < s13.length then
     match l_recall_paths_6 m s1 s15 (((((s13.getD s15.toNat (0, (0, (0, ([], ([], ByteArray.empty)))))).2).2).2).1) ((((((s13.getD s15.toNat (0, (0, (0, ([], ([], ByteArray.empty)))))).2).2).2).1).length : Int) 0 b48 ((s13.getD s15.toNat (0, (0, (0, ([], ([], ByteArray.empty)))))).1) (((s13.getD s15.toNat (0, (0, (0, ([], ([], ByteArray.empty)))))).2).1) ((((s13.getD s15.toNat (0, (0, (0, ([], ([], ByteArray.empty)))))).2).2).1) (((((s13.getD s15.toNat (0, (0, (0, ([], ([], ByteArray.empty)))))).2).2).2).1) ((((((s13.getD s15.toNat (0, (0, (0, ([], ([], ByteArray.empty)))))).2).2).2).2).1) ((((((s13.getD s15.toNat (0, (0, (0, ([], ([], ByteArray.empty)))))).2).2).2).2).2) with
     | none => none
     | some (.exit d1) =>
      l_recall_paths_3 m s1 s13 s14 (IntKind.i64.wrap (s15 + 1)) d1.1
     | some (.ret d1) =>
      none
    else none
   else none
  else
   some (.exit (b48, ()))
def l_recall_paths_3L : LSpec := { h := l_recall_paths_3H, x := l_recall_paths_3X, r := l_recall_paths_3R, xid := 0, rt := false, pins := [48], f := fun k d => l_recall_paths_3 k d.1 d.2.1 d.2.2.1 d.2.2.2.1 d.2.2.2.2.1 }
def LL_recall_paths : Loops := [([66], [(3, l_recall_paths_3L), (6, l_recall_paths_6L)])]
def f_recall_paths (k : Nat) (a0 : List (Int × (Int × (Int × ((List Int) × ((List ByteArray) × ByteArray)))))) (a1 : Int) : Option (List (List (Int × Int))) :=
 if (0 : Int) ≤ (a0.length : Int) then
  if (a0.length : Int) ≤ (a0.length : Int) then
   if (a0.length : Int) * 24 ≤ 281474976710656 then
    match l_recall_paths_3 k a1 a0 (a0.length : Int) 0 (List.replicate ((a0.length : Int).toNat) []) with
    | none => none
    | some (.exit d1) =>
     some d1.1
    | some (.ret d1) =>
     none
   else none
  else none
 else none
theorem l_recall_paths_6_step (m : Nat) (d : dens l_recall_paths_6H.tys) : l_recall_paths_6L.f (m + 1) d = round E_recall_paths LL_recall_paths m [66] 61 (loopN (bodyOf Tryz.f66) 1) l_recall_paths_6L (l_recall_paths_6L.f m) d := by kernel_rfl
theorem l_recall_paths_3_step (m : Nat) (d : dens l_recall_paths_3H.tys) : l_recall_paths_3L.f (m + 1) d = round E_recall_paths LL_recall_paths m [66] 61 (loopN (bodyOf Tryz.f66) 0) l_recall_paths_3L (l_recall_paths_3L.f m) d := by kernel_rfl
theorem f_recall_paths_run (k : Nat) (x : denL [.slice (.pair (.int .i64) (.pair (.int .i64) (.pair (.int .i64) (.pair (.slice (.int .i64)) (.pair (.slice .str) .str))))), .int .i64]) : runFn E_recall_paths LL_recall_paths k 66 Tryz.f66 [.slice (.pair (.int .i64) (.pair (.int .i64) (.pair (.int .i64) (.pair (.slice (.int .i64)) (.pair (.slice .str) .str))))), .int .i64] [.fresh (.slice (.pair (.int .i64) (.int .i64)))] x = f_recall_paths k x.1 x.2 := by kernel_rfl
noncomputable def S_recall_paths : Vm.Spec := { ps := [.slice (.pair (.int .i64) (.pair (.int .i64) (.pair (.int .i64) (.pair (.slice (.int .i64)) (.pair (.slice .str) .str))))), .int .i64], rs := [.fresh (.slice (.pair (.int .i64) (.int .i64)))], f := fun x => f_recall_paths fuel x.1 x.2 }
theorem f_recall_paths_holds : Vm.Spec.holds Tryz.prog 66 S_recall_paths := by
 have hB : BodiesOk Tryz.prog E_recall_paths := bodies_none rfl
 have hBS : BodiesStepped E_recall_paths LL_recall_paths := bodies_stepped_none rfl
 have hS : SpecsOk Tryz.prog E_recall_paths := specs_ok (by exact ⟨⟨by kernel_rfl, f_slices_Clone_steps_holds⟩, trivial⟩)
 have hE : EOk Tryz.prog E_recall_paths := eok_te ok
 exact fn_sound (L := LL_recall_paths) hE hS hB (draws_ok hE hS (by kernel_rfl)) hBS (fn := Tryz.f66) (by kernel_rfl) (c := bodyOf Tryz.f66) (by kernel_rfl) (stepped_of (ls := [(3, l_recall_paths_3L), (6, l_recall_paths_6L)]) rfl rfl ⟨by kernel_rfl, fun _ => rfl, l_recall_paths_3_step, by kernel_rfl, fun _ => rfl, l_recall_paths_6_step, stepsI_end (by kernel_rfl)⟩) fun x r h => ⟨fuel, (f_recall_paths_run fuel x).trans h⟩
noncomputable def E_slices_Equal_step : Env := { te := te, spec := [], body := [], flat := [106] }
def l_slices_Equal_step_4H : Ann := { slots := [(0, .one (.val (.slice (.pair (.int .i64) (.int .i64))))), (1, .one (.val (.slice (.pair (.int .i64) (.int .i64))))), (12, .one (.val (.int .i64))), (13, .one (.val (.int .i64)))], objs := [] }
def l_slices_Equal_step_4X : Ann := { slots := [], objs := [] }
def l_slices_Equal_step_4R : Ann := { slots := [(4, .one (.val .bool))], objs := [] }
def l_slices_Equal_step_4 : Nat → List (Int × Int) → List (Int × Int) → Int → Int → Option (LR l_slices_Equal_step_4X l_slices_Equal_step_4R)
 | 0, _, _, _, _ => none
 | m + 1, s0, s1, s12, s13 =>
  if decide (s13 < s12) = true then
   if (0 : Int) ≤ s13 then
    if s13 < s0.length then
     if (0 : Int) ≤ s13 then
      if s13 < s1.length then
       if (!(((s0.getD s13.toNat (0, 0)).1 == (s1.getD s13.toNat (0, 0)).1) && (((s0.getD s13.toNat (0, 0)).2 == (s1.getD s13.toNat (0, 0)).2) && true))) = true then
        some (.ret (false, ()))
       else
        l_slices_Equal_step_4 m s0 s1 s12 (IntKind.i64.wrap (s13 + 1))
      else none
     else none
    else none
   else none
  else
   some (.exit ())
def l_slices_Equal_step_4L : LSpec := { h := l_slices_Equal_step_4H, x := l_slices_Equal_step_4X, r := l_slices_Equal_step_4R, xid := 0, rt := true, pins := [], f := fun k d => l_slices_Equal_step_4 k d.1 d.2.1 d.2.2.1 d.2.2.2.1 }
def LL_slices_Equal_step : Loops := [([67], [(4, l_slices_Equal_step_4L)])]
def f_slices_Equal_step (k : Nat) (a0 : List (Int × Int)) (a1 : List (Int × Int)) : Option (Bool) :=
 if ((a0.length : Int) != (a1.length : Int)) = true then
  some false
 else
  match l_slices_Equal_step_4 k a0 a1 (a0.length : Int) 0 with
  | none => none
  | some (.exit d1) =>
   some true
  | some (.ret d1) =>
   some d1.1
theorem l_slices_Equal_step_4_step (m : Nat) (d : dens l_slices_Equal_step_4H.tys) : l_slices_Equal_step_4L.f (m + 1) d = round E_slices_Equal_step LL_slices_Equal_step m [67] 26 (loopN (bodyOf Tryz.f67) 0) l_slices_Equal_step_4L (l_slices_Equal_step_4L.f m) d := by kernel_rfl
theorem f_slices_Equal_step_run (k : Nat) (x : denL [.slice (.pair (.int .i64) (.int .i64)), .slice (.pair (.int .i64) (.int .i64))]) : runFn E_slices_Equal_step LL_slices_Equal_step k 67 Tryz.f67 [.slice (.pair (.int .i64) (.int .i64)), .slice (.pair (.int .i64) (.int .i64))] [.imm .bool] x = f_slices_Equal_step k x.1 x.2 := by kernel_rfl
noncomputable def S_slices_Equal_step : Vm.Spec := { ps := [.slice (.pair (.int .i64) (.int .i64)), .slice (.pair (.int .i64) (.int .i64))], rs := [.imm .bool], f := fun x => f_slices_Equal_step fuel x.1 x.2 }
theorem f_slices_Equal_step_holds : Vm.Spec.holds Tryz.prog 67 S_slices_Equal_step := by
 have hB : BodiesOk Tryz.prog E_slices_Equal_step := bodies_none rfl
 have hBS : BodiesStepped E_slices_Equal_step LL_slices_Equal_step := bodies_stepped_none rfl
 have hS : SpecsOk Tryz.prog E_slices_Equal_step := specs_ok (by exact trivial)
 have hE : EOk Tryz.prog E_slices_Equal_step := eok_te ok
 exact fn_sound (L := LL_slices_Equal_step) hE hS hB (draws_ok hE hS (by kernel_rfl)) hBS (fn := Tryz.f67) (by kernel_rfl) (c := bodyOf Tryz.f67) (by kernel_rfl) (stepped_of (ls := [(4, l_slices_Equal_step_4L)]) rfl rfl ⟨by kernel_rfl, fun _ => rfl, l_slices_Equal_step_4_step, stepsI_end (by kernel_rfl)⟩) fun x r h => ⟨fuel, (f_slices_Equal_step_run fuel x).trans h⟩
noncomputable def E_recall_Fine : Env := { te := te, spec := [(66, S_recall_paths), (67, S_slices_Equal_step)], body := [], flat := [106] }
def l_recall_Fine_6H : Ann := { slots := [(1, .one (.val (.int .i64))), (5, .one (.own 48 (.slice (.pair (.int .i64) (.int .i64))))), (6, .one (.val (.int .i64))), (7, .one (.fix (.pbox 28 0))), (22, .one (.val (.slice (.pair (.int .i64) (.pair (.int .i64) (.pair (.int .i64) (.pair (.slice (.int .i64)) (.pair (.slice .str) .str)))))))), (23, .one (.val (.int .i64))), (24, .one (.val (.int .i64)))], objs := [(48, .buf (.slice (.pair (.int .i64) (.int .i64)))), (28, .box [.val (.int .i64), .val (.int .i64), .val (.int .i64), .val (.slice (.int .i64)), .val (.slice .str), .val .str])] }
def l_recall_Fine_6X : Ann := { slots := [(5, .one (.own 48 (.slice (.pair (.int .i64) (.int .i64)))))], objs := [(48, .buf (.slice (.pair (.int .i64) (.int .i64)))), (28, .box [.val (.int .i64), .val (.int .i64), .val (.int .i64), .val (.slice (.int .i64)), .val (.slice .str), .val .str])] }
def l_recall_Fine_6R : Ann := { slots := [(4, .one (.val .bool))], objs := [(48, .buf (.slice (.pair (.int .i64) (.int .i64)))), (28, .box [.val (.int .i64), .val (.int .i64), .val (.int .i64), .val (.slice (.int .i64)), .val (.slice .str), .val .str])] }
def l_recall_Fine_3H : Ann := { slots := [(0, .one (.val (.slice (.pair (.int .i64) (.pair (.int .i64) (.pair (.int .i64) (.pair (.slice (.int .i64)) (.pair (.slice .str) .str)))))))), (1, .one (.val (.int .i64))), (5, .one (.own 48 (.slice (.pair (.int .i64) (.int .i64))))), (13, .one (.val (.slice (.pair (.int .i64) (.pair (.int .i64) (.pair (.int .i64) (.pair (.slice (.int .i64)) (.pair (.slice .str) .str)))))))), (14, .one (.val (.int .i64))), (15, .one (.val (.int .i64)))], objs := [(48, .buf (.slice (.pair (.int .i64) (.int .i64))))] }
def l_recall_Fine_3X : Ann := { slots := [], objs := [(48, .buf (.slice (.pair (.int .i64) (.int .i64))))] }
def l_recall_Fine_3R : Ann := { slots := [(4, .one (.val .bool))], objs := [(48, .buf (.slice (.pair (.int .i64) (.int .i64))))] }
def l_recall_Fine_6 : Nat → Int → Int → List (Int × (Int × (Int × ((List Int) × ((List ByteArray) × ByteArray))))) → Int → Int → List (List (Int × Int)) → Int → Int → Int → List Int → List ByteArray → ByteArray → Option (LR l_recall_Fine_6X l_recall_Fine_6R)
 | 0, _, _, _, _, _, _, _, _, _, _, _, _ => none
 | m + 1, s1, s6, s22, s23, s24, b48, b28_0, b28_1, b28_2, b28_3, b28_4, b28_5 =>
  if decide (s24 < s23) = true then
   if (0 : Int) ≤ s24 then
    if s24 < s22.length then
     if (b28_0 == 2) = true then
      if ((s22.getD s24.toNat (0, (0, (0, ([], ([], ByteArray.empty)))))).1 == 2) = true then
       if (b28_1 == s1) = true then
        if (((s22.getD s24.toNat (0, (0, (0, ([], ([], ByteArray.empty)))))).2).1 == s1) = true then
         if (b28_2 == (((s22.getD s24.toNat (0, (0, (0, ([], ([], ByteArray.empty)))))).2).2).1) = true then
          if (0 : Int) ≤ s6 then
           if s6 < b48.length then
            if (0 : Int) ≤ s24 then
             if s24 < b48.length then
              (f_slices_Equal_step fuel (b48.getD s6.toNat []) (b48.getD s24.toNat [])).bind fun r1 =>
              if (!r1) = true then
               some (.ret (false, b48, b28_0, b28_1, b28_2, b28_3, b28_4, b28_5, ()))
              else
               l_recall_Fine_6 m s1 s6 s22 s23 (IntKind.i64.wrap (s24 + 1)) b48 b28_0 b28_1 b28_2 b28_3 b28_4 b28_5
             else none
            else none
           else none
          else none
         else
          l_recall_Fine_6 m s1 s6 s22 s23 (IntKind.i64.wrap (s24 + 1)) b48 b28_0 b28_1 b28_2 b28_3 b28_4 b28_5
        else
         l_recall_Fine_6 m s1 s6 s22 s23 (IntKind.i64.wrap (s24 + 1)) b48 b28_0 b28_1 b28_2 b28_3 b28_4 b28_5
       else
        l_recall_Fine_6 m s1 s6 s22 s23 (IntKind.i64.wrap (s24 + 1)) b48 b28_0 b28_1 b28_2 b28_3 b28_4 b28_5
      else
       l_recall_Fine_6 m s1 s6 s22 s23 (IntKind.i64.wrap (s24 + 1)) b48 b28_0 b28_1 b28_2 b28_3 b28_4 b28_5
     else
      l_recall_Fine_6 m s1 s6 s22 s23 (IntKind.i64.wrap (s24 + 1)) b48 b28_0 b28_1 b28_2 b28_3 b28_4 b28_5
    else none
   else none
  else
   some (.exit (b48, b28_0, b28_1, b28_2, b28_3, b28_4, b28_5, ()))
def l_recall_Fine_6L : LSpec := { h := l_recall_Fine_6H, x := l_recall_Fine_6X, r := l_recall_Fine_6R, xid := 2, rt := true, pins := [48, 28], f := fun k d => l_recall_Fine_6 k d.1 d.2.1 d.2.2.1 d.2.2.2.1 d.2.2.2.2.1 d.2.2.2.2.2.1 d.2.2.2.2.2.2.1 d.2.2.2.2.2.2.2.1 d.2.2.2.2.2.2.2.2.1 d.2.2.2.2.2.2.2.2.2.1 d.2.2.2.2.2.2.2.2.2.2.1 d.2.2.2.2.2.2.2.2.2.2.2.1 }
def l_recall_Fine_3 : Nat → List (Int × (Int × (Int × ((List Int) × ((List ByteArray) × ByteArray))))) → Int → List (Int × (Int × (Int × ((List Int) × ((List ByteArray) × ByteArray))))) → Int → Int → List (List (Int × Int)) → Option (LR l_recall_Fine_3X l_recall_Fine_3R)
 | 0, _, _, _, _, _, _ => none
 | m + 1, s0, s1, s13, s14, s15, b48 =>
  if decide (s15 < s14) = true then
   if (0 : Int) ≤ s15 then
    if s15 < s13.length then
     if (0 : Int) ≤ s15 then
      if s15 ≤ s0.length then
       match l_recall_Fine_6 m s1 s15 ((s0.take s15.toNat).drop 0) (((s0.take s15.toNat).drop 0).length : Int) 0 b48 ((s13.getD s15.toNat (0, (0, (0, ([], ([], ByteArray.empty)))))).1) (((s13.getD s15.toNat (0, (0, (0, ([], ([], ByteArray.empty)))))).2).1) ((((s13.getD s15.toNat (0, (0, (0, ([], ([], ByteArray.empty)))))).2).2).1) (((((s13.getD s15.toNat (0, (0, (0, ([], ([], ByteArray.empty)))))).2).2).2).1) ((((((s13.getD s15.toNat (0, (0, (0, ([], ([], ByteArray.empty)))))).2).2).2).2).1) ((((((s13.getD s15.toNat (0, (0, (0, ([], ([], ByteArray.empty)))))).2).2).2).2).2) with
       | none => none
       | some (.exit d1) =>
        l_recall_Fine_3 m s0 s1 s13 s14 (IntKind.i64.wrap (s15 + 1)) d1.1
       | some (.ret d1) =>
        some (.ret (d1.1, d1.2.1, ()))
      else none
     else none
    else none
   else none
  else
   some (.exit (b48, ()))
def l_recall_Fine_3L : LSpec := { h := l_recall_Fine_3H, x := l_recall_Fine_3X, r := l_recall_Fine_3R, xid := 0, rt := true, pins := [48], f := fun k d => l_recall_Fine_3 k d.1 d.2.1 d.2.2.1 d.2.2.2.1 d.2.2.2.2.1 d.2.2.2.2.2.1 }
def LL_recall_Fine : Loops := [([38], [(3, l_recall_Fine_3L), (6, l_recall_Fine_6L)])]
def f_recall_Fine (k : Nat) (a0 : List (Int × (Int × (Int × ((List Int) × ((List ByteArray) × ByteArray)))))) (a1 : Int) : Option (Bool) :=
 (f_recall_paths fuel a0 a1).bind fun r1 =>
 match l_recall_Fine_3 k a0 a1 a0 (a0.length : Int) 0 r1 with
 | none => none
 | some (.exit d2) =>
  some true
 | some (.ret d2) =>
  some d2.1
theorem l_recall_Fine_6_step (m : Nat) (d : dens l_recall_Fine_6H.tys) : l_recall_Fine_6L.f (m + 1) d = round E_recall_Fine LL_recall_Fine m [38] 70 (loopN (bodyOf Tryz.f38) 1) l_recall_Fine_6L (l_recall_Fine_6L.f m) d := by kernel_rfl
theorem l_recall_Fine_3_step (m : Nat) (d : dens l_recall_Fine_3H.tys) : l_recall_Fine_3L.f (m + 1) d = round E_recall_Fine LL_recall_Fine m [38] 70 (loopN (bodyOf Tryz.f38) 0) l_recall_Fine_3L (l_recall_Fine_3L.f m) d := by kernel_rfl
theorem f_recall_Fine_run (k : Nat) (x : denL [.slice (.pair (.int .i64) (.pair (.int .i64) (.pair (.int .i64) (.pair (.slice (.int .i64)) (.pair (.slice .str) .str))))), .int .i64]) : runFn E_recall_Fine LL_recall_Fine k 38 Tryz.f38 [.slice (.pair (.int .i64) (.pair (.int .i64) (.pair (.int .i64) (.pair (.slice (.int .i64)) (.pair (.slice .str) .str))))), .int .i64] [.imm .bool] x = f_recall_Fine k x.1 x.2 := by kernel_rfl
noncomputable def S_recall_Fine : Vm.Spec := { ps := [.slice (.pair (.int .i64) (.pair (.int .i64) (.pair (.int .i64) (.pair (.slice (.int .i64)) (.pair (.slice .str) .str))))), .int .i64], rs := [.imm .bool], f := fun x => f_recall_Fine fuel x.1 x.2 }
theorem f_recall_Fine_holds : Vm.Spec.holds Tryz.prog 38 S_recall_Fine := by
 have hB : BodiesOk Tryz.prog E_recall_Fine := bodies_none rfl
 have hBS : BodiesStepped E_recall_Fine LL_recall_Fine := bodies_stepped_none rfl
 have hS : SpecsOk Tryz.prog E_recall_Fine := specs_ok (by exact ⟨⟨by kernel_rfl, f_recall_paths_holds⟩, ⟨by kernel_rfl, f_slices_Equal_step_holds⟩, trivial⟩)
 have hE : EOk Tryz.prog E_recall_Fine := eok_te ok
 exact fn_sound (L := LL_recall_Fine) hE hS hB (draws_ok hE hS (by kernel_rfl)) hBS (fn := Tryz.f38) (by kernel_rfl) (c := bodyOf Tryz.f38) (by kernel_rfl) (stepped_of (ls := [(3, l_recall_Fine_3L), (6, l_recall_Fine_6L)]) rfl rfl ⟨by kernel_rfl, fun _ => rfl, l_recall_Fine_3_step, by kernel_rfl, fun _ => rfl, l_recall_Fine_6_step, stepsI_end (by kernel_rfl)⟩) fun x r h => ⟨fuel, (f_recall_Fine_run fuel x).trans h⟩
noncomputable def E_rat_Q_Neg : Env := { te := te, spec := [], body := [], flat := [106] }
def LL_rat_Q_Neg : Loops := []
def f_rat_Q_Neg (k : Nat) (a0 : Bool × ((List Int) × (List Int))) : Option (Bool × ((List Int) × (List Int))) :=
 if ((a0.2.1.length : Int) == 0) = true then
  some a0
 else
  some (!a0.1, a0.2)
theorem f_rat_Q_Neg_run (k : Nat) (x : denL [.pair .bool (.pair (.slice (.int .u32)) (.slice (.int .u32)))]) : runFn E_rat_Q_Neg LL_rat_Q_Neg k 43 Tryz.f43 [.pair .bool (.pair (.slice (.int .u32)) (.slice (.int .u32)))] [.imm (.pair .bool (.pair (.slice (.int .u32)) (.slice (.int .u32))))] x = f_rat_Q_Neg k x := by kernel_rfl
noncomputable def S_rat_Q_Neg : Vm.Spec := { ps := [.pair .bool (.pair (.slice (.int .u32)) (.slice (.int .u32)))], rs := [.imm (.pair .bool (.pair (.slice (.int .u32)) (.slice (.int .u32))))], f := fun x => f_rat_Q_Neg fuel x }
theorem f_rat_Q_Neg_holds : Vm.Spec.holds Tryz.prog 43 S_rat_Q_Neg := by
 have hB : BodiesOk Tryz.prog E_rat_Q_Neg := bodies_none rfl
 have hBS : BodiesStepped E_rat_Q_Neg LL_rat_Q_Neg := bodies_stepped_none rfl
 have hS : SpecsOk Tryz.prog E_rat_Q_Neg := specs_ok (by exact trivial)
 have hE : EOk Tryz.prog E_rat_Q_Neg := eok_te ok
 exact fn_sound (L := LL_rat_Q_Neg) hE hS hB (draws_ok hE hS (by kernel_rfl)) hBS (fn := Tryz.f43) (by kernel_rfl) (c := bodyOf Tryz.f43) (by kernel_rfl) (stepped_none rfl) fun x r h => ⟨fuel, (f_rat_Q_Neg_run fuel x).trans h⟩
noncomputable def E_rat_Q_Sub : Env := { te := te, spec := [(33, S_rat_Q_Add), (43, S_rat_Q_Neg)], body := [], flat := [106] }
def LL_rat_Q_Sub : Loops := []
def f_rat_Q_Sub (k : Nat) (a0 : Bool × ((List Int) × (List Int))) (a1 : Bool × ((List Int) × (List Int))) : Option (Bool × ((List Int) × (List Int))) :=
 (f_rat_Q_Neg fuel a1).bind fun r1 =>
 (f_rat_Q_Add fuel a0 r1).bind fun r2 =>
 some r2
theorem f_rat_Q_Sub_run (k : Nat) (x : denL [.pair .bool (.pair (.slice (.int .u32)) (.slice (.int .u32))), .pair .bool (.pair (.slice (.int .u32)) (.slice (.int .u32)))]) : runFn E_rat_Q_Sub LL_rat_Q_Sub k 75 Tryz.f75 [.pair .bool (.pair (.slice (.int .u32)) (.slice (.int .u32))), .pair .bool (.pair (.slice (.int .u32)) (.slice (.int .u32)))] [.imm (.pair .bool (.pair (.slice (.int .u32)) (.slice (.int .u32))))] x = f_rat_Q_Sub k x.1 x.2 := by kernel_rfl
noncomputable def S_rat_Q_Sub : Vm.Spec := { ps := [.pair .bool (.pair (.slice (.int .u32)) (.slice (.int .u32))), .pair .bool (.pair (.slice (.int .u32)) (.slice (.int .u32)))], rs := [.imm (.pair .bool (.pair (.slice (.int .u32)) (.slice (.int .u32))))], f := fun x => f_rat_Q_Sub fuel x.1 x.2 }
theorem f_rat_Q_Sub_holds : Vm.Spec.holds Tryz.prog 75 S_rat_Q_Sub := by
 have hB : BodiesOk Tryz.prog E_rat_Q_Sub := bodies_none rfl
 have hBS : BodiesStepped E_rat_Q_Sub LL_rat_Q_Sub := bodies_stepped_none rfl
 have hS : SpecsOk Tryz.prog E_rat_Q_Sub := specs_ok (by exact ⟨⟨by kernel_rfl, f_rat_Q_Add_holds⟩, ⟨by kernel_rfl, f_rat_Q_Neg_holds⟩, trivial⟩)
 have hE : EOk Tryz.prog E_rat_Q_Sub := eok_te ok
 exact fn_sound (L := LL_rat_Q_Sub) hE hS hB (draws_ok hE hS (by kernel_rfl)) hBS (fn := Tryz.f75) (by kernel_rfl) (c := bodyOf Tryz.f75) (by kernel_rfl) (stepped_none rfl) fun x r h => ⟨fuel, (f_rat_Q_Sub_run fuel x).trans h⟩
noncomputable def E_rat_Q_Cmp : Env := { te := te, spec := [(36, S_rat_Q_Sign), (75, S_rat_Q_Sub)], body := [], flat := [106] }
def LL_rat_Q_Cmp : Loops := []
def f_rat_Q_Cmp (k : Nat) (a0 : Bool × ((List Int) × (List Int))) (a1 : Bool × ((List Int) × (List Int))) : Option (Int) :=
 (f_rat_Q_Sub fuel a0 a1).bind fun r1 =>
 (f_rat_Q_Sign fuel r1).bind fun r2 =>
 some r2
theorem f_rat_Q_Cmp_run (k : Nat) (x : denL [.pair .bool (.pair (.slice (.int .u32)) (.slice (.int .u32))), .pair .bool (.pair (.slice (.int .u32)) (.slice (.int .u32)))]) : runFn E_rat_Q_Cmp LL_rat_Q_Cmp k 47 Tryz.f47 [.pair .bool (.pair (.slice (.int .u32)) (.slice (.int .u32))), .pair .bool (.pair (.slice (.int .u32)) (.slice (.int .u32)))] [.imm (.int .i64)] x = f_rat_Q_Cmp k x.1 x.2 := by kernel_rfl
noncomputable def S_rat_Q_Cmp : Vm.Spec := { ps := [.pair .bool (.pair (.slice (.int .u32)) (.slice (.int .u32))), .pair .bool (.pair (.slice (.int .u32)) (.slice (.int .u32)))], rs := [.imm (.int .i64)], f := fun x => f_rat_Q_Cmp fuel x.1 x.2 }
theorem f_rat_Q_Cmp_holds : Vm.Spec.holds Tryz.prog 47 S_rat_Q_Cmp := by
 have hB : BodiesOk Tryz.prog E_rat_Q_Cmp := bodies_none rfl
 have hBS : BodiesStepped E_rat_Q_Cmp LL_rat_Q_Cmp := bodies_stepped_none rfl
 have hS : SpecsOk Tryz.prog E_rat_Q_Cmp := specs_ok (by exact ⟨⟨by kernel_rfl, f_rat_Q_Sign_holds⟩, ⟨by kernel_rfl, f_rat_Q_Sub_holds⟩, trivial⟩)
 have hE : EOk Tryz.prog E_rat_Q_Cmp := eok_te ok
 exact fn_sound (L := LL_rat_Q_Cmp) hE hS hB (draws_ok hE hS (by kernel_rfl)) hBS (fn := Tryz.f47) (by kernel_rfl) (c := bodyOf Tryz.f47) (by kernel_rfl) (stepped_none rfl) fun x r h => ⟨fuel, (f_rat_Q_Cmp_run fuel x).trans h⟩
noncomputable def E_recall_List : Env := { te := te, spec := [], body := [(84, Tryz.f84), (85, Tryz.f85)], flat := [106] }
def l_slices_IndexFunc_RecallSeq__recall_List_2H : Ann := { slots := [(0, .one (.own 64 (.pair (.int .i64) (.pair (.int .i64) (.int .i64))))), (1, .one (.fix (.clos 152))), (7, .one (.val (.int .i64))), (8, .one (.val (.int .i64)))], objs := [(64, .buf (.pair (.int .i64) (.pair (.int .i64) (.int .i64)))), (152, .clos 85 [.fix (.pbox 36 0)]), (36, .box [.val (.int .i64), .val (.int .i64), .val (.int .i64), .val (.slice (.int .i64)), .val (.slice .str), .val .str])] }
def l_slices_IndexFunc_RecallSeq__recall_List_2X : Ann := { slots := [], objs := [(64, .buf (.pair (.int .i64) (.pair (.int .i64) (.int .i64)))), (152, .clos 85 [.fix (.pbox 36 0)]), (36, .box [.val (.int .i64), .val (.int .i64), .val (.int .i64), .val (.slice (.int .i64)), .val (.slice .str), .val .str])] }
def l_slices_IndexFunc_RecallSeq__recall_List_2R : Ann := { slots := [(4, .one (.val (.int .i64)))], objs := [(64, .buf (.pair (.int .i64) (.pair (.int .i64) (.int .i64)))), (152, .clos 85 [.fix (.pbox 36 0)]), (36, .box [.val (.int .i64), .val (.int .i64), .val (.int .i64), .val (.slice (.int .i64)), .val (.slice .str), .val .str])] }
def l_recall_List_13H : Ann := { slots := [(6, .one (.own 64 (.pair (.int .i64) (.pair (.int .i64) (.int .i64))))), (7, .one (.own 76 (.int .i64))), (8, .one (.val (.int .i64))), (9, .one (.fix (.pbox 36 0))), (46, .one (.val (.int .i64))), (47, .one (.val (.int .i64)))], objs := [(64, .buf (.pair (.int .i64) (.pair (.int .i64) (.int .i64)))), (76, .buf (.int .i64)), (36, .box [.val (.int .i64), .val (.int .i64), .val (.int .i64), .val (.slice (.int .i64)), .val (.slice .str), .val .str])] }
def l_recall_List_13X : Ann := { slots := [(6, .one (.own 64 (.pair (.int .i64) (.pair (.int .i64) (.int .i64))))), (7, .one (.own 76 (.int .i64))), (9, .one (.fix (.pbox 36 0)))], objs := [(64, .buf (.pair (.int .i64) (.pair (.int .i64) (.int .i64)))), (76, .buf (.int .i64)), (36, .box [.val (.int .i64), .val (.int .i64), .val (.int .i64), .val (.slice (.int .i64)), .val (.slice .str), .val .str])] }
def l_recall_List_13R : Ann := { slots := [], objs := [] }
def l_recall_List_18H : Ann := { slots := [(7, .one (.own 76 (.int .i64))), (8, .one (.val (.int .i64))), (10, .one (.val .bool)), (11, .one (.val (.int .i64))), (63, .one (.val (.slice (.int .i64)))), (64, .one (.val (.int .i64))), (65, .one (.val (.int .i64)))], objs := [(76, .buf (.int .i64))] }
def l_recall_List_18X : Ann := { slots := [(7, .one (.own 76 (.int .i64)))], objs := [(76, .buf (.int .i64))] }
def l_recall_List_18R : Ann := { slots := [], objs := [] }
def l_recall_List_4H : Ann := { slots := [(1, .one (.val (.int .i64))), (6, .one (.own 64 (.pair (.int .i64) (.pair (.int .i64) (.int .i64))))), (7, .one (.own 76 (.int .i64))), (20, .one (.val (.slice (.pair (.int .i64) (.pair (.int .i64) (.pair (.int .i64) (.pair (.slice (.int .i64)) (.pair (.slice .str) .str)))))))), (21, .one (.val (.int .i64))), (22, .one (.val (.int .i64)))], objs := [(64, .buf (.pair (.int .i64) (.pair (.int .i64) (.int .i64)))), (76, .buf (.int .i64))] }
def l_recall_List_4X : Ann := { slots := [(6, .one (.own 64 (.pair (.int .i64) (.pair (.int .i64) (.int .i64))))), (7, .one (.own 76 (.int .i64)))], objs := [(64, .buf (.pair (.int .i64) (.pair (.int .i64) (.int .i64)))), (76, .buf (.int .i64))] }
def l_recall_List_4R : Ann := { slots := [], objs := [] }
def l_slices_IndexFunc_RecallSeq__recall_List_2 : Nat → Int → Int → List (Int × (Int × Int)) → Int → Int → Int → List Int → List ByteArray → ByteArray → Option (LR l_slices_IndexFunc_RecallSeq__recall_List_2X l_slices_IndexFunc_RecallSeq__recall_List_2R)
 | 0, _, _, _, _, _, _, _, _, _ => none
 | m + 1, s7, s8, b64, b36_0, b36_1, b36_2, b36_3, b36_4, b36_5 =>
  if decide (s8 < s7) = true then
   if (0 : Int) ≤ s8 then
    if s8 < b64.length then
     if ((b64.getD s8.toNat (0, (0, 0))).1 == b36_2) = true then
      some (.ret (s8, b64, b36_0, b36_1, b36_2, b36_3, b36_4, b36_5, ()))
     else
      l_slices_IndexFunc_RecallSeq__recall_List_2 m s7 (IntKind.i64.wrap (s8 + 1)) b64 b36_0 b36_1 b36_2 b36_3 b36_4 b36_5
    else none
   else none
  else
   some (.exit (b64, b36_0, b36_1, b36_2, b36_3, b36_4, b36_5, ()))
def l_slices_IndexFunc_RecallSeq__recall_List_2L : LSpec := { h := l_slices_IndexFunc_RecallSeq__recall_List_2H, x := l_slices_IndexFunc_RecallSeq__recall_List_2X, r := l_slices_IndexFunc_RecallSeq__recall_List_2R, xid := 0, rt := true, pins := [64, 152, 36], f := fun k d => l_slices_IndexFunc_RecallSeq__recall_List_2 k d.1 d.2.1 d.2.2.1 d.2.2.2.1 d.2.2.2.2.1 d.2.2.2.2.2.1 d.2.2.2.2.2.2.1 d.2.2.2.2.2.2.2.1 d.2.2.2.2.2.2.2.2.1 }
def l_recall_List_13 : Nat → Int → Int → Int → List (Int × (Int × Int)) → List Int → Int → Int → Int → List Int → List ByteArray → ByteArray → Option (LR l_recall_List_13X l_recall_List_13R)
 | 0, _, _, _, _, _, _, _, _, _, _, _ => none
 | m + 1, s8, s46, s47, b64, b76, b36_0, b36_1, b36_2, b36_3, b36_4, b36_5 =>
  if decide (s47 < s46) = true then
   if (0 : Int) ≤ s8 then
    if s8 < b76.length then
     if (b64.length + 1) * 24 ≤ 140737488355328 then
      l_recall_List_13 m s8 s46 (IntKind.i64.wrap (s47 + 1)) (b64 ++ [(b36_2, (s47, b76.getD s8.toNat 0))]) b76 b36_0 b36_1 b36_2 b36_3 b36_4 b36_5
     else none
    else none
   else none
  else
   some (.exit (b64, b76, b36_0, b36_1, b36_2, b36_3, b36_4, b36_5, ()))
def l_recall_List_13L : LSpec := { h := l_recall_List_13H, x := l_recall_List_13X, r := l_recall_List_13R, xid := 2, rt := false, pins := [76, 36], f := fun k d => l_recall_List_13 k d.1 d.2.1 d.2.2.1 d.2.2.2.1 d.2.2.2.2.1 d.2.2.2.2.2.1 d.2.2.2.2.2.2.1 d.2.2.2.2.2.2.2.1 d.2.2.2.2.2.2.2.2.1 d.2.2.2.2.2.2.2.2.2.1 d.2.2.2.2.2.2.2.2.2.2.1 }
def l_recall_List_18 : Nat → Int → Bool → Int → List Int → Int → Int → List Int → Option (LR l_recall_List_18X l_recall_List_18R)
 | 0, _, _, _, _, _, _, _ => none
 | m + 1, s8, s10, s11, s63, s64, s65, b76 =>
  if decide (s65 < s64) = true then
   if (0 : Int) ≤ s65 then
    if s65 < s63.length then
     if (0 : Int) ≤ s8 then
      if s8 < b76.length then
       if (0 : Int) ≤ s63.getD s65.toNat 0 then
        if s63.getD s65.toNat 0 < b76.length then
         if s10 = true then
          if (0 : Int) ≤ s63.getD s65.toNat 0 then
           if s63.getD s65.toNat 0 < (b76.set ((s63.getD s65.toNat 0).toNat) (b76.getD s8.toNat 0)).length then
            l_recall_List_18 m s8 s10 s11 s63 s64 (IntKind.i64.wrap (s65 + 1)) ((b76.set ((s63.getD s65.toNat 0).toNat) (b76.getD s8.toNat 0)).set ((s63.getD s65.toNat 0).toNat) (IntKind.i64.wrap (s11 + s65)))
           else none
          else none
         else
          l_recall_List_18 m s8 s10 s11 s63 s64 (IntKind.i64.wrap (s65 + 1)) (b76.set ((s63.getD s65.toNat 0).toNat) (b76.getD s8.toNat 0))
        else none
       else none
      else none
     else none
    else none
   else none
  else
   some (.exit (b76, ()))
def l_recall_List_18L : LSpec := { h := l_recall_List_18H, x := l_recall_List_18X, r := l_recall_List_18R, xid := 4, rt := false, pins := [76], f := fun k d => l_recall_List_18 k d.1 d.2.1 d.2.2.1 d.2.2.2.1 d.2.2.2.2.1 d.2.2.2.2.2.1 d.2.2.2.2.2.2.1 }
def l_recall_List_4 : Nat → Int → List (Int × (Int × (Int × ((List Int) × ((List ByteArray) × ByteArray))))) → Int → Int → List (Int × (Int × Int)) → List Int → Option (LR l_recall_List_4X l_recall_List_4R)
 | 0, _, _, _, _, _, _ => none
 | m + 1, s1, s20, s21, s22, b64, b76 =>
  if decide (s22 < s21) = true then
   if (0 : Int) ≤ s22 then
    if s22 < s20.length then
     if ((s20.getD s22.toNat (0, (0, (0, ([], ([], ByteArray.empty)))))).1 == 2) = true then
      if (((s20.getD s22.toNat (0, (0, (0, ([], ([], ByteArray.empty)))))).2).1 == s1) = true then
       match l_slices_IndexFunc_RecallSeq__recall_List_2 m (b64.length : Int) 0 b64 ((s20.getD s22.toNat (0, (0, (0, ([], ([], ByteArray.empty)))))).1) (((s20.getD s22.toNat (0, (0, (0, ([], ([], ByteArray.empty)))))).2).1) ((((s20.getD s22.toNat (0, (0, (0, ([], ([], ByteArray.empty)))))).2).2).1) (((((s20.getD s22.toNat (0, (0, (0, ([], ([], ByteArray.empty)))))).2).2).2).1) ((((((s20.getD s22.toNat (0, (0, (0, ([], ([], ByteArray.empty)))))).2).2).2).2).1) ((((((s20.getD s22.toNat (0, (0, (0, ([], ([], ByteArray.empty)))))).2).2).2).2).2) with
       | none => none
       | some (.exit d1) =>
        match l_recall_List_13 m s22 (d1.2.2.2.2.1.length : Int) 0 d1.1 b76 d1.2.1 d1.2.2.1 d1.2.2.2.1 d1.2.2.2.2.1 d1.2.2.2.2.2.1 d1.2.2.2.2.2.2.1 with
        | none => none
        | some (.exit d2) =>
         match l_recall_List_18 m s22 (((s20.getD s22.toNat (0, (0, (0, ([], ([], ByteArray.empty)))))).2).1 == s1) (d1.1.length : Int) d2.2.2.2.2.2.1 (d2.2.2.2.2.2.1.length : Int) 0 d2.2.1 with
         | none => none
         | some (.exit d3) =>
          l_recall_List_4 m s1 s20 s21 (IntKind.i64.wrap (s22 + 1)) d2.1 d3.1
         | some (.ret d3) =>
          none
        | some (.ret d2) =>
         none
       | some (.ret d1) =>
        if decide (d1.1 < 0) = true then
         match l_recall_List_13 m s22 (d1.2.2.2.2.2.1.length : Int) 0 d1.2.1 b76 d1.2.2.1 d1.2.2.2.1 d1.2.2.2.2.1 d1.2.2.2.2.2.1 d1.2.2.2.2.2.2.1 d1.2.2.2.2.2.2.2.1 with
         | none => none
         | some (.exit d4) =>
          match l_recall_List_18 m s22 (((s20.getD s22.toNat (0, (0, (0, ([], ([], ByteArray.empty)))))).2).1 == s1) (d1.2.1.length : Int) d4.2.2.2.2.2.1 (d4.2.2.2.2.2.1.length : Int) 0 d4.2.1 with
          | none => none
          | some (.exit d5) =>
           l_recall_List_4 m s1 s20 s21 (IntKind.i64.wrap (s22 + 1)) d4.1 d5.1
          | some (.ret d5) =>
           none
         | some (.ret d4) =>
          none
        else
         match l_recall_List_18 m s22 (((s20.getD s22.toNat (0, (0, (0, ([], ([], ByteArray.empty)))))).2).1 == s1) d1.1 d1.2.2.2.2.2.1 (d1.2.2.2.2.2.1.length : Int) 0 b76 with
         | none => none
         | some (.exit d6) =>
          l_recall_List_4 m s1 s20 s21 (IntKind.i64.wrap (s22 + 1)) d1.2.1 d6.1
         | some (.ret d6) =>
          none
      else
       match l_recall_List_18 m s22 (((s20.getD s22.toNat (0, (0, (0, ([], ([], ByteArray.empty)))))).2).1 == s1) (-1) (((((s20.getD s22.toNat (0, (0, (0, ([], ([], ByteArray.empty)))))).2).2).2).1) ((((((s20.getD s22.toNat (0, (0, (0, ([], ([], ByteArray.empty)))))).2).2).2).1).length : Int) 0 b76 with
       | none => none
       | some (.exit d7) =>
        l_recall_List_4 m s1 s20 s21 (IntKind.i64.wrap (s22 + 1)) b64 d7.1
       | some (.ret d7) =>
        none
     else
      match l_recall_List_18 m s22 false (-1) (((((s20.getD s22.toNat (0, (0, (0, ([], ([], ByteArray.empty)))))).2).2).2).1) ((((((s20.getD s22.toNat (0, (0, (0, ([], ([], ByteArray.empty)))))).2).2).2).1).length : Int) 0 b76 with
      | none => none
      | some (.exit d8) =>
       l_recall_List_4 m s1 s20 s21 (IntKind.i64.wrap (s22 + 1)) b64 d8.1
      | some (.ret d8) =>
       none
    else none
   else none
  else
   some (.exit (b64, b76, ()))
def l_recall_List_4L : LSpec := { h := l_recall_List_4H, x := l_recall_List_4X, r := l_recall_List_4R, xid := 0, rt := false, pins := [76], f := fun k d => l_recall_List_4 k d.1 d.2.1 d.2.2.1 d.2.2.2.1 d.2.2.2.2.1 d.2.2.2.2.2.1 }
def LL_recall_List : Loops := [([84, 69], [(2, l_slices_IndexFunc_RecallSeq__recall_List_2L)]), ([69], [(4, l_recall_List_4L), (13, l_recall_List_13L), (18, l_recall_List_18L)])]
def f_recall_List (k : Nat) (a0 : List (Int × (Int × (Int × ((List Int) × ((List ByteArray) × ByteArray)))))) (a1 : Int) : Option (List (Int × (Int × Int)) × List Int) :=
 if (0 : Int) ≤ (a0.length : Int) then
  if (a0.length : Int) ≤ (a0.length : Int) then
   if (a0.length : Int) * 8 ≤ 281474976710656 then
    match l_recall_List_4 k a1 a0 (a0.length : Int) 0 [((-1), ((-1), (-1)))] (List.replicate ((a0.length : Int).toNat) 0) with
    | none => none
    | some (.exit d1) =>
     some (d1.1, d1.2.1)
    | some (.ret d1) =>
     none
   else none
  else none
 else none
theorem l_slices_IndexFunc_RecallSeq__recall_List_2_step (m : Nat) (d : dens l_slices_IndexFunc_RecallSeq__recall_List_2H.tys) : l_slices_IndexFunc_RecallSeq__recall_List_2L.f (m + 1) d = round E_recall_List LL_recall_List m [84, 69] 19 (loopN (bodyOf Tryz.f84) 0) l_slices_IndexFunc_RecallSeq__recall_List_2L (l_slices_IndexFunc_RecallSeq__recall_List_2L.f m) d := by kernel_rfl
theorem l_recall_List_13_step (m : Nat) (d : dens l_recall_List_13H.tys) : l_recall_List_13L.f (m + 1) d = round E_recall_List LL_recall_List m [69] 88 (loopN (bodyOf Tryz.f69) 1) l_recall_List_13L (l_recall_List_13L.f m) d := by kernel_rfl
theorem l_recall_List_18_step (m : Nat) (d : dens l_recall_List_18H.tys) : l_recall_List_18L.f (m + 1) d = round E_recall_List LL_recall_List m [69] 88 (loopN (bodyOf Tryz.f69) 2) l_recall_List_18L (l_recall_List_18L.f m) d := by kernel_rfl
theorem l_recall_List_4_step (m : Nat) (d : dens l_recall_List_4H.tys) : l_recall_List_4L.f (m + 1) d = round E_recall_List LL_recall_List m [69] 88 (loopN (bodyOf Tryz.f69) 0) l_recall_List_4L (l_recall_List_4L.f m) d := by kernel_rfl
theorem f_recall_List_run (k : Nat) (x : denL [.slice (.pair (.int .i64) (.pair (.int .i64) (.pair (.int .i64) (.pair (.slice (.int .i64)) (.pair (.slice .str) .str))))), .int .i64]) : runFn E_recall_List LL_recall_List k 69 Tryz.f69 [.slice (.pair (.int .i64) (.pair (.int .i64) (.pair (.int .i64) (.pair (.slice (.int .i64)) (.pair (.slice .str) .str))))), .int .i64] [.fresh (.pair (.int .i64) (.pair (.int .i64) (.int .i64))), .fresh (.int .i64)] x = f_recall_List k x.1 x.2 := by kernel_rfl
noncomputable def S_recall_List : Vm.Spec := { ps := [.slice (.pair (.int .i64) (.pair (.int .i64) (.pair (.int .i64) (.pair (.slice (.int .i64)) (.pair (.slice .str) .str))))), .int .i64], rs := [.fresh (.pair (.int .i64) (.pair (.int .i64) (.int .i64))), .fresh (.int .i64)], f := fun x => f_recall_List fuel x.1 x.2 }
theorem f_recall_List_holds : Vm.Spec.holds Tryz.prog 69 S_recall_List := by
 have hB : BodiesOk Tryz.prog E_recall_List := bodies_ok (by exact ⟨by kernel_rfl, by kernel_rfl, by kernel_rfl, by kernel_rfl, trivial⟩)
 have hBS : BodiesStepped E_recall_List LL_recall_List := by
  refine bodies_stepped ?_
  exact ⟨(stepped_paths [[69]] (by exact ⟨stepped_of (ls := [(2, l_slices_IndexFunc_RecallSeq__recall_List_2L)]) rfl rfl ⟨by kernel_rfl, fun _ => rfl, l_slices_IndexFunc_RecallSeq__recall_List_2_step, stepsI_end (by kernel_rfl)⟩,  trivial⟩) rfl), (fun _ => stepped_noloop (by kernel_rfl)),  trivial⟩
 have hS : SpecsOk Tryz.prog E_recall_List := specs_ok (by exact trivial)
 have hE : EOk Tryz.prog E_recall_List := eok_te ok
 exact fn_sound (L := LL_recall_List) hE hS hB (draws_ok hE hS (by kernel_rfl)) hBS (fn := Tryz.f69) (by kernel_rfl) (c := bodyOf Tryz.f69) (by kernel_rfl) (stepped_of (ls := [(4, l_recall_List_4L), (13, l_recall_List_13L), (18, l_recall_List_18L)]) rfl rfl ⟨by kernel_rfl, fun _ => rfl, l_recall_List_4_step, by kernel_rfl, fun _ => rfl, l_recall_List_13_step, by kernel_rfl, fun _ => rfl, l_recall_List_18_step, stepsI_end (by kernel_rfl)⟩) fun x r h => ⟨fuel, (f_recall_List_run fuel x).trans h⟩
noncomputable def E_reply_pure : Env := { te := te, spec := [], body := [], flat := [106] }
def l_reply_pure_3H : Ann := { slots := [(2, .one (.val (.int .i64))), (7, .one (.fix (.pbox 28 0))), (12, .one (.val (.int .i64))), (13, .one (.val (.int .i64)))], objs := [(28, .box [.val (.int .i64), .own 92 .str]), (92, .buf .str)] }
def l_reply_pure_3X : Ann := { slots := [(7, .one (.fix (.pbox 28 0)))], objs := [(28, .box [.val (.int .i64), .own 92 .str]), (92, .buf .str)] }
def l_reply_pure_3R : Ann := { slots := [], objs := [] }
def l_reply_pure_3 : Nat → Int → Int → Int → Int → List ByteArray → Option (LR l_reply_pure_3X l_reply_pure_3R)
 | 0, _, _, _, _, _ => none
 | m + 1, s2, s12, s13, b28_0, b92 =>
  if decide (s13 < s12) = true then
   if (s13 == s2) = true then
    if (b92.length + 1) * 16 ≤ 140737488355328 then
     l_reply_pure_3 m s2 s12 (IntKind.i64.wrap (s13 + 1)) b28_0 (b92 ++ [(⟨#[49]⟩ : ByteArray)])
    else none
   else
    if (b92.length + 1) * 16 ≤ 140737488355328 then
     l_reply_pure_3 m s2 s12 (IntKind.i64.wrap (s13 + 1)) b28_0 (b92 ++ [(⟨#[48]⟩ : ByteArray)])
    else none
  else
   some (.exit (b28_0, b92, ()))
def l_reply_pure_3L : LSpec := { h := l_reply_pure_3H, x := l_reply_pure_3X, r := l_reply_pure_3R, xid := 0, rt := false, pins := [28], f := fun k d => l_reply_pure_3 k d.1 d.2.1 d.2.2.1 d.2.2.2.1 d.2.2.2.2.1 }
def LL_reply_pure : Loops := [([70], [(3, l_reply_pure_3L)])]
def f_reply_pure (k : Nat) (a0 : Int) (a1 : Int) (a2 : Int) : Option (Int × (List ByteArray)) :=
 match l_reply_pure_3 k a2 a1 0 a0 [] with
 | none => none
 | some (.exit d1) =>
  some (d1.1, d1.2.1)
 | some (.ret d1) =>
  none
theorem l_reply_pure_3_step (m : Nat) (d : dens l_reply_pure_3H.tys) : l_reply_pure_3L.f (m + 1) d = round E_reply_pure LL_reply_pure m [70] 27 (loopN (bodyOf Tryz.f70) 0) l_reply_pure_3L (l_reply_pure_3L.f m) d := by kernel_rfl
theorem f_reply_pure_run (k : Nat) (x : denL [.int .i64, .int .i64, .int .i64]) : runFn E_reply_pure LL_reply_pure k 70 Tryz.f70 [.int .i64, .int .i64, .int .i64] [.imm (.pair (.int .i64) (.slice .str))] x = f_reply_pure k x.1 x.2.1 x.2.2 := by kernel_rfl
noncomputable def S_reply_pure : Vm.Spec := { ps := [.int .i64, .int .i64, .int .i64], rs := [.imm (.pair (.int .i64) (.slice .str))], f := fun x => f_reply_pure fuel x.1 x.2.1 x.2.2 }
theorem f_reply_pure_holds : Vm.Spec.holds Tryz.prog 70 S_reply_pure := by
 have hB : BodiesOk Tryz.prog E_reply_pure := bodies_none rfl
 have hBS : BodiesStepped E_reply_pure LL_reply_pure := bodies_stepped_none rfl
 have hS : SpecsOk Tryz.prog E_reply_pure := specs_ok (by exact trivial)
 have hE : EOk Tryz.prog E_reply_pure := eok_te ok
 exact fn_sound (L := LL_reply_pure) hE hS hB (draws_ok hE hS (by kernel_rfl)) hBS (fn := Tryz.f70) (by kernel_rfl) (c := bodyOf Tryz.f70) (by kernel_rfl) (stepped_of (ls := [(3, l_reply_pure_3L)]) rfl rfl ⟨by kernel_rfl, fun _ => rfl, l_reply_pure_3_step, stepsI_end (by kernel_rfl)⟩) fun x r h => ⟨fuel, (f_reply_pure_run fuel x).trans h⟩
noncomputable def E_reply_best : Env := { te := te, spec := [(29, S_reply_Reach), (33, S_rat_Q_Add), (34, S_rat_In), (41, S_rat_Q_Mul), (43, S_rat_Q_Neg), (47, S_rat_Q_Cmp), (68, S_tree_Sets), (69, S_recall_List), (70, S_reply_pure)], body := [(30, Tryz.f30)], flat := [106] }
def l_reply_best_7H : Ann := { slots := [(1, .one (.val (.int .i64))), (9, .one (.own 36 (.int .i64))), (11, .one (.own 156 (.pair .bool (.pair (.slice (.int .u32)) (.slice (.int .u32)))))), (12, .one (.own 168 (.pair .bool (.pair (.slice (.int .u32)) (.slice (.int .u32)))))), (43, .one (.val (.slice (.pair (.int .i64) (.pair (.int .i64) (.pair (.int .i64) (.pair (.slice (.int .i64)) (.pair (.slice .str) .str)))))))), (44, .one (.val (.int .i64))), (45, .one (.val (.int .i64)))], objs := [(36, .buf (.int .i64)), (156, .buf (.pair .bool (.pair (.slice (.int .u32)) (.slice (.int .u32))))), (168, .buf (.pair .bool (.pair (.slice (.int .u32)) (.slice (.int .u32)))))] }
def l_reply_best_7X : Ann := { slots := [(12, .one (.own 168 (.pair .bool (.pair (.slice (.int .u32)) (.slice (.int .u32))))))], objs := [(168, .buf (.pair .bool (.pair (.slice (.int .u32)) (.slice (.int .u32))))), (36, .buf (.int .i64)), (156, .buf (.pair .bool (.pair (.slice (.int .u32)) (.slice (.int .u32)))))] }
def l_reply_best_7R : Ann := { slots := [], objs := [] }
def l_reply_best_20H : Ann := { slots := [(8, .one (.own 32 (.pair (.int .i64) (.pair (.int .i64) (.int .i64))))), (20, .one (.val (.int .i64)))], objs := [(32, .buf (.pair (.int .i64) (.pair (.int .i64) (.int .i64))))] }
def l_reply_best_20X : Ann := { slots := [(8, .one (.own 32 (.pair (.int .i64) (.pair (.int .i64) (.int .i64))))), (20, .one (.val (.int .i64)))], objs := [(32, .buf (.pair (.int .i64) (.pair (.int .i64) (.int .i64))))] }
def l_reply_best_20R : Ann := { slots := [], objs := [] }
def l_reply_best_24H : Ann := { slots := [(12, .one (.own 168 (.pair .bool (.pair (.slice (.int .u32)) (.slice (.int .u32)))))), (19, .one (.val (.int .i64))), (21, .one (.val (.int .i64))), (22, .one (.val (.int .i64)))], objs := [(168, .buf (.pair .bool (.pair (.slice (.int .u32)) (.slice (.int .u32)))))] }
def l_reply_best_24X : Ann := { slots := [(12, .one (.own 168 (.pair .bool (.pair (.slice (.int .u32)) (.slice (.int .u32)))))), (21, .one (.val (.int .i64)))], objs := [(168, .buf (.pair .bool (.pair (.slice (.int .u32)) (.slice (.int .u32)))))] }
def l_reply_best_24R : Ann := { slots := [], objs := [] }
def l_reply_best_31H : Ann := { slots := [(8, .one (.own 32 (.pair (.int .i64) (.pair (.int .i64) (.int .i64))))), (17, .one (.own 337 (.int .i64))), (18, .one (.own 356 (.pair (.int .i64) (.slice .str)))), (20, .one (.val (.int .i64))), (21, .one (.val (.int .i64))), (139, .one (.own 336 (.int .i64))), (140, .one (.val (.int .i64))), (141, .one (.val (.int .i64)))], objs := [(32, .buf (.pair (.int .i64) (.pair (.int .i64) (.int .i64)))), (337, .buf (.int .i64)), (356, .buf (.pair (.int .i64) (.slice .str))), (336, .buf (.int .i64))] }
def l_reply_best_31X : Ann := { slots := [(8, .one (.own 32 (.pair (.int .i64) (.pair (.int .i64) (.int .i64))))), (17, .one (.own 337 (.int .i64))), (18, .one (.own 356 (.pair (.int .i64) (.slice .str))))], objs := [(32, .buf (.pair (.int .i64) (.pair (.int .i64) (.int .i64)))), (337, .buf (.int .i64)), (356, .buf (.pair (.int .i64) (.slice .str))), (336, .buf (.int .i64))] }
def l_reply_best_31R : Ann := { slots := [], objs := [] }
def l_reply_best_18H : Ann := { slots := [(8, .one (.own 32 (.pair (.int .i64) (.pair (.int .i64) (.int .i64))))), (12, .one (.own 168 (.pair .bool (.pair (.slice (.int .u32)) (.slice (.int .u32)))))), (16, .one (.own 336 (.int .i64))), (17, .one (.own 337 (.int .i64))), (18, .one (.own 356 (.pair (.int .i64) (.slice .str)))), (19, .one (.val (.int .i64)))], objs := [(32, .buf (.pair (.int .i64) (.pair (.int .i64) (.int .i64)))), (168, .buf (.pair .bool (.pair (.slice (.int .u32)) (.slice (.int .u32))))), (336, .buf (.int .i64)), (337, .buf (.int .i64)), (356, .buf (.pair (.int .i64) (.slice .str)))] }
def l_reply_best_18X : Ann := { slots := [(12, .one (.own 168 (.pair .bool (.pair (.slice (.int .u32)) (.slice (.int .u32)))))), (18, .one (.own 356 (.pair (.int .i64) (.slice .str))))], objs := [(168, .buf (.pair .bool (.pair (.slice (.int .u32)) (.slice (.int .u32))))), (356, .buf (.pair (.int .i64) (.slice .str))), (32, .buf (.pair (.int .i64) (.pair (.int .i64) (.int .i64)))), (336, .buf (.int .i64)), (337, .buf (.int .i64))] }
def l_reply_best_18R : Ann := { slots := [], objs := [] }
def l_reply_best_7 : Nat → Int → List (Int × (Int × (Int × ((List Int) × ((List ByteArray) × ByteArray))))) → Int → Int → List Int → List (Bool × ((List Int) × (List Int))) → List (Bool × ((List Int) × (List Int))) → Option (LR l_reply_best_7X l_reply_best_7R)
 | 0, _, _, _, _, _, _, _ => none
 | m + 1, s1, s43, s44, s45, b36, b156, b168 =>
  if decide (s45 < s44) = true then
   if (0 : Int) ≤ s45 then
    if s45 < s43.length then
     if ((s43.getD s45.toNat (0, (0, (0, ([], ([], ByteArray.empty)))))).1 != 0) = true then
      l_reply_best_7 m s1 s43 s44 (IntKind.i64.wrap (s45 + 1)) b36 b156 b168
     else
      if (0 : Int) ≤ s45 then
       if s45 < b156.length then
        (f_rat_In fuel ((((((s43.getD s45.toNat (0, (0, (0, ([], ([], ByteArray.empty)))))).2).2).2).2).2)).bind fun r1 =>
        (f_rat_Q_Mul fuel ((b156.getD s45.toNat (false, ([], []))).1, ((b156.getD s45.toNat (false, ([], []))).2)) r1).bind fun r2 =>
        if (s1 == 1) = true then
         (f_rat_Q_Neg fuel r2).bind fun r3 =>
         if (0 : Int) ≤ s45 then
          if s45 < b36.length then
           if (0 : Int) ≤ s45 then
            if s45 < b36.length then
             if (0 : Int) ≤ b36.getD s45.toNat 0 then
              if b36.getD s45.toNat 0 < b168.length then
               (f_rat_Q_Add fuel ((b168.getD ((b36.getD s45.toNat 0).toNat) (false, ([], []))).1, ((b168.getD ((b36.getD s45.toNat 0).toNat) (false, ([], []))).2)) r3).bind fun r4 =>
               if (0 : Int) ≤ b36.getD s45.toNat 0 then
                if b36.getD s45.toNat 0 < b168.length then
                 l_reply_best_7 m s1 s43 s44 (IntKind.i64.wrap (s45 + 1)) b36 b156 (b168.set ((b36.getD s45.toNat 0).toNat) r4)
                else none
               else none
              else none
             else none
            else none
           else none
          else none
         else none
        else
         if (0 : Int) ≤ s45 then
          if s45 < b36.length then
           if (0 : Int) ≤ s45 then
            if s45 < b36.length then
             if (0 : Int) ≤ b36.getD s45.toNat 0 then
              if b36.getD s45.toNat 0 < b168.length then
               (f_rat_Q_Add fuel ((b168.getD ((b36.getD s45.toNat 0).toNat) (false, ([], []))).1, ((b168.getD ((b36.getD s45.toNat 0).toNat) (false, ([], []))).2)) r2).bind fun r5 =>
               if (0 : Int) ≤ b36.getD s45.toNat 0 then
                if b36.getD s45.toNat 0 < b168.length then
                 l_reply_best_7 m s1 s43 s44 (IntKind.i64.wrap (s45 + 1)) b36 b156 (b168.set ((b36.getD s45.toNat 0).toNat) r5)
                else none
               else none
              else none
             else none
            else none
           else none
          else none
         else none
       else none
      else none
    else none
   else none
  else
   some (.exit (b168, b36, b156, ()))
def l_reply_best_7L : LSpec := { h := l_reply_best_7H, x := l_reply_best_7X, r := l_reply_best_7R, xid := 0, rt := false, pins := [36, 156, 168], f := fun k d => l_reply_best_7 k d.1 d.2.1 d.2.2.1 d.2.2.2.1 d.2.2.2.2.1 d.2.2.2.2.2.1 d.2.2.2.2.2.2.1 }
def l_reply_best_20 : Nat → Int → List (Int × (Int × Int)) → Option (LR l_reply_best_20X l_reply_best_20R)
 | 0, _, _ => none
 | m + 1, s20, b32 =>
  if (0 : Int) ≤ s20 then
   if s20 < b32.length then
    if decide (((b32.getD s20.toNat (0, (0, 0))).2).1 > 0) = true then
     l_reply_best_20 m (IntKind.i64.wrap (s20 - 1)) b32
    else
     some (.exit (s20, b32, ()))
   else none
  else none
def l_reply_best_20L : LSpec := { h := l_reply_best_20H, x := l_reply_best_20X, r := l_reply_best_20R, xid := 4, rt := false, pins := [32], f := fun k d => l_reply_best_20 k d.1 d.2.1 }
def l_reply_best_24 : Nat → Int → Int → Int → List (Bool × ((List Int) × (List Int))) → Option (LR l_reply_best_24X l_reply_best_24R)
 | 0, _, _, _, _ => none
 | m + 1, s19, s21, s22, b168 =>
  if decide (s22 < s19) = true then
   if (0 : Int) ≤ s22 then
    if s22 < b168.length then
     if (0 : Int) ≤ s21 then
      if s21 < b168.length then
       (f_rat_Q_Cmp fuel ((b168.getD s22.toNat (false, ([], []))).1, ((b168.getD s22.toNat (false, ([], []))).2)) ((b168.getD s21.toNat (false, ([], []))).1, ((b168.getD s21.toNat (false, ([], []))).2))).bind fun r1 =>
       if decide (r1 > 0) = true then
        l_reply_best_24 m s19 s22 (IntKind.i64.wrap (s22 + 1)) b168
       else
        l_reply_best_24 m s19 s21 (IntKind.i64.wrap (s22 + 1)) b168
      else none
     else none
    else none
   else none
  else
   some (.exit (s21, b168, ()))
def l_reply_best_24L : LSpec := { h := l_reply_best_24H, x := l_reply_best_24X, r := l_reply_best_24R, xid := 6, rt := false, pins := [168], f := fun k d => l_reply_best_24 k d.1 d.2.1 d.2.2.1 d.2.2.2.1 }
def l_reply_best_31 : Nat → Int → Int → Int → Int → List (Int × (Int × Int)) → List Int → List (Int × (List ByteArray)) → List Int → Option (LR l_reply_best_31X l_reply_best_31R)
 | 0, _, _, _, _, _, _, _, _ => none
 | m + 1, s20, s21, s140, s141, b32, b337, b356, b336 =>
  if decide (s141 < s140) = true then
   if (0 : Int) ≤ s141 then
    if s141 < b336.length then
     if (0 : Int) ≤ s20 then
      if s20 < b32.length then
       if (b336.getD s141.toNat 0 == (b32.getD s20.toNat (0, (0, 0))).1) = true then
        if (0 : Int) ≤ s141 then
         if s141 < b337.length then
          (f_reply_pure fuel (b336.getD s141.toNat 0) (b337.getD s141.toNat 0) (IntKind.i64.wrap (s21 - s20))).bind fun r1 =>
          if (0 : Int) ≤ s141 then
           if s141 < b356.length then
            l_reply_best_31 m s20 s21 s140 (IntKind.i64.wrap (s141 + 1)) b32 b337 (b356.set s141.toNat r1) b336
           else none
          else none
         else none
        else none
       else
        l_reply_best_31 m s20 s21 s140 (IntKind.i64.wrap (s141 + 1)) b32 b337 b356 b336
      else none
     else none
    else none
   else none
  else
   some (.exit (b32, b337, b356, b336, ()))
def l_reply_best_31L : LSpec := { h := l_reply_best_31H, x := l_reply_best_31X, r := l_reply_best_31R, xid := 8, rt := false, pins := [32, 337, 356, 336], f := fun k d => l_reply_best_31 k d.1 d.2.1 d.2.2.1 d.2.2.2.1 d.2.2.2.2.1 d.2.2.2.2.2.1 d.2.2.2.2.2.2.1 d.2.2.2.2.2.2.2.1 }
def l_reply_best_18 : Nat → Int → List (Int × (Int × Int)) → List (Bool × ((List Int) × (List Int))) → List Int → List Int → List (Int × (List ByteArray)) → Option (LR l_reply_best_18X l_reply_best_18R)
 | 0, _, _, _, _, _, _ => none
 | m + 1, s19, b32, b168, b336, b337, b356 =>
  if decide (s19 > 1) = true then
   match l_reply_best_20 m (IntKind.i64.wrap (s19 - 1)) b32 with
   | none => none
   | some (.exit d1) =>
    match l_reply_best_24 m s19 d1.1 d1.1 b168 with
    | none => none
    | some (.exit d2) =>
     if (0 : Int) ≤ d1.1 then
      if d1.1 < d1.2.1.length then
       if (0 : Int) ≤ ((d1.2.1.getD d1.1.toNat (0, (0, 0))).2).2 then
        if ((d1.2.1.getD d1.1.toNat (0, (0, 0))).2).2 < d2.2.1.length then
         if (0 : Int) ≤ d2.1 then
          if d2.1 < d2.2.1.length then
           (f_rat_Q_Add fuel ((d2.2.1.getD ((((d1.2.1.getD d1.1.toNat (0, (0, 0))).2).2).toNat) (false, ([], []))).1, ((d2.2.1.getD ((((d1.2.1.getD d1.1.toNat (0, (0, 0))).2).2).toNat) (false, ([], []))).2)) ((d2.2.1.getD d2.1.toNat (false, ([], []))).1, ((d2.2.1.getD d2.1.toNat (false, ([], []))).2))).bind fun r3 =>
           if (0 : Int) ≤ ((d1.2.1.getD d1.1.toNat (0, (0, 0))).2).2 then
            if ((d1.2.1.getD d1.1.toNat (0, (0, 0))).2).2 < d2.2.1.length then
             match l_reply_best_31 m d1.1 d2.1 (b336.length : Int) 0 d1.2.1 b337 b356 b336 with
             | none => none
             | some (.exit d4) =>
              l_reply_best_18 m d1.1 d4.1 (d2.2.1.set ((((d1.2.1.getD d1.1.toNat (0, (0, 0))).2).2).toNat) r3) d4.2.2.2.1 d4.2.1 d4.2.2.1
             | some (.ret d4) =>
              none
            else none
           else none
          else none
         else none
        else none
       else none
      else none
     else none
    | some (.ret d2) =>
     none
   | some (.ret d1) =>
    none
  else
   some (.exit (b168, b356, b32, b336, b337, ()))
def l_reply_best_18L : LSpec := { h := l_reply_best_18H, x := l_reply_best_18X, r := l_reply_best_18R, xid := 2, rt := false, pins := [32, 168, 336, 337, 356], f := fun k d => l_reply_best_18 k d.1 d.2.1 d.2.2.1 d.2.2.2.1 d.2.2.2.2.1 d.2.2.2.2.2.1 }
def LL_reply_best : Loops := [([40], [(7, l_reply_best_7L), (18, l_reply_best_18L), (20, l_reply_best_20L), (24, l_reply_best_24L), (31, l_reply_best_31L)])]
def f_reply_best (k : Nat) (a0 : List (Int × (Int × (Int × ((List Int) × ((List ByteArray) × ByteArray)))))) (a1 : Int) (a2 : List (Int × (List ByteArray))) : Option ((Bool × ((List Int) × (List Int))) × List (Int × (List ByteArray))) :=
 (f_recall_List fuel a0 a1).bind fun r1 =>
 if (0 + a2.length) * 32 ≤ 140737488355328 then
  if (0 : Int) ≤ IntKind.i64.wrap (1 - a1) then
   if IntKind.i64.wrap (1 - a1) < 2 then
    (f_reply_Reach fuel a0 ((List.replicate 2 none).set ((IntKind.i64.wrap (1 - a1)).toNat) (some ([] ++ a2)))).bind fun r2 =>
    if (0 : Int) ≤ (r1.1.length : Int) then
     if (r1.1.length : Int) ≤ (r1.1.length : Int) then
      if (r1.1.length : Int) * 56 ≤ 281474976710656 then
       match l_reply_best_7 k a1 a0 (a0.length : Int) 0 r1.2 r2 (List.replicate ((r1.1.length : Int).toNat) ((false, ([], [])) : Bool × ((List Int) × (List Int)))) with
       | none => none
       | some (.exit d3) =>
        (f_tree_Sets fuel a0 a1).bind fun r4 =>
        if (0 : Int) ≤ (r4.1.length : Int) then
         if (r4.1.length : Int) ≤ (r4.1.length : Int) then
          if (r4.1.length : Int) * 32 ≤ 281474976710656 then
           match l_reply_best_18 k (r1.1.length : Int) r1.1 d3.1 r4.1 r4.2 (List.replicate ((r4.1.length : Int).toNat) ((0, []) : Int × (List ByteArray))) with
           | none => none
           | some (.exit d5) =>
            if (0 : Int) < d5.1.length then
             some (((d5.1.getD 0 (false, ([], []))).1, ((d5.1.getD 0 (false, ([], []))).2)), d5.2.1)
            else none
           | some (.ret d5) =>
            none
          else none
         else none
        else none
       | some (.ret d3) =>
        none
      else none
     else none
    else none
   else none
  else none
 else none
theorem l_reply_best_7_step (m : Nat) (d : dens l_reply_best_7H.tys) : l_reply_best_7L.f (m + 1) d = round E_reply_best LL_reply_best m [40] 171 (loopN (bodyOf Tryz.f40) 0) l_reply_best_7L (l_reply_best_7L.f m) d := by kernel_rfl
theorem l_reply_best_20_step (m : Nat) (d : dens l_reply_best_20H.tys) : l_reply_best_20L.f (m + 1) d = round E_reply_best LL_reply_best m [40] 171 (loopN (bodyOf Tryz.f40) 2) l_reply_best_20L (l_reply_best_20L.f m) d := by kernel_rfl
theorem l_reply_best_24_step (m : Nat) (d : dens l_reply_best_24H.tys) : l_reply_best_24L.f (m + 1) d = round E_reply_best LL_reply_best m [40] 171 (loopN (bodyOf Tryz.f40) 3) l_reply_best_24L (l_reply_best_24L.f m) d := by kernel_rfl
theorem l_reply_best_31_step (m : Nat) (d : dens l_reply_best_31H.tys) : l_reply_best_31L.f (m + 1) d = round E_reply_best LL_reply_best m [40] 171 (loopN (bodyOf Tryz.f40) 4) l_reply_best_31L (l_reply_best_31L.f m) d := by kernel_rfl
theorem l_reply_best_18_step (m : Nat) (d : dens l_reply_best_18H.tys) : l_reply_best_18L.f (m + 1) d = round E_reply_best LL_reply_best m [40] 171 (loopN (bodyOf Tryz.f40) 1) l_reply_best_18L (l_reply_best_18L.f m) d := by kernel_rfl
theorem f_reply_best_run (k : Nat) (x : denL [.slice (.pair (.int .i64) (.pair (.int .i64) (.pair (.int .i64) (.pair (.slice (.int .i64)) (.pair (.slice .str) .str))))), .int .i64, .slice (.pair (.int .i64) (.slice .str))]) : runFn E_reply_best LL_reply_best k 40 Tryz.f40 [.slice (.pair (.int .i64) (.pair (.int .i64) (.pair (.int .i64) (.pair (.slice (.int .i64)) (.pair (.slice .str) .str))))), .int .i64, .slice (.pair (.int .i64) (.slice .str))] [.imm (.pair .bool (.pair (.slice (.int .u32)) (.slice (.int .u32)))), .fresh (.pair (.int .i64) (.slice .str))] x = f_reply_best k x.1 x.2.1 x.2.2 := by kernel_rfl
noncomputable def S_reply_best : Vm.Spec := { ps := [.slice (.pair (.int .i64) (.pair (.int .i64) (.pair (.int .i64) (.pair (.slice (.int .i64)) (.pair (.slice .str) .str))))), .int .i64, .slice (.pair (.int .i64) (.slice .str))], rs := [.imm (.pair .bool (.pair (.slice (.int .u32)) (.slice (.int .u32)))), .fresh (.pair (.int .i64) (.slice .str))], f := fun x => f_reply_best fuel x.1 x.2.1 x.2.2 }
theorem f_reply_best_holds : Vm.Spec.holds Tryz.prog 40 S_reply_best := by
 have hB : BodiesOk Tryz.prog E_reply_best := bodies_ok (by exact ⟨by kernel_rfl, by kernel_rfl, trivial⟩)
 have hBS : BodiesStepped E_reply_best LL_reply_best := by
  refine bodies_stepped ?_
  exact ⟨(fun _ => stepped_noloop (by kernel_rfl)),  trivial⟩
 have hS : SpecsOk Tryz.prog E_reply_best := specs_ok (by exact ⟨⟨by kernel_rfl, f_reply_Reach_holds⟩, ⟨by kernel_rfl, f_rat_Q_Add_holds⟩, ⟨by kernel_rfl, f_rat_In_holds⟩, ⟨by kernel_rfl, f_rat_Q_Mul_holds⟩, ⟨by kernel_rfl, f_rat_Q_Neg_holds⟩, ⟨by kernel_rfl, f_rat_Q_Cmp_holds⟩, ⟨by kernel_rfl, f_tree_Sets_holds⟩, ⟨by kernel_rfl, f_recall_List_holds⟩, ⟨by kernel_rfl, f_reply_pure_holds⟩, trivial⟩)
 have hE : EOk Tryz.prog E_reply_best := eok_te ok
 exact fn_sound (L := LL_reply_best) hE hS hB (draws_ok hE hS (by kernel_rfl)) hBS (fn := Tryz.f40) (by kernel_rfl) (c := bodyOf Tryz.f40) (by kernel_rfl) (stepped_of (ls := [(7, l_reply_best_7L), (18, l_reply_best_18L), (20, l_reply_best_20L), (24, l_reply_best_24L), (31, l_reply_best_31L)]) rfl rfl ⟨by kernel_rfl, fun _ => rfl, l_reply_best_7_step, by kernel_rfl, fun _ => rfl, l_reply_best_18_step, by kernel_rfl, fun _ => rfl, l_reply_best_20_step, by kernel_rfl, fun _ => rfl, l_reply_best_24_step, by kernel_rfl, fun _ => rfl, l_reply_best_31_step, stepsI_end (by kernel_rfl)⟩) fun x r h => ⟨fuel, (f_reply_best_run fuel x).trans h⟩
noncomputable def E_reply_Best : Env := { te := te, spec := [(31, S_rat_Told), (37, S_tree_Player), (38, S_recall_Fine), (39, S_recall_Strategy), (40, S_reply_best)], body := [], flat := [106] }
def LL_reply_Best : Loops := []
def f_reply_Best (k : Nat) (a0 : List (Int × (Int × (Int × ((List Int) × ((List ByteArray) × ByteArray)))))) (a1 : Int) (a2 : List (Int × (List ByteArray))) : Option (ByteArray × List (Int × (List ByteArray)) × Int) :=
 (f_tree_Player fuel a0 a1).bind fun r1 =>
 if (r1 != 0) = true then
  some ((⟨#[]⟩ : ByteArray), [], r1)
 else
  (f_recall_Fine fuel a0 a1).bind fun r2 =>
  if (!r2) = true then
   some ((⟨#[]⟩ : ByteArray), [], 10)
  else
   (f_recall_Strategy fuel a0 (IntKind.i64.wrap (1 - a1)) a2).bind fun r3 =>
   if (r3 != 0) = true then
    some ((⟨#[]⟩ : ByteArray), [], r3)
   else
    (f_reply_best fuel a0 a1 a2).bind fun r4 =>
    (f_rat_Told fuel r4.1).bind fun r5 =>
    if (r5.2 != 0) = true then
     some ((⟨#[]⟩ : ByteArray), [], r5.2)
    else
     some (r5.1, r4.2, 0)
theorem f_reply_Best_run (k : Nat) (x : denL [.slice (.pair (.int .i64) (.pair (.int .i64) (.pair (.int .i64) (.pair (.slice (.int .i64)) (.pair (.slice .str) .str))))), .int .i64, .slice (.pair (.int .i64) (.slice .str))]) : runFn E_reply_Best LL_reply_Best k 12 Tryz.f12 [.slice (.pair (.int .i64) (.pair (.int .i64) (.pair (.int .i64) (.pair (.slice (.int .i64)) (.pair (.slice .str) .str))))), .int .i64, .slice (.pair (.int .i64) (.slice .str))] [.imm .str, .fresh (.pair (.int .i64) (.slice .str)), .imm (.int .i64)] x = f_reply_Best k x.1 x.2.1 x.2.2 := by kernel_rfl
noncomputable def S_reply_Best : Vm.Spec := { ps := [.slice (.pair (.int .i64) (.pair (.int .i64) (.pair (.int .i64) (.pair (.slice (.int .i64)) (.pair (.slice .str) .str))))), .int .i64, .slice (.pair (.int .i64) (.slice .str))], rs := [.imm .str, .fresh (.pair (.int .i64) (.slice .str)), .imm (.int .i64)], f := fun x => f_reply_Best fuel x.1 x.2.1 x.2.2 }
theorem f_reply_Best_holds : Vm.Spec.holds Tryz.prog 12 S_reply_Best := by
 have hB : BodiesOk Tryz.prog E_reply_Best := bodies_none rfl
 have hBS : BodiesStepped E_reply_Best LL_reply_Best := bodies_stepped_none rfl
 have hS : SpecsOk Tryz.prog E_reply_Best := specs_ok (by exact ⟨⟨by kernel_rfl, f_rat_Told_holds⟩, ⟨by kernel_rfl, f_tree_Player_holds⟩, ⟨by kernel_rfl, f_recall_Fine_holds⟩, ⟨by kernel_rfl, f_recall_Strategy_holds⟩, ⟨by kernel_rfl, f_reply_best_holds⟩, trivial⟩)
 have hE : EOk Tryz.prog E_reply_Best := eok_te ok
 exact fn_sound (L := LL_reply_Best) hE hS hB (draws_ok hE hS (by kernel_rfl)) hBS (fn := Tryz.f12) (by kernel_rfl) (c := bodyOf Tryz.f12) (by kernel_rfl) (stepped_none rfl) fun x r h => ⟨fuel, (f_reply_Best_run fuel x).trans h⟩
noncomputable def E_reply_Value : Env := { te := te, spec := [(20, S_reply_Check), (29, S_reply_Reach), (31, S_rat_Told), (33, S_rat_Q_Add), (34, S_rat_In), (41, S_rat_Q_Mul)], body := [(30, Tryz.f30)], flat := [106] }
def l_reply_Value_7H : Ann := { slots := [(9, .one (.fix (.pbox 36 0))), (10, .one (.own 104 (.pair .bool (.pair (.slice (.int .u32)) (.slice (.int .u32)))))), (27, .one (.val (.slice (.pair (.int .i64) (.pair (.int .i64) (.pair (.int .i64) (.pair (.slice (.int .i64)) (.pair (.slice .str) .str)))))))), (28, .one (.val (.int .i64))), (29, .one (.val (.int .i64)))], objs := [(36, .box [.val .bool, .val (.slice (.int .u32)), .val (.slice (.int .u32))]), (104, .buf (.pair .bool (.pair (.slice (.int .u32)) (.slice (.int .u32)))))] }
def l_reply_Value_7X : Ann := { slots := [(9, .one (.fix (.pbox 36 0)))], objs := [(36, .box [.val .bool, .val (.slice (.int .u32)), .val (.slice (.int .u32))]), (104, .buf (.pair .bool (.pair (.slice (.int .u32)) (.slice (.int .u32)))))] }
def l_reply_Value_7R : Ann := { slots := [], objs := [] }
def l_reply_Value_7 : Nat → List (Int × (Int × (Int × ((List Int) × ((List ByteArray) × ByteArray))))) → Int → Int → Bool → List Int → List Int → List (Bool × ((List Int) × (List Int))) → Option (LR l_reply_Value_7X l_reply_Value_7R)
 | 0, _, _, _, _, _, _, _ => none
 | m + 1, s27, s28, s29, b36_0, b36_1, b36_2, b104 =>
  if decide (s29 < s28) = true then
   if (0 : Int) ≤ s29 then
    if s29 < s27.length then
     if ((s27.getD s29.toNat (0, (0, (0, ([], ([], ByteArray.empty)))))).1 == 0) = true then
      if (0 : Int) ≤ s29 then
       if s29 < b104.length then
        (f_rat_In fuel ((((((s27.getD s29.toNat (0, (0, (0, ([], ([], ByteArray.empty)))))).2).2).2).2).2)).bind fun r1 =>
        (f_rat_Q_Mul fuel ((b104.getD s29.toNat (false, ([], []))).1, ((b104.getD s29.toNat (false, ([], []))).2)) r1).bind fun r2 =>
        (f_rat_Q_Add fuel (b36_0, (b36_1, b36_2)) r2).bind fun r3 =>
        l_reply_Value_7 m s27 s28 (IntKind.i64.wrap (s29 + 1)) r3.1 r3.2.1 r3.2.2 b104
       else none
      else none
     else
      l_reply_Value_7 m s27 s28 (IntKind.i64.wrap (s29 + 1)) b36_0 b36_1 b36_2 b104
    else none
   else none
  else
   some (.exit (b36_0, b36_1, b36_2, b104, ()))
def l_reply_Value_7L : LSpec := { h := l_reply_Value_7H, x := l_reply_Value_7X, r := l_reply_Value_7R, xid := 0, rt := false, pins := [36, 104], f := fun k d => l_reply_Value_7 k d.1 d.2.1 d.2.2.1 d.2.2.2.1 d.2.2.2.2.1 d.2.2.2.2.2.1 d.2.2.2.2.2.2.1 }
def LL_reply_Value : Loops := [([13], [(7, l_reply_Value_7L)])]
def f_reply_Value (k : Nat) (a0 : List (Int × (Int × (Int × ((List Int) × ((List ByteArray) × ByteArray)))))) (a1 : List (Int × (List ByteArray))) (a2 : List (Int × (List ByteArray))) : Option (ByteArray × Int) :=
 (f_reply_Check fuel a0 a1 a2).bind fun r1 =>
 if (r1 != 0) = true then
  some ((⟨#[]⟩ : ByteArray), r1)
 else
  if (0 + a1.length) * 32 ≤ 140737488355328 then
   if (0 + a2.length) * 32 ≤ 140737488355328 then
    (f_reply_Reach fuel a0 [some ([] ++ a1), some ([] ++ a2)]).bind fun r2 =>
    match l_reply_Value_7 k a0 (a0.length : Int) 0 false [] [] r2 with
    | none => none
    | some (.exit d3) =>
     (f_rat_Told fuel (d3.1, (d3.2.1, d3.2.2.1))).bind fun r4 =>
     some (r4.1, r4.2)
    | some (.ret d3) =>
     none
   else none
  else none
theorem l_reply_Value_7_step (m : Nat) (d : dens l_reply_Value_7H.tys) : l_reply_Value_7L.f (m + 1) d = round E_reply_Value LL_reply_Value m [13] 52 (loopN (bodyOf Tryz.f13) 0) l_reply_Value_7L (l_reply_Value_7L.f m) d := by kernel_rfl
theorem f_reply_Value_run (k : Nat) (x : denL [.slice (.pair (.int .i64) (.pair (.int .i64) (.pair (.int .i64) (.pair (.slice (.int .i64)) (.pair (.slice .str) .str))))), .slice (.pair (.int .i64) (.slice .str)), .slice (.pair (.int .i64) (.slice .str))]) : runFn E_reply_Value LL_reply_Value k 13 Tryz.f13 [.slice (.pair (.int .i64) (.pair (.int .i64) (.pair (.int .i64) (.pair (.slice (.int .i64)) (.pair (.slice .str) .str))))), .slice (.pair (.int .i64) (.slice .str)), .slice (.pair (.int .i64) (.slice .str))] [.imm .str, .imm (.int .i64)] x = f_reply_Value k x.1 x.2.1 x.2.2 := by kernel_rfl
noncomputable def S_reply_Value : Vm.Spec := { ps := [.slice (.pair (.int .i64) (.pair (.int .i64) (.pair (.int .i64) (.pair (.slice (.int .i64)) (.pair (.slice .str) .str))))), .slice (.pair (.int .i64) (.slice .str)), .slice (.pair (.int .i64) (.slice .str))], rs := [.imm .str, .imm (.int .i64)], f := fun x => f_reply_Value fuel x.1 x.2.1 x.2.2 }
theorem f_reply_Value_holds : Vm.Spec.holds Tryz.prog 13 S_reply_Value := by
 have hB : BodiesOk Tryz.prog E_reply_Value := bodies_ok (by exact ⟨by kernel_rfl, by kernel_rfl, trivial⟩)
 have hBS : BodiesStepped E_reply_Value LL_reply_Value := by
  refine bodies_stepped ?_
  exact ⟨(fun _ => stepped_noloop (by kernel_rfl)),  trivial⟩
 have hS : SpecsOk Tryz.prog E_reply_Value := specs_ok (by exact ⟨⟨by kernel_rfl, f_reply_Check_holds⟩, ⟨by kernel_rfl, f_reply_Reach_holds⟩, ⟨by kernel_rfl, f_rat_Told_holds⟩, ⟨by kernel_rfl, f_rat_Q_Add_holds⟩, ⟨by kernel_rfl, f_rat_In_holds⟩, ⟨by kernel_rfl, f_rat_Q_Mul_holds⟩, trivial⟩)
 have hE : EOk Tryz.prog E_reply_Value := eok_te ok
 exact fn_sound (L := LL_reply_Value) hE hS hB (draws_ok hE hS (by kernel_rfl)) hBS (fn := Tryz.f13) (by kernel_rfl) (c := bodyOf Tryz.f13) (by kernel_rfl) (stepped_of (ls := [(7, l_reply_Value_7L)]) rfl rfl ⟨by kernel_rfl, fun _ => rfl, l_reply_Value_7_step, stepsI_end (by kernel_rfl)⟩) fun x r h => ⟨fuel, (f_reply_Value_run fuel x).trans h⟩
noncomputable def E_gamehallkeep2_fine : Env := { te := te, spec := [], body := [(45, Tryz.f45), (46, Tryz.f46), (74, Tryz.f74)], flat := [106] }
def l_slices_IndexFunc_Errno__slices_ContainsFunc_Errno__gamehallkeep2_fine_2H : Ann := { slots := [(0, .one (.val (.slice (.int .i64)))), (1, .one (.fix (.func 46))), (7, .one (.val (.int .i64))), (8, .one (.val (.int .i64)))], objs := [] }
def l_slices_IndexFunc_Errno__slices_ContainsFunc_Errno__gamehallkeep2_fine_2X : Ann := { slots := [], objs := [] }
def l_slices_IndexFunc_Errno__slices_ContainsFunc_Errno__gamehallkeep2_fine_2R : Ann := { slots := [(4, .one (.val (.int .i64)))], objs := [] }
def l_slices_IndexFunc_Errno__slices_ContainsFunc_Errno__gamehallkeep2_fine_2 : Nat → List Int → Int → Int → Option (LR l_slices_IndexFunc_Errno__slices_ContainsFunc_Errno__gamehallkeep2_fine_2X l_slices_IndexFunc_Errno__slices_ContainsFunc_Errno__gamehallkeep2_fine_2R)
 | 0, _, _, _ => none
 | m + 1, s0, s7, s8 =>
  if decide (s8 < s7) = true then
   if (0 : Int) ≤ s8 then
    if s8 < s0.length then
     if (s0.getD s8.toNat 0 != 0) = true then
      some (.ret (s8, ()))
     else
      l_slices_IndexFunc_Errno__slices_ContainsFunc_Errno__gamehallkeep2_fine_2 m s0 s7 (IntKind.i64.wrap (s8 + 1))
    else none
   else none
  else
   some (.exit ())
def l_slices_IndexFunc_Errno__slices_ContainsFunc_Errno__gamehallkeep2_fine_2L : LSpec := { h := l_slices_IndexFunc_Errno__slices_ContainsFunc_Errno__gamehallkeep2_fine_2H, x := l_slices_IndexFunc_Errno__slices_ContainsFunc_Errno__gamehallkeep2_fine_2X, r := l_slices_IndexFunc_Errno__slices_ContainsFunc_Errno__gamehallkeep2_fine_2R, xid := 0, rt := true, pins := [], f := fun k d => l_slices_IndexFunc_Errno__slices_ContainsFunc_Errno__gamehallkeep2_fine_2 k d.1 d.2.1 d.2.2.1 }
def LL_gamehallkeep2_fine : Loops := [([74, 45, 15], [(2, l_slices_IndexFunc_Errno__slices_ContainsFunc_Errno__gamehallkeep2_fine_2L)])]
def f_gamehallkeep2_fine (k : Nat) (a0 : List Int) : Option (Bool) :=
 match l_slices_IndexFunc_Errno__slices_ContainsFunc_Errno__gamehallkeep2_fine_2 k a0 (a0.length : Int) 0 with
 | none => none
 | some (.exit d1) =>
  some true
 | some (.ret d1) =>
  some (!(decide (d1.1 ≥ 0)))
theorem l_slices_IndexFunc_Errno__slices_ContainsFunc_Errno__gamehallkeep2_fine_2_step (m : Nat) (d : dens l_slices_IndexFunc_Errno__slices_ContainsFunc_Errno__gamehallkeep2_fine_2H.tys) : l_slices_IndexFunc_Errno__slices_ContainsFunc_Errno__gamehallkeep2_fine_2L.f (m + 1) d = round E_gamehallkeep2_fine LL_gamehallkeep2_fine m [74, 45, 15] 19 (loopN (bodyOf Tryz.f74) 0) l_slices_IndexFunc_Errno__slices_ContainsFunc_Errno__gamehallkeep2_fine_2L (l_slices_IndexFunc_Errno__slices_ContainsFunc_Errno__gamehallkeep2_fine_2L.f m) d := by kernel_rfl
theorem f_gamehallkeep2_fine_run (k : Nat) (x : denL [.slice (.int .i64)]) : runFn E_gamehallkeep2_fine LL_gamehallkeep2_fine k 15 Tryz.f15 [.slice (.int .i64)] [.imm .bool] x = f_gamehallkeep2_fine k x := by kernel_rfl
noncomputable def S_gamehallkeep2_fine : Vm.Spec := { ps := [.slice (.int .i64)], rs := [.imm .bool], f := fun x => f_gamehallkeep2_fine fuel x }
theorem f_gamehallkeep2_fine_holds : Vm.Spec.holds Tryz.prog 15 S_gamehallkeep2_fine := by
 have hB : BodiesOk Tryz.prog E_gamehallkeep2_fine := bodies_ok (by exact ⟨by kernel_rfl, by kernel_rfl, by kernel_rfl, by kernel_rfl, by kernel_rfl, by kernel_rfl, trivial⟩)
 have hBS : BodiesStepped E_gamehallkeep2_fine LL_gamehallkeep2_fine := by
  refine bodies_stepped ?_
  exact ⟨(fun _ => stepped_noloop (by kernel_rfl)), (fun _ => stepped_noloop (by kernel_rfl)), (stepped_paths [[45, 15]] (by exact ⟨stepped_of (ls := [(2, l_slices_IndexFunc_Errno__slices_ContainsFunc_Errno__gamehallkeep2_fine_2L)]) rfl rfl ⟨by kernel_rfl, fun _ => rfl, l_slices_IndexFunc_Errno__slices_ContainsFunc_Errno__gamehallkeep2_fine_2_step, stepsI_end (by kernel_rfl)⟩,  trivial⟩) rfl),  trivial⟩
 have hS : SpecsOk Tryz.prog E_gamehallkeep2_fine := specs_ok (by exact trivial)
 have hE : EOk Tryz.prog E_gamehallkeep2_fine := eok_te ok
 exact fn_sound (L := LL_gamehallkeep2_fine) hE hS hB (draws_ok hE hS (by kernel_rfl)) hBS (fn := Tryz.f15) (by kernel_rfl) (c := bodyOf Tryz.f15) (by kernel_rfl) (stepped_none rfl) fun x r h => ⟨fuel, (f_gamehallkeep2_fine_run fuel x).trans h⟩
noncomputable def E_gamehallkeep2_guess : Env := { te := te, spec := [], body := [], flat := [106] }
def LL_gamehallkeep2_guess : Loops := []
def f_gamehallkeep2_guess (k : Nat) : Option (List (Int × (Int × (Int × ((List Int) × ((List ByteArray) × ByteArray)))))) :=
 some [(2, (0, (0, ([1, 2], ([], ByteArray.empty))))), (2, (1, (3, ([3, 4], ([], ByteArray.empty))))), (2, (1, (3, ([5, 6], ([], ByteArray.empty))))), (0, (0, (0, ([], ([], (⟨#[45, 49]⟩ : ByteArray)))))), (0, (0, (0, ([], ([], (⟨#[49]⟩ : ByteArray)))))), (0, (0, (0, ([], ([], (⟨#[49]⟩ : ByteArray)))))), (0, (0, (0, ([], ([], (⟨#[45, 49]⟩ : ByteArray))))))]
theorem f_gamehallkeep2_guess_run (k : Nat) (x : denL []) : runFn E_gamehallkeep2_guess LL_gamehallkeep2_guess k 17 Tryz.f17 [] [.fresh (.pair (.int .i64) (.pair (.int .i64) (.pair (.int .i64) (.pair (.slice (.int .i64)) (.pair (.slice .str) .str)))))] x = f_gamehallkeep2_guess k := by kernel_rfl
noncomputable def S_gamehallkeep2_guess : Vm.Spec := { ps := [], rs := [.fresh (.pair (.int .i64) (.pair (.int .i64) (.pair (.int .i64) (.pair (.slice (.int .i64)) (.pair (.slice .str) .str)))))], f := fun x => f_gamehallkeep2_guess fuel }
theorem f_gamehallkeep2_guess_holds : Vm.Spec.holds Tryz.prog 17 S_gamehallkeep2_guess := by
 have hB : BodiesOk Tryz.prog E_gamehallkeep2_guess := bodies_none rfl
 have hBS : BodiesStepped E_gamehallkeep2_guess LL_gamehallkeep2_guess := bodies_stepped_none rfl
 have hS : SpecsOk Tryz.prog E_gamehallkeep2_guess := specs_ok (by exact trivial)
 have hE : EOk Tryz.prog E_gamehallkeep2_guess := eok_te ok
 exact fn_sound (L := LL_gamehallkeep2_guess) hE hS hB (draws_ok hE hS (by kernel_rfl)) hBS (fn := Tryz.f17) (by kernel_rfl) (c := bodyOf Tryz.f17) (by kernel_rfl) (stepped_none rfl) fun x r h => ⟨fuel, (f_gamehallkeep2_guess_run fuel x).trans h⟩
noncomputable def E_gamehallkeep2_half : Env := { te := te, spec := [], body := [], flat := [106] }
def LL_gamehallkeep2_half : Loops := []
def f_gamehallkeep2_half (k : Nat) (a0 : Int) : Option (List (Int × (List ByteArray))) :=
 some [(a0, [(⟨#[49, 47, 50]⟩ : ByteArray), (⟨#[49, 47, 50]⟩ : ByteArray)])]
theorem f_gamehallkeep2_half_run (k : Nat) (x : denL [.int .i64]) : runFn E_gamehallkeep2_half LL_gamehallkeep2_half k 18 Tryz.f18 [.int .i64] [.fresh (.pair (.int .i64) (.slice .str))] x = f_gamehallkeep2_half k x := by kernel_rfl
noncomputable def S_gamehallkeep2_half : Vm.Spec := { ps := [.int .i64], rs := [.fresh (.pair (.int .i64) (.slice .str))], f := fun x => f_gamehallkeep2_half fuel x }
theorem f_gamehallkeep2_half_holds : Vm.Spec.holds Tryz.prog 18 S_gamehallkeep2_half := by
 have hB : BodiesOk Tryz.prog E_gamehallkeep2_half := bodies_none rfl
 have hBS : BodiesStepped E_gamehallkeep2_half LL_gamehallkeep2_half := bodies_stepped_none rfl
 have hS : SpecsOk Tryz.prog E_gamehallkeep2_half := specs_ok (by exact trivial)
 have hE : EOk Tryz.prog E_gamehallkeep2_half := eok_te ok
 exact fn_sound (L := LL_gamehallkeep2_half) hE hS hB (draws_ok hE hS (by kernel_rfl)) hBS (fn := Tryz.f18) (by kernel_rfl) (c := bodyOf Tryz.f18) (by kernel_rfl) (stepped_none rfl) fun x r h => ⟨fuel, (f_gamehallkeep2_half_run fuel x).trans h⟩
noncomputable def E_slices_Equal_Rat : Env := { te := te, spec := [], body := [], flat := [106] }
def l_slices_Equal_Rat_4H : Ann := { slots := [(0, .one (.val (.slice .str))), (1, .one (.val (.slice .str))), (12, .one (.val (.int .i64))), (13, .one (.val (.int .i64)))], objs := [] }
def l_slices_Equal_Rat_4X : Ann := { slots := [], objs := [] }
def l_slices_Equal_Rat_4R : Ann := { slots := [(4, .one (.val .bool))], objs := [] }
def l_slices_Equal_Rat_4 : Nat → List ByteArray → List ByteArray → Int → Int → Option (LR l_slices_Equal_Rat_4X l_slices_Equal_Rat_4R)
 | 0, _, _, _, _ => none
 | m + 1, s0, s1, s12, s13 =>
  if decide (s13 < s12) = true then
   if (0 : Int) ≤ s13 then
    if s13 < s0.length then
     if (0 : Int) ≤ s13 then
      if s13 < s1.length then
       if (!((s0.getD s13.toNat ByteArray.empty).toList == (s1.getD s13.toNat ByteArray.empty).toList)) = true then
        some (.ret (false, ()))
       else
        l_slices_Equal_Rat_4 m s0 s1 s12 (IntKind.i64.wrap (s13 + 1))
      else none
     else none
    else none
   else none
  else
   some (.exit ())
def l_slices_Equal_Rat_4L : LSpec := { h := l_slices_Equal_Rat_4H, x := l_slices_Equal_Rat_4X, r := l_slices_Equal_Rat_4R, xid := 0, rt := true, pins := [], f := fun k d => l_slices_Equal_Rat_4 k d.1 d.2.1 d.2.2.1 d.2.2.2.1 }
def LL_slices_Equal_Rat : Loops := [([19], [(4, l_slices_Equal_Rat_4L)])]
def f_slices_Equal_Rat (k : Nat) (a0 : List ByteArray) (a1 : List ByteArray) : Option (Bool) :=
 if ((a0.length : Int) != (a1.length : Int)) = true then
  some false
 else
  match l_slices_Equal_Rat_4 k a0 a1 (a0.length : Int) 0 with
  | none => none
  | some (.exit d1) =>
   some true
  | some (.ret d1) =>
   some d1.1
theorem l_slices_Equal_Rat_4_step (m : Nat) (d : dens l_slices_Equal_Rat_4H.tys) : l_slices_Equal_Rat_4L.f (m + 1) d = round E_slices_Equal_Rat LL_slices_Equal_Rat m [19] 26 (loopN (bodyOf Tryz.f19) 0) l_slices_Equal_Rat_4L (l_slices_Equal_Rat_4L.f m) d := by kernel_rfl
theorem f_slices_Equal_Rat_run (k : Nat) (x : denL [.slice .str, .slice .str]) : runFn E_slices_Equal_Rat LL_slices_Equal_Rat k 19 Tryz.f19 [.slice .str, .slice .str] [.imm .bool] x = f_slices_Equal_Rat k x.1 x.2 := by kernel_rfl
noncomputable def S_slices_Equal_Rat : Vm.Spec := { ps := [.slice .str, .slice .str], rs := [.imm .bool], f := fun x => f_slices_Equal_Rat fuel x.1 x.2 }
theorem f_slices_Equal_Rat_holds : Vm.Spec.holds Tryz.prog 19 S_slices_Equal_Rat := by
 have hB : BodiesOk Tryz.prog E_slices_Equal_Rat := bodies_none rfl
 have hBS : BodiesStepped E_slices_Equal_Rat LL_slices_Equal_Rat := bodies_stepped_none rfl
 have hS : SpecsOk Tryz.prog E_slices_Equal_Rat := specs_ok (by exact trivial)
 have hE : EOk Tryz.prog E_slices_Equal_Rat := eok_te ok
 exact fn_sound (L := LL_slices_Equal_Rat) hE hS hB (draws_ok hE hS (by kernel_rfl)) hBS (fn := Tryz.f19) (by kernel_rfl) (c := bodyOf Tryz.f19) (by kernel_rfl) (stepped_of (ls := [(4, l_slices_Equal_Rat_4L)]) rfl rfl ⟨by kernel_rfl, fun _ => rfl, l_slices_Equal_Rat_4_step, stepsI_end (by kernel_rfl)⟩) fun x r h => ⟨fuel, (f_slices_Equal_Rat_run fuel x).trans h⟩
noncomputable def E_gamehallkeep2_replyFact : Env := { te := te, spec := [(9, S_reply_Odds), (12, S_reply_Best), (13, S_reply_Value), (15, S_gamehallkeep2_fine), (17, S_gamehallkeep2_guess), (18, S_gamehallkeep2_half), (19, S_slices_Equal_Rat), (20, S_reply_Check)], body := [], flat := [106] }
def LL_gamehallkeep2_replyFact : Loops := []
def f_gamehallkeep2_replyFact (k : Nat) : Option (Bool) :=
 (f_gamehallkeep2_guess fuel).bind fun r1 =>
 (f_gamehallkeep2_half fuel 0).bind fun r2 =>
 (f_gamehallkeep2_half fuel 3).bind fun r3 =>
 (f_reply_Value fuel r1 r2 r3).bind fun r4 =>
 (f_gamehallkeep2_guess fuel).bind fun r5 =>
 (f_gamehallkeep2_half fuel 0).bind fun r6 =>
 (f_gamehallkeep2_half fuel 3).bind fun r7 =>
 (f_reply_Odds fuel r5 r6 r7).bind fun r8 =>
 (f_gamehallkeep2_guess fuel).bind fun r9 =>
 (f_reply_Best fuel r9 0 [(3, [(⟨#[49]⟩ : ByteArray), (⟨#[48]⟩ : ByteArray)])]).bind fun r10 =>
 (f_gamehallkeep2_fine fuel [r4.2, r8.2, r10.2.2]).bind fun r11 =>
 if r11 = true then
  if ((r4.1.toList == (⟨#[48]⟩ : ByteArray).toList)) = true then
   if ((r8.1.length : Int) == 7) = true then
    if (3 : Int) < r8.1.length then
     if (((r8.1.getD 3 ByteArray.empty).toList == (⟨#[49, 47, 52]⟩ : ByteArray).toList)) = true then
      if ((r10.1.toList == (⟨#[49]⟩ : ByteArray).toList)) = true then
       if ((r10.2.1.length : Int) == 1) = true then
        if (0 : Int) < r10.2.1.length then
         (f_slices_Equal_Rat fuel ((r10.2.1.getD 0 (0, [])).2) [(⟨#[48]⟩ : ByteArray), (⟨#[49]⟩ : ByteArray)]).bind fun r12 =>
         if r12 = true then
          (f_gamehallkeep2_guess fuel).bind fun r13 =>
          (f_gamehallkeep2_half fuel 3).bind fun r14 =>
          (f_reply_Check fuel r13 [] r14).bind fun r15 =>
          some (r15 == 3)
         else
          some false
        else none
       else
        some false
      else
       some false
     else
      some false
    else none
   else
    some false
  else
   some false
 else
  some false
theorem f_gamehallkeep2_replyFact_run (k : Nat) (x : denL []) : runFn E_gamehallkeep2_replyFact LL_gamehallkeep2_replyFact k 6 Tryz.f6 [] [.imm .bool] x = f_gamehallkeep2_replyFact k := by kernel_rfl
noncomputable def S_gamehallkeep2_replyFact : Vm.Spec := { ps := [], rs := [.imm .bool], f := fun x => f_gamehallkeep2_replyFact fuel }
theorem f_gamehallkeep2_replyFact_holds : Vm.Spec.holds Tryz.prog 6 S_gamehallkeep2_replyFact := by
 have hB : BodiesOk Tryz.prog E_gamehallkeep2_replyFact := bodies_none rfl
 have hBS : BodiesStepped E_gamehallkeep2_replyFact LL_gamehallkeep2_replyFact := bodies_stepped_none rfl
 have hS : SpecsOk Tryz.prog E_gamehallkeep2_replyFact := specs_ok (by exact ⟨⟨by kernel_rfl, f_reply_Odds_holds⟩, ⟨by kernel_rfl, f_reply_Best_holds⟩, ⟨by kernel_rfl, f_reply_Value_holds⟩, ⟨by kernel_rfl, f_gamehallkeep2_fine_holds⟩, ⟨by kernel_rfl, f_gamehallkeep2_guess_holds⟩, ⟨by kernel_rfl, f_gamehallkeep2_half_holds⟩, ⟨by kernel_rfl, f_slices_Equal_Rat_holds⟩, ⟨by kernel_rfl, f_reply_Check_holds⟩, trivial⟩)
 have hE : EOk Tryz.prog E_gamehallkeep2_replyFact := eok_te ok
 exact fn_sound (L := LL_gamehallkeep2_replyFact) hE hS hB (draws_ok hE hS (by kernel_rfl)) hBS (fn := Tryz.f6) (by kernel_rfl) (c := bodyOf Tryz.f6) (by kernel_rfl) (stepped_none rfl) fun x r h => ⟨fuel, (f_gamehallkeep2_replyFact_run fuel x).trans h⟩
noncomputable def E_gamehallkeep2_modest : Env := { te := te, spec := [], body := [(21, Tryz.f21), (22, Tryz.f22), (23, Tryz.f23), (24, Tryz.f24), (49, Tryz.f49), (50, Tryz.f50)], flat := [106] }
def l_slices_IndexFunc_Rat__slices_ContainsFunc_Rat__gamehallkeep2_modest_1__slices_IndexFunc_TreeNode__slices_ContainsFunc_TreeNode__gamehallkeep2_modest_2H : Ann := { slots := [(0, .one (.val (.slice .str))), (1, .one (.fix (.func 24))), (7, .one (.val (.int .i64))), (8, .one (.val (.int .i64)))], objs := [] }
def l_slices_IndexFunc_Rat__slices_ContainsFunc_Rat__gamehallkeep2_modest_1__slices_IndexFunc_TreeNode__slices_ContainsFunc_TreeNode__gamehallkeep2_modest_2X : Ann := { slots := [], objs := [] }
def l_slices_IndexFunc_Rat__slices_ContainsFunc_Rat__gamehallkeep2_modest_1__slices_IndexFunc_TreeNode__slices_ContainsFunc_TreeNode__gamehallkeep2_modest_2R : Ann := { slots := [(4, .one (.val (.int .i64)))], objs := [] }
def l_slices_IndexFunc_TreeNode__slices_ContainsFunc_TreeNode__gamehallkeep2_modest_2H : Ann := { slots := [(0, .one (.val (.slice (.pair (.int .i64) (.pair (.int .i64) (.pair (.int .i64) (.pair (.slice (.int .i64)) (.pair (.slice .str) .str)))))))), (1, .one (.fix (.func 22))), (7, .one (.val (.int .i64))), (8, .one (.val (.int .i64)))], objs := [] }
def l_slices_IndexFunc_TreeNode__slices_ContainsFunc_TreeNode__gamehallkeep2_modest_2X : Ann := { slots := [], objs := [] }
def l_slices_IndexFunc_TreeNode__slices_ContainsFunc_TreeNode__gamehallkeep2_modest_2R : Ann := { slots := [(4, .one (.val (.int .i64)))], objs := [] }
def l_slices_IndexFunc_Rat__slices_ContainsFunc_Rat__gamehallkeep2_modest_1__slices_IndexFunc_TreeNode__slices_ContainsFunc_TreeNode__gamehallkeep2_modest_2 : Nat → List ByteArray → Int → Int → Option (LR l_slices_IndexFunc_Rat__slices_ContainsFunc_Rat__gamehallkeep2_modest_1__slices_IndexFunc_TreeNode__slices_ContainsFunc_TreeNode__gamehallkeep2_modest_2X l_slices_IndexFunc_Rat__slices_ContainsFunc_Rat__gamehallkeep2_modest_1__slices_IndexFunc_TreeNode__slices_ContainsFunc_TreeNode__gamehallkeep2_modest_2R)
 | 0, _, _, _ => none
 | m + 1, s0, s7, s8 =>
  if decide (s8 < s7) = true then
   if (0 : Int) ≤ s8 then
    if s8 < s0.length then
     if decide (((s0.getD s8.toNat ByteArray.empty).size : Int) > 12) = true then
      some (.ret (s8, ()))
     else
      l_slices_IndexFunc_Rat__slices_ContainsFunc_Rat__gamehallkeep2_modest_1__slices_IndexFunc_TreeNode__slices_ContainsFunc_TreeNode__gamehallkeep2_modest_2 m s0 s7 (IntKind.i64.wrap (s8 + 1))
    else none
   else none
  else
   some (.exit ())
def l_slices_IndexFunc_Rat__slices_ContainsFunc_Rat__gamehallkeep2_modest_1__slices_IndexFunc_TreeNode__slices_ContainsFunc_TreeNode__gamehallkeep2_modest_2L : LSpec := { h := l_slices_IndexFunc_Rat__slices_ContainsFunc_Rat__gamehallkeep2_modest_1__slices_IndexFunc_TreeNode__slices_ContainsFunc_TreeNode__gamehallkeep2_modest_2H, x := l_slices_IndexFunc_Rat__slices_ContainsFunc_Rat__gamehallkeep2_modest_1__slices_IndexFunc_TreeNode__slices_ContainsFunc_TreeNode__gamehallkeep2_modest_2X, r := l_slices_IndexFunc_Rat__slices_ContainsFunc_Rat__gamehallkeep2_modest_1__slices_IndexFunc_TreeNode__slices_ContainsFunc_TreeNode__gamehallkeep2_modest_2R, xid := 0, rt := true, pins := [], f := fun k d => l_slices_IndexFunc_Rat__slices_ContainsFunc_Rat__gamehallkeep2_modest_1__slices_IndexFunc_TreeNode__slices_ContainsFunc_TreeNode__gamehallkeep2_modest_2 k d.1 d.2.1 d.2.2.1 }
def l_slices_IndexFunc_TreeNode__slices_ContainsFunc_TreeNode__gamehallkeep2_modest_2 : Nat → List (Int × (Int × (Int × ((List Int) × ((List ByteArray) × ByteArray))))) → Int → Int → Option (LR l_slices_IndexFunc_TreeNode__slices_ContainsFunc_TreeNode__gamehallkeep2_modest_2X l_slices_IndexFunc_TreeNode__slices_ContainsFunc_TreeNode__gamehallkeep2_modest_2R)
 | 0, _, _, _ => none
 | m + 1, s0, s7, s8 =>
  if decide (s8 < s7) = true then
   if (0 : Int) ≤ s8 then
    if s8 < s0.length then
     if decide ((((((((s0.getD s8.toNat (0, (0, (0, ([], ([], ByteArray.empty)))))).2).2).2).2).2).size : Int) > 12) = false then
      match l_slices_IndexFunc_Rat__slices_ContainsFunc_Rat__gamehallkeep2_modest_1__slices_IndexFunc_TreeNode__slices_ContainsFunc_TreeNode__gamehallkeep2_modest_2 m ((((((s0.getD s8.toNat (0, (0, (0, ([], ([], ByteArray.empty)))))).2).2).2).2).1) (((((((s0.getD s8.toNat (0, (0, (0, ([], ([], ByteArray.empty)))))).2).2).2).2).1).length : Int) 0 with
      | none => none
      | some (.exit d1) =>
       l_slices_IndexFunc_TreeNode__slices_ContainsFunc_TreeNode__gamehallkeep2_modest_2 m s0 s7 (IntKind.i64.wrap (s8 + 1))
      | some (.ret d1) =>
       if decide (d1.1 ≥ 0) = true then
        some (.ret (s8, ()))
       else
        l_slices_IndexFunc_TreeNode__slices_ContainsFunc_TreeNode__gamehallkeep2_modest_2 m s0 s7 (IntKind.i64.wrap (s8 + 1))
     else
      some (.ret (s8, ()))
    else none
   else none
  else
   some (.exit ())
def l_slices_IndexFunc_TreeNode__slices_ContainsFunc_TreeNode__gamehallkeep2_modest_2L : LSpec := { h := l_slices_IndexFunc_TreeNode__slices_ContainsFunc_TreeNode__gamehallkeep2_modest_2H, x := l_slices_IndexFunc_TreeNode__slices_ContainsFunc_TreeNode__gamehallkeep2_modest_2X, r := l_slices_IndexFunc_TreeNode__slices_ContainsFunc_TreeNode__gamehallkeep2_modest_2R, xid := 0, rt := true, pins := [], f := fun k d => l_slices_IndexFunc_TreeNode__slices_ContainsFunc_TreeNode__gamehallkeep2_modest_2 k d.1 d.2.1 d.2.2.1 }
def LL_gamehallkeep2_modest : Loops := [([50, 23, 22, 49, 21, 7], [(2, l_slices_IndexFunc_Rat__slices_ContainsFunc_Rat__gamehallkeep2_modest_1__slices_IndexFunc_TreeNode__slices_ContainsFunc_TreeNode__gamehallkeep2_modest_2L)]), ([49, 21, 7], [(2, l_slices_IndexFunc_TreeNode__slices_ContainsFunc_TreeNode__gamehallkeep2_modest_2L)])]
def f_gamehallkeep2_modest (k : Nat) (a0 : List (Int × (Int × (Int × ((List Int) × ((List ByteArray) × ByteArray)))))) : Option (Bool) :=
 if decide ((a0.length : Int) ≤ 40) = true then
  match l_slices_IndexFunc_TreeNode__slices_ContainsFunc_TreeNode__gamehallkeep2_modest_2 k a0 (a0.length : Int) 0 with
  | none => none
  | some (.exit d1) =>
   some true
  | some (.ret d1) =>
   some (!(decide (d1.1 ≥ 0)))
 else
  some false
theorem l_slices_IndexFunc_Rat__slices_ContainsFunc_Rat__gamehallkeep2_modest_1__slices_IndexFunc_TreeNode__slices_ContainsFunc_TreeNode__gamehallkeep2_modest_2_step (m : Nat) (d : dens l_slices_IndexFunc_Rat__slices_ContainsFunc_Rat__gamehallkeep2_modest_1__slices_IndexFunc_TreeNode__slices_ContainsFunc_TreeNode__gamehallkeep2_modest_2H.tys) : l_slices_IndexFunc_Rat__slices_ContainsFunc_Rat__gamehallkeep2_modest_1__slices_IndexFunc_TreeNode__slices_ContainsFunc_TreeNode__gamehallkeep2_modest_2L.f (m + 1) d = round E_gamehallkeep2_modest LL_gamehallkeep2_modest m [50, 23, 22, 49, 21, 7] 19 (loopN (bodyOf Tryz.f50) 0) l_slices_IndexFunc_Rat__slices_ContainsFunc_Rat__gamehallkeep2_modest_1__slices_IndexFunc_TreeNode__slices_ContainsFunc_TreeNode__gamehallkeep2_modest_2L (l_slices_IndexFunc_Rat__slices_ContainsFunc_Rat__gamehallkeep2_modest_1__slices_IndexFunc_TreeNode__slices_ContainsFunc_TreeNode__gamehallkeep2_modest_2L.f m) d := by kernel_rfl
theorem l_slices_IndexFunc_TreeNode__slices_ContainsFunc_TreeNode__gamehallkeep2_modest_2_step (m : Nat) (d : dens l_slices_IndexFunc_TreeNode__slices_ContainsFunc_TreeNode__gamehallkeep2_modest_2H.tys) : l_slices_IndexFunc_TreeNode__slices_ContainsFunc_TreeNode__gamehallkeep2_modest_2L.f (m + 1) d = round E_gamehallkeep2_modest LL_gamehallkeep2_modest m [49, 21, 7] 19 (loopN (bodyOf Tryz.f49) 0) l_slices_IndexFunc_TreeNode__slices_ContainsFunc_TreeNode__gamehallkeep2_modest_2L (l_slices_IndexFunc_TreeNode__slices_ContainsFunc_TreeNode__gamehallkeep2_modest_2L.f m) d := by kernel_rfl
theorem f_gamehallkeep2_modest_run (k : Nat) (x : denL [.slice (.pair (.int .i64) (.pair (.int .i64) (.pair (.int .i64) (.pair (.slice (.int .i64)) (.pair (.slice .str) .str)))))]) : runFn E_gamehallkeep2_modest LL_gamehallkeep2_modest k 7 Tryz.f7 [.slice (.pair (.int .i64) (.pair (.int .i64) (.pair (.int .i64) (.pair (.slice (.int .i64)) (.pair (.slice .str) .str)))))] [.imm .bool] x = f_gamehallkeep2_modest k x := by kernel_rfl
noncomputable def S_gamehallkeep2_modest : Vm.Spec := { ps := [.slice (.pair (.int .i64) (.pair (.int .i64) (.pair (.int .i64) (.pair (.slice (.int .i64)) (.pair (.slice .str) .str)))))], rs := [.imm .bool], f := fun x => f_gamehallkeep2_modest fuel x }
theorem f_gamehallkeep2_modest_holds : Vm.Spec.holds Tryz.prog 7 S_gamehallkeep2_modest := by
 have hB : BodiesOk Tryz.prog E_gamehallkeep2_modest := bodies_ok (by exact ⟨by kernel_rfl, by kernel_rfl, by kernel_rfl, by kernel_rfl, by kernel_rfl, by kernel_rfl, by kernel_rfl, by kernel_rfl, by kernel_rfl, by kernel_rfl, by kernel_rfl, by kernel_rfl, trivial⟩)
 have hBS : BodiesStepped E_gamehallkeep2_modest LL_gamehallkeep2_modest := by
  refine bodies_stepped ?_
  exact ⟨(fun _ => stepped_noloop (by kernel_rfl)), (fun _ => stepped_noloop (by kernel_rfl)), (fun _ => stepped_noloop (by kernel_rfl)), (fun _ => stepped_noloop (by kernel_rfl)), (stepped_paths [[21, 7]] (by exact ⟨stepped_of (ls := [(2, l_slices_IndexFunc_TreeNode__slices_ContainsFunc_TreeNode__gamehallkeep2_modest_2L)]) rfl rfl ⟨by kernel_rfl, fun _ => rfl, l_slices_IndexFunc_TreeNode__slices_ContainsFunc_TreeNode__gamehallkeep2_modest_2_step, stepsI_end (by kernel_rfl)⟩,  trivial⟩) rfl), (stepped_paths [[23, 22, 49, 21, 7]] (by exact ⟨stepped_of (ls := [(2, l_slices_IndexFunc_Rat__slices_ContainsFunc_Rat__gamehallkeep2_modest_1__slices_IndexFunc_TreeNode__slices_ContainsFunc_TreeNode__gamehallkeep2_modest_2L)]) rfl rfl ⟨by kernel_rfl, fun _ => rfl, l_slices_IndexFunc_Rat__slices_ContainsFunc_Rat__gamehallkeep2_modest_1__slices_IndexFunc_TreeNode__slices_ContainsFunc_TreeNode__gamehallkeep2_modest_2_step, stepsI_end (by kernel_rfl)⟩,  trivial⟩) rfl),  trivial⟩
 have hS : SpecsOk Tryz.prog E_gamehallkeep2_modest := specs_ok (by exact trivial)
 have hE : EOk Tryz.prog E_gamehallkeep2_modest := eok_te ok
 exact fn_sound (L := LL_gamehallkeep2_modest) hE hS hB (draws_ok hE hS (by kernel_rfl)) hBS (fn := Tryz.f7) (by kernel_rfl) (c := bodyOf Tryz.f7) (by kernel_rfl) (stepped_none rfl) fun x r h => ⟨fuel, (f_gamehallkeep2_modest_run fuel x).trans h⟩
noncomputable def E_gamehallkeep2_plain : Env := { te := te, spec := [], body := [(23, Tryz.f23), (25, Tryz.f25), (26, Tryz.f26), (27, Tryz.f27), (28, Tryz.f28), (50, Tryz.f50), (51, Tryz.f51), (52, Tryz.f52)], flat := [106] }
def l_slices_Concat_TreeChoice__gamehallkeep2_plain_3H : Ann := { slots := [(3, .one (.val (.int .i64))), (9, .one (.val (.slice (.slice (.pair (.int .i64) (.slice .str)))))), (10, .one (.val (.int .i64))), (11, .one (.val (.int .i64)))], objs := [] }
def l_slices_Concat_TreeChoice__gamehallkeep2_plain_3X : Ann := { slots := [(3, .one (.val (.int .i64)))], objs := [] }
def l_slices_Concat_TreeChoice__gamehallkeep2_plain_3R : Ann := { slots := [], objs := [] }
def l_slices_Concat_TreeChoice__gamehallkeep2_plain_11H : Ann := { slots := [(6, .one (.pre 8088 (.pair (.int .i64) (.slice .str)))), (25, .one (.val (.slice (.slice (.pair (.int .i64) (.slice .str)))))), (26, .one (.val (.int .i64))), (27, .one (.val (.int .i64)))], objs := [(8088, .buf (.pair (.int .i64) (.slice .str)))] }
def l_slices_Concat_TreeChoice__gamehallkeep2_plain_11X : Ann := { slots := [(6, .one (.pre 8088 (.pair (.int .i64) (.slice .str))))], objs := [(8088, .buf (.pair (.int .i64) (.slice .str)))] }
def l_slices_Concat_TreeChoice__gamehallkeep2_plain_11R : Ann := { slots := [], objs := [] }
def l_slices_IndexFunc_Rat__slices_ContainsFunc_Rat__gamehallkeep2_plain_1__slices_IndexFunc_TreeChoice__slices_ContainsFunc_TreeChoice__gamehallkeep2_plain_2H : Ann := { slots := [(0, .one (.val (.slice .str))), (1, .one (.fix (.func 28))), (7, .one (.val (.int .i64))), (8, .one (.val (.int .i64)))], objs := [] }
def l_slices_IndexFunc_Rat__slices_ContainsFunc_Rat__gamehallkeep2_plain_1__slices_IndexFunc_TreeChoice__slices_ContainsFunc_TreeChoice__gamehallkeep2_plain_2X : Ann := { slots := [], objs := [] }
def l_slices_IndexFunc_Rat__slices_ContainsFunc_Rat__gamehallkeep2_plain_1__slices_IndexFunc_TreeChoice__slices_ContainsFunc_TreeChoice__gamehallkeep2_plain_2R : Ann := { slots := [(4, .one (.val (.int .i64)))], objs := [] }
def l_slices_IndexFunc_TreeChoice__slices_ContainsFunc_TreeChoice__gamehallkeep2_plain_2H : Ann := { slots := [(0, .one (.pre 8088 (.pair (.int .i64) (.slice .str)))), (1, .one (.fix (.func 27))), (7, .one (.val (.int .i64))), (8, .one (.val (.int .i64)))], objs := [(8088, .buf (.pair (.int .i64) (.slice .str)))] }
def l_slices_IndexFunc_TreeChoice__slices_ContainsFunc_TreeChoice__gamehallkeep2_plain_2X : Ann := { slots := [], objs := [(8088, .buf (.pair (.int .i64) (.slice .str)))] }
def l_slices_IndexFunc_TreeChoice__slices_ContainsFunc_TreeChoice__gamehallkeep2_plain_2R : Ann := { slots := [(4, .one (.val (.int .i64)))], objs := [(8088, .buf (.pair (.int .i64) (.slice .str)))] }
def l_slices_Concat_TreeChoice__gamehallkeep2_plain_3 : Nat → Int → List (List (Int × (List ByteArray))) → Int → Int → Option (LR l_slices_Concat_TreeChoice__gamehallkeep2_plain_3X l_slices_Concat_TreeChoice__gamehallkeep2_plain_3R)
 | 0, _, _, _, _ => none
 | m + 1, s3, s9, s10, s11 =>
  if decide (s11 < s10) = true then
   if (0 : Int) ≤ s11 then
    if s11 < s9.length then
     if decide (IntKind.i64.wrap (s3 + ((s9.getD s11.toNat []).length : Int)) < 0) = true then
      none
     else
      l_slices_Concat_TreeChoice__gamehallkeep2_plain_3 m (IntKind.i64.wrap (s3 + ((s9.getD s11.toNat []).length : Int))) s9 s10 (IntKind.i64.wrap (s11 + 1))
    else none
   else none
  else
   some (.exit (s3, ()))
def l_slices_Concat_TreeChoice__gamehallkeep2_plain_3L : LSpec := { h := l_slices_Concat_TreeChoice__gamehallkeep2_plain_3H, x := l_slices_Concat_TreeChoice__gamehallkeep2_plain_3X, r := l_slices_Concat_TreeChoice__gamehallkeep2_plain_3R, xid := 0, rt := false, pins := [], f := fun k d => l_slices_Concat_TreeChoice__gamehallkeep2_plain_3 k d.1 d.2.1 d.2.2.1 d.2.2.2.1 }
def l_slices_Concat_TreeChoice__gamehallkeep2_plain_11 : Nat → Nat → List (List (Int × (List ByteArray))) → Int → Int → List (Int × (List ByteArray)) → Option (LR l_slices_Concat_TreeChoice__gamehallkeep2_plain_11X l_slices_Concat_TreeChoice__gamehallkeep2_plain_11R)
 | 0, _, _, _, _, _ => none
 | m + 1, s6, s25, s26, s27, b8088 =>
  if decide (s27 < s26) = true then
   if (0 : Int) ≤ s27 then
    if s27 < s25.length then
     if ((b8088.take s6).length + (s25.getD s27.toNat []).length) * 32 ≤ 140737488355328 then
      l_slices_Concat_TreeChoice__gamehallkeep2_plain_11 m (((b8088.take s6) ++ (s25.getD s27.toNat [])).length) s25 s26 (IntKind.i64.wrap (s27 + 1)) ((b8088.take s6) ++ (s25.getD s27.toNat []))
     else none
    else none
   else none
  else
   some (.exit (s6, b8088, ()))
def l_slices_Concat_TreeChoice__gamehallkeep2_plain_11L : LSpec := { h := l_slices_Concat_TreeChoice__gamehallkeep2_plain_11H, x := l_slices_Concat_TreeChoice__gamehallkeep2_plain_11X, r := l_slices_Concat_TreeChoice__gamehallkeep2_plain_11R, xid := 2, rt := false, pins := [], f := fun k d => l_slices_Concat_TreeChoice__gamehallkeep2_plain_11 k d.1 d.2.1 d.2.2.1 d.2.2.2.1 d.2.2.2.2.1 }
def l_slices_IndexFunc_Rat__slices_ContainsFunc_Rat__gamehallkeep2_plain_1__slices_IndexFunc_TreeChoice__slices_ContainsFunc_TreeChoice__gamehallkeep2_plain_2 : Nat → List ByteArray → Int → Int → Option (LR l_slices_IndexFunc_Rat__slices_ContainsFunc_Rat__gamehallkeep2_plain_1__slices_IndexFunc_TreeChoice__slices_ContainsFunc_TreeChoice__gamehallkeep2_plain_2X l_slices_IndexFunc_Rat__slices_ContainsFunc_Rat__gamehallkeep2_plain_1__slices_IndexFunc_TreeChoice__slices_ContainsFunc_TreeChoice__gamehallkeep2_plain_2R)
 | 0, _, _, _ => none
 | m + 1, s0, s7, s8 =>
  if decide (s8 < s7) = true then
   if (0 : Int) ≤ s8 then
    if s8 < s0.length then
     if decide (((s0.getD s8.toNat ByteArray.empty).size : Int) > 12) = true then
      some (.ret (s8, ()))
     else
      l_slices_IndexFunc_Rat__slices_ContainsFunc_Rat__gamehallkeep2_plain_1__slices_IndexFunc_TreeChoice__slices_ContainsFunc_TreeChoice__gamehallkeep2_plain_2 m s0 s7 (IntKind.i64.wrap (s8 + 1))
    else none
   else none
  else
   some (.exit ())
def l_slices_IndexFunc_Rat__slices_ContainsFunc_Rat__gamehallkeep2_plain_1__slices_IndexFunc_TreeChoice__slices_ContainsFunc_TreeChoice__gamehallkeep2_plain_2L : LSpec := { h := l_slices_IndexFunc_Rat__slices_ContainsFunc_Rat__gamehallkeep2_plain_1__slices_IndexFunc_TreeChoice__slices_ContainsFunc_TreeChoice__gamehallkeep2_plain_2H, x := l_slices_IndexFunc_Rat__slices_ContainsFunc_Rat__gamehallkeep2_plain_1__slices_IndexFunc_TreeChoice__slices_ContainsFunc_TreeChoice__gamehallkeep2_plain_2X, r := l_slices_IndexFunc_Rat__slices_ContainsFunc_Rat__gamehallkeep2_plain_1__slices_IndexFunc_TreeChoice__slices_ContainsFunc_TreeChoice__gamehallkeep2_plain_2R, xid := 0, rt := true, pins := [], f := fun k d => l_slices_IndexFunc_Rat__slices_ContainsFunc_Rat__gamehallkeep2_plain_1__slices_IndexFunc_TreeChoice__slices_ContainsFunc_TreeChoice__gamehallkeep2_plain_2 k d.1 d.2.1 d.2.2.1 }
def l_slices_IndexFunc_TreeChoice__slices_ContainsFunc_TreeChoice__gamehallkeep2_plain_2 : Nat → Nat → Int → Int → List (Int × (List ByteArray)) → Option (LR l_slices_IndexFunc_TreeChoice__slices_ContainsFunc_TreeChoice__gamehallkeep2_plain_2X l_slices_IndexFunc_TreeChoice__slices_ContainsFunc_TreeChoice__gamehallkeep2_plain_2R)
 | 0, _, _, _, _ => none
 | m + 1, s0, s7, s8, b8088 =>
  if decide (s8 < s7) = true then
   if (0 : Int) ≤ s8 then
    if s8 < s0 then
     match l_slices_IndexFunc_Rat__slices_ContainsFunc_Rat__gamehallkeep2_plain_1__slices_IndexFunc_TreeChoice__slices_ContainsFunc_TreeChoice__gamehallkeep2_plain_2 m ((b8088.getD s8.toNat (0, [])).2) (((b8088.getD s8.toNat (0, [])).2).length : Int) 0 with
     | none => none
     | some (.exit d1) =>
      l_slices_IndexFunc_TreeChoice__slices_ContainsFunc_TreeChoice__gamehallkeep2_plain_2 m s0 s7 (IntKind.i64.wrap (s8 + 1)) b8088
     | some (.ret d1) =>
      if decide (d1.1 ≥ 0) = true then
       some (.ret (s8, b8088, ()))
      else
       l_slices_IndexFunc_TreeChoice__slices_ContainsFunc_TreeChoice__gamehallkeep2_plain_2 m s0 s7 (IntKind.i64.wrap (s8 + 1)) b8088
    else none
   else none
  else
   some (.exit (b8088, ()))
def l_slices_IndexFunc_TreeChoice__slices_ContainsFunc_TreeChoice__gamehallkeep2_plain_2L : LSpec := { h := l_slices_IndexFunc_TreeChoice__slices_ContainsFunc_TreeChoice__gamehallkeep2_plain_2H, x := l_slices_IndexFunc_TreeChoice__slices_ContainsFunc_TreeChoice__gamehallkeep2_plain_2X, r := l_slices_IndexFunc_TreeChoice__slices_ContainsFunc_TreeChoice__gamehallkeep2_plain_2R, xid := 0, rt := true, pins := [8088], f := fun k d => l_slices_IndexFunc_TreeChoice__slices_ContainsFunc_TreeChoice__gamehallkeep2_plain_2 k d.1 d.2.1 d.2.2.1 d.2.2.2.1 }
def LL_gamehallkeep2_plain : Loops := [([26, 8], [(3, l_slices_Concat_TreeChoice__gamehallkeep2_plain_3L), (11, l_slices_Concat_TreeChoice__gamehallkeep2_plain_11L)]), ([50, 23, 27, 51, 25, 8], [(2, l_slices_IndexFunc_Rat__slices_ContainsFunc_Rat__gamehallkeep2_plain_1__slices_IndexFunc_TreeChoice__slices_ContainsFunc_TreeChoice__gamehallkeep2_plain_2L)]), ([51, 25, 8], [(2, l_slices_IndexFunc_TreeChoice__slices_ContainsFunc_TreeChoice__gamehallkeep2_plain_2L)])]
def f_gamehallkeep2_plain (k : Nat) (a0 : List (List (Int × (List ByteArray)))) : Option (Bool) :=
 match l_slices_Concat_TreeChoice__gamehallkeep2_plain_3 k 0 a0 (a0.length : Int) 0 with
 | none => none
 | some (.exit d1) =>
  if decide (d1.1 < 0) = true then
   none
  else
   if decide (IntKind.i64.wrap (d1.1 - 0) > 0) = true then
    if (0 : Int) < IntKind.i64.wrap (d1.1 - 0) then
     if (IntKind.i64.wrap (d1.1 - 0)) * 32 ≤ 140737488355328 then
      if (0 : Int) ≤ (List.replicate (IntKind.i64.wrap (d1.1 - 0)).toNat ((0, []) : Int × (List ByteArray))).length then
       match l_slices_Concat_TreeChoice__gamehallkeep2_plain_11 k 0 a0 (a0.length : Int) 0 (List.replicate (IntKind.i64.wrap (d1.1 - 0)).toNat ((0, []) : Int × (List ByteArray))) with
       | none => none
       | some (.exit d2) =>
        match l_slices_IndexFunc_TreeChoice__slices_ContainsFunc_TreeChoice__gamehallkeep2_plain_2 k d2.1 (d2.1 : Int) 0 d2.2.1 with
        | none => none
        | some (.exit d3) =>
         some true
        | some (.ret d3) =>
         some (!(decide (d3.1 ≥ 0)))
       | some (.ret d2) =>
        none
      else none
     else none
    else none
   else
    match l_slices_Concat_TreeChoice__gamehallkeep2_plain_11 k 0 a0 (a0.length : Int) 0 [] with
    | none => none
    | some (.exit d4) =>
     match l_slices_IndexFunc_TreeChoice__slices_ContainsFunc_TreeChoice__gamehallkeep2_plain_2 k d4.1 (d4.1 : Int) 0 d4.2.1 with
     | none => none
     | some (.exit d5) =>
      some true
     | some (.ret d5) =>
      some (!(decide (d5.1 ≥ 0)))
    | some (.ret d4) =>
     none
 | some (.ret d1) =>
  none
theorem l_slices_Concat_TreeChoice__gamehallkeep2_plain_3_step (m : Nat) (d : dens l_slices_Concat_TreeChoice__gamehallkeep2_plain_3H.tys) : l_slices_Concat_TreeChoice__gamehallkeep2_plain_3L.f (m + 1) d = round E_gamehallkeep2_plain LL_gamehallkeep2_plain m [26, 8] 36 (loopN (bodyOf Tryz.f26) 0) l_slices_Concat_TreeChoice__gamehallkeep2_plain_3L (l_slices_Concat_TreeChoice__gamehallkeep2_plain_3L.f m) d := by kernel_rfl
theorem l_slices_Concat_TreeChoice__gamehallkeep2_plain_11_step (m : Nat) (d : dens l_slices_Concat_TreeChoice__gamehallkeep2_plain_11H.tys) : l_slices_Concat_TreeChoice__gamehallkeep2_plain_11L.f (m + 1) d = round E_gamehallkeep2_plain LL_gamehallkeep2_plain m [26, 8] 36 (loopN (bodyOf Tryz.f26) 1) l_slices_Concat_TreeChoice__gamehallkeep2_plain_11L (l_slices_Concat_TreeChoice__gamehallkeep2_plain_11L.f m) d := by kernel_rfl
theorem l_slices_IndexFunc_Rat__slices_ContainsFunc_Rat__gamehallkeep2_plain_1__slices_IndexFunc_TreeChoice__slices_ContainsFunc_TreeChoice__gamehallkeep2_plain_2_step (m : Nat) (d : dens l_slices_IndexFunc_Rat__slices_ContainsFunc_Rat__gamehallkeep2_plain_1__slices_IndexFunc_TreeChoice__slices_ContainsFunc_TreeChoice__gamehallkeep2_plain_2H.tys) : l_slices_IndexFunc_Rat__slices_ContainsFunc_Rat__gamehallkeep2_plain_1__slices_IndexFunc_TreeChoice__slices_ContainsFunc_TreeChoice__gamehallkeep2_plain_2L.f (m + 1) d = round E_gamehallkeep2_plain LL_gamehallkeep2_plain m [50, 23, 27, 51, 25, 8] 19 (loopN (bodyOf Tryz.f50) 0) l_slices_IndexFunc_Rat__slices_ContainsFunc_Rat__gamehallkeep2_plain_1__slices_IndexFunc_TreeChoice__slices_ContainsFunc_TreeChoice__gamehallkeep2_plain_2L (l_slices_IndexFunc_Rat__slices_ContainsFunc_Rat__gamehallkeep2_plain_1__slices_IndexFunc_TreeChoice__slices_ContainsFunc_TreeChoice__gamehallkeep2_plain_2L.f m) d := by kernel_rfl
theorem l_slices_IndexFunc_TreeChoice__slices_ContainsFunc_TreeChoice__gamehallkeep2_plain_2_step (m : Nat) (d : dens l_slices_IndexFunc_TreeChoice__slices_ContainsFunc_TreeChoice__gamehallkeep2_plain_2H.tys) : l_slices_IndexFunc_TreeChoice__slices_ContainsFunc_TreeChoice__gamehallkeep2_plain_2L.f (m + 1) d = round E_gamehallkeep2_plain LL_gamehallkeep2_plain m [51, 25, 8] 19 (loopN (bodyOf Tryz.f51) 0) l_slices_IndexFunc_TreeChoice__slices_ContainsFunc_TreeChoice__gamehallkeep2_plain_2L (l_slices_IndexFunc_TreeChoice__slices_ContainsFunc_TreeChoice__gamehallkeep2_plain_2L.f m) d := by kernel_rfl
theorem f_gamehallkeep2_plain_run (k : Nat) (x : denL [.slice (.slice (.pair (.int .i64) (.slice .str)))]) : runFn E_gamehallkeep2_plain LL_gamehallkeep2_plain k 8 Tryz.f8 [.slice (.slice (.pair (.int .i64) (.slice .str)))] [.imm .bool] x = f_gamehallkeep2_plain k x := by kernel_rfl
noncomputable def S_gamehallkeep2_plain : Vm.Spec := { ps := [.slice (.slice (.pair (.int .i64) (.slice .str)))], rs := [.imm .bool], f := fun x => f_gamehallkeep2_plain fuel x }
theorem f_gamehallkeep2_plain_holds : Vm.Spec.holds Tryz.prog 8 S_gamehallkeep2_plain := by
 have hB : BodiesOk Tryz.prog E_gamehallkeep2_plain := bodies_ok (by exact ⟨by kernel_rfl, by kernel_rfl, by kernel_rfl, by kernel_rfl, by kernel_rfl, by kernel_rfl, by kernel_rfl, by kernel_rfl, by kernel_rfl, by kernel_rfl, by kernel_rfl, by kernel_rfl, by kernel_rfl, by kernel_rfl, by kernel_rfl, by kernel_rfl, trivial⟩)
 have hBS : BodiesStepped E_gamehallkeep2_plain LL_gamehallkeep2_plain := by
  refine bodies_stepped ?_
  exact ⟨(fun _ => stepped_noloop (by kernel_rfl)), (fun _ => stepped_noloop (by kernel_rfl)), (stepped_paths [[8]] (by exact ⟨stepped_of (ls := [(3, l_slices_Concat_TreeChoice__gamehallkeep2_plain_3L), (11, l_slices_Concat_TreeChoice__gamehallkeep2_plain_11L)]) rfl rfl ⟨by kernel_rfl, fun _ => rfl, l_slices_Concat_TreeChoice__gamehallkeep2_plain_3_step, by kernel_rfl, fun _ => rfl, l_slices_Concat_TreeChoice__gamehallkeep2_plain_11_step, stepsI_end (by kernel_rfl)⟩,  trivial⟩) rfl), (fun _ => stepped_noloop (by kernel_rfl)), (fun _ => stepped_noloop (by kernel_rfl)), (stepped_paths [[23, 27, 51, 25, 8]] (by exact ⟨stepped_of (ls := [(2, l_slices_IndexFunc_Rat__slices_ContainsFunc_Rat__gamehallkeep2_plain_1__slices_IndexFunc_TreeChoice__slices_ContainsFunc_TreeChoice__gamehallkeep2_plain_2L)]) rfl rfl ⟨by kernel_rfl, fun _ => rfl, l_slices_IndexFunc_Rat__slices_ContainsFunc_Rat__gamehallkeep2_plain_1__slices_IndexFunc_TreeChoice__slices_ContainsFunc_TreeChoice__gamehallkeep2_plain_2_step, stepsI_end (by kernel_rfl)⟩,  trivial⟩) rfl), (stepped_paths [[25, 8]] (by exact ⟨stepped_of (ls := [(2, l_slices_IndexFunc_TreeChoice__slices_ContainsFunc_TreeChoice__gamehallkeep2_plain_2L)]) rfl rfl ⟨by kernel_rfl, fun _ => rfl, l_slices_IndexFunc_TreeChoice__slices_ContainsFunc_TreeChoice__gamehallkeep2_plain_2_step, stepsI_end (by kernel_rfl)⟩,  trivial⟩) rfl), (fun _ => stepped_noloop (by kernel_rfl)),  trivial⟩
 have hS : SpecsOk Tryz.prog E_gamehallkeep2_plain := specs_ok (by exact trivial)
 have hE : EOk Tryz.prog E_gamehallkeep2_plain := eok_te ok
 exact fn_sound (L := LL_gamehallkeep2_plain) hE hS hB (draws_ok hE hS (by kernel_rfl)) hBS (fn := Tryz.f8) (by kernel_rfl) (c := bodyOf Tryz.f8) (by kernel_rfl) (stepped_none rfl) fun x r h => ⟨fuel, (f_gamehallkeep2_plain_run fuel x).trans h⟩
noncomputable def E_rat_Neg : Env := { te := te, spec := [(34, S_rat_In), (42, S_rat_Check), (43, S_rat_Q_Neg), (44, S_rat_Q_Out)], body := [], flat := [106] }
def LL_rat_Neg : Loops := []
def f_rat_Neg (k : Nat) (a0 : ByteArray) : Option (ByteArray × Int) :=
 (f_rat_Check fuel a0).bind fun r1 =>
 if (r1 != 0) = true then
  some ((⟨#[]⟩ : ByteArray), r1)
 else
  (f_rat_In fuel a0).bind fun r2 =>
  (f_rat_Q_Neg fuel r2).bind fun r3 =>
  (f_rat_Q_Out fuel r3).bind fun r4 =>
  some (r4, 0)
theorem f_rat_Neg_run (k : Nat) (x : denL [.str]) : runFn E_rat_Neg LL_rat_Neg k 14 Tryz.f14 [.str] [.imm .str, .imm (.int .i64)] x = f_rat_Neg k x := by kernel_rfl
noncomputable def S_rat_Neg : Vm.Spec := { ps := [.str], rs := [.imm .str, .imm (.int .i64)], f := fun x => f_rat_Neg fuel x }
theorem f_rat_Neg_holds : Vm.Spec.holds Tryz.prog 14 S_rat_Neg := by
 have hB : BodiesOk Tryz.prog E_rat_Neg := bodies_none rfl
 have hBS : BodiesStepped E_rat_Neg LL_rat_Neg := bodies_stepped_none rfl
 have hS : SpecsOk Tryz.prog E_rat_Neg := specs_ok (by exact ⟨⟨by kernel_rfl, f_rat_In_holds⟩, ⟨by kernel_rfl, f_rat_Check_holds⟩, ⟨by kernel_rfl, f_rat_Q_Neg_holds⟩, ⟨by kernel_rfl, f_rat_Q_Out_holds⟩, trivial⟩)
 have hE : EOk Tryz.prog E_rat_Neg := eok_te ok
 exact fn_sound (L := LL_rat_Neg) hE hS hB (draws_ok hE hS (by kernel_rfl)) hBS (fn := Tryz.f14) (by kernel_rfl) (c := bodyOf Tryz.f14) (by kernel_rfl) (stepped_none rfl) fun x r h => ⟨fuel, (f_rat_Neg_run fuel x).trans h⟩
noncomputable def E_gamehallkeep2_ReplyGets : Env := { te := te, spec := [(6, S_gamehallkeep2_replyFact), (7, S_gamehallkeep2_modest), (8, S_gamehallkeep2_plain), (12, S_reply_Best), (13, S_reply_Value), (14, S_rat_Neg)], body := [], flat := [106] }
def LL_gamehallkeep2_ReplyGets : Loops := []
def f_gamehallkeep2_ReplyGets (k : Nat) (a0 : List (Int × (Int × (Int × ((List Int) × ((List ByteArray) × ByteArray)))))) (a1 : Int) (a2 : List (Int × (List ByteArray))) : Option (Bool) :=
 (f_gamehallkeep2_replyFact fuel).bind fun r1 =>
 if (!r1) = true then
  some false
 else
  (f_gamehallkeep2_modest fuel a0).bind fun r2 =>
  if (!r2) = false then
   (f_gamehallkeep2_plain fuel [a2]).bind fun r3 =>
   if (!r3) = true then
    some true
   else
    (f_reply_Best fuel a0 a1 a2).bind fun r4 =>
    if (r4.2.2 != 0) = true then
     if ((r4.1.toList == (⟨#[]⟩ : ByteArray).toList)) = true then
      some ((r4.2.1.length : Int) == 0)
     else
      some false
    else
     if (a1 == 1) = true then
      (f_reply_Value fuel a0 a2 r4.2.1).bind fun r5 =>
      if (a1 == 1) = true then
       if (r5.2 == 0) = true then
        (f_rat_Neg fuel r5.1).bind fun r6 =>
        if (r6.2 == 0) = true then
         some ((r6.1.toList == r4.1.toList))
        else
         some false
       else
        if (r5.2 == 0) = true then
         some ((r5.1.toList == r4.1.toList))
        else
         some false
      else
       if (r5.2 == 0) = true then
        some ((r5.1.toList == r4.1.toList))
       else
        some false
     else
      (f_reply_Value fuel a0 r4.2.1 a2).bind fun r7 =>
      if (a1 == 1) = true then
       if (r7.2 == 0) = true then
        (f_rat_Neg fuel r7.1).bind fun r8 =>
        if (r8.2 == 0) = true then
         some ((r8.1.toList == r4.1.toList))
        else
         some false
       else
        if (r7.2 == 0) = true then
         some ((r7.1.toList == r4.1.toList))
        else
         some false
      else
       if (r7.2 == 0) = true then
        some ((r7.1.toList == r4.1.toList))
       else
        some false
  else
   some true
theorem f_gamehallkeep2_ReplyGets_run (k : Nat) (x : denL [.slice (.pair (.int .i64) (.pair (.int .i64) (.pair (.int .i64) (.pair (.slice (.int .i64)) (.pair (.slice .str) .str))))), .int .i64, .slice (.pair (.int .i64) (.slice .str))]) : runFn E_gamehallkeep2_ReplyGets LL_gamehallkeep2_ReplyGets k 4 Tryz.f4 [.slice (.pair (.int .i64) (.pair (.int .i64) (.pair (.int .i64) (.pair (.slice (.int .i64)) (.pair (.slice .str) .str))))), .int .i64, .slice (.pair (.int .i64) (.slice .str))] [.imm .bool] x = f_gamehallkeep2_ReplyGets k x.1 x.2.1 x.2.2 := by kernel_rfl
noncomputable def S_gamehallkeep2_ReplyGets : Vm.Spec := { ps := [.slice (.pair (.int .i64) (.pair (.int .i64) (.pair (.int .i64) (.pair (.slice (.int .i64)) (.pair (.slice .str) .str))))), .int .i64, .slice (.pair (.int .i64) (.slice .str))], rs := [.imm .bool], f := fun x => f_gamehallkeep2_ReplyGets fuel x.1 x.2.1 x.2.2 }
theorem f_gamehallkeep2_ReplyGets_holds : Vm.Spec.holds Tryz.prog 4 S_gamehallkeep2_ReplyGets := by
 have hB : BodiesOk Tryz.prog E_gamehallkeep2_ReplyGets := bodies_none rfl
 have hBS : BodiesStepped E_gamehallkeep2_ReplyGets LL_gamehallkeep2_ReplyGets := bodies_stepped_none rfl
 have hS : SpecsOk Tryz.prog E_gamehallkeep2_ReplyGets := specs_ok (by exact ⟨⟨by kernel_rfl, f_gamehallkeep2_replyFact_holds⟩, ⟨by kernel_rfl, f_gamehallkeep2_modest_holds⟩, ⟨by kernel_rfl, f_gamehallkeep2_plain_holds⟩, ⟨by kernel_rfl, f_reply_Best_holds⟩, ⟨by kernel_rfl, f_reply_Value_holds⟩, ⟨by kernel_rfl, f_rat_Neg_holds⟩, trivial⟩)
 have hE : EOk Tryz.prog E_gamehallkeep2_ReplyGets := eok_te ok
 exact fn_sound (L := LL_gamehallkeep2_ReplyGets) hE hS hB (draws_ok hE hS (by kernel_rfl)) hBS (fn := Tryz.f4) (by kernel_rfl) (c := bodyOf Tryz.f4) (by kernel_rfl) (stepped_none rfl) fun x r h => ⟨fuel, (f_gamehallkeep2_ReplyGets_run fuel x).trans h⟩
noncomputable def E_rat_Compare : Env := { te := te, spec := [(32, S_rat_CheckAll), (34, S_rat_In), (47, S_rat_Q_Cmp)], body := [], flat := [106] }
def LL_rat_Compare : Loops := []
def f_rat_Compare (k : Nat) (a0 : ByteArray) (a1 : ByteArray) : Option (Int × Int) :=
 (f_rat_CheckAll fuel [a0, a1]).bind fun r1 =>
 if (r1 != 0) = true then
  some (0, r1)
 else
  (f_rat_In fuel a0).bind fun r2 =>
  (f_rat_In fuel a1).bind fun r3 =>
  (f_rat_Q_Cmp fuel r2 r3).bind fun r4 =>
  some (r4, 0)
theorem f_rat_Compare_run (k : Nat) (x : denL [.str, .str]) : runFn E_rat_Compare LL_rat_Compare k 16 Tryz.f16 [.str, .str] [.imm (.int .i64), .imm (.int .i64)] x = f_rat_Compare k x.1 x.2 := by kernel_rfl
noncomputable def S_rat_Compare : Vm.Spec := { ps := [.str, .str], rs := [.imm (.int .i64), .imm (.int .i64)], f := fun x => f_rat_Compare fuel x.1 x.2 }
theorem f_rat_Compare_holds : Vm.Spec.holds Tryz.prog 16 S_rat_Compare := by
 have hB : BodiesOk Tryz.prog E_rat_Compare := bodies_none rfl
 have hBS : BodiesStepped E_rat_Compare LL_rat_Compare := bodies_stepped_none rfl
 have hS : SpecsOk Tryz.prog E_rat_Compare := specs_ok (by exact ⟨⟨by kernel_rfl, f_rat_CheckAll_holds⟩, ⟨by kernel_rfl, f_rat_In_holds⟩, ⟨by kernel_rfl, f_rat_Q_Cmp_holds⟩, trivial⟩)
 have hE : EOk Tryz.prog E_rat_Compare := eok_te ok
 exact fn_sound (L := LL_rat_Compare) hE hS hB (draws_ok hE hS (by kernel_rfl)) hBS (fn := Tryz.f16) (by kernel_rfl) (c := bodyOf Tryz.f16) (by kernel_rfl) (stepped_none rfl) fun x r h => ⟨fuel, (f_rat_Compare_run fuel x).trans h⟩
end Go.Proofs.YtbcooccafbccdaaGreatDoor
