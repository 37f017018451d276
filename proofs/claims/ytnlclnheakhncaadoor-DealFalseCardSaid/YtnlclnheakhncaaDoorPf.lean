/- Pure functions, printed by a program of this session out of the program. -/
import Derived.Test.YtnlclnheakhncaaDoorPe
set_option linter.unusedVariables false
namespace Go.Proofs.YtnlclnheakhncaaDoor
open Go Vm Go.Proofs
/-! gamehall/gamehallkeep2.dealFact -/
noncomputable def E_gamehallkeep2_dealFact : Env := { te := te, spec := [(11, S_cards_Fits), (13, S_deal_Combine), (14, S_cards_Fresh), (15, S_cards_Shuffle), (16, S_gamehallkeep2_fine), (18, S_slices_Equal_int), (24, S_deal_Seal), (35, S_slices_Clone_ints), (39, S_slices_Contains_bool)], body := [(17, Tryd.f17), (19, Tryd.f19), (20, Tryd.f20), (23, Tryd.f23), (25, Tryd.f25), (26, Tryd.f26), (27, Tryd.f27)] }
def l_deal_Table_Missing__gamehallkeep2_dealFact_6H : Ann := { slots := [(0, .one (.fix (.pbox 4120 0))), (4, .one (.own 156 (.int .i64))), (20, .one (.own 4088 .bool)), (21, .one (.val (.int .i64))), (22, .one (.val (.int .i64)))], objs := [(4120, .box [.val (.int .i64), .val (.int .i64), .own 4088 .bool, .own 4096 .bool, .own 4104 (.int .u64), .own 4112 (.slice (.int .i64)), .val (.int .i64)]), (156, .buf (.int .i64)), (4088, .buf .bool), (4096, .buf .bool), (4104, .buf (.int .u64)), (4112, .grid (.int .i64))] }
def l_deal_Table_Missing__gamehallkeep2_dealFact_6X : Ann := { slots := [(4, .one (.own 156 (.int .i64)))], objs := [(156, .buf (.int .i64)), (4120, .box [.val (.int .i64), .val (.int .i64), .own 4088 .bool, .own 4096 .bool, .own 4104 (.int .u64), .own 4112 (.slice (.int .i64)), .val (.int .i64)]), (4088, .buf .bool), (4096, .buf .bool), (4104, .buf (.int .u64)), (4112, .grid (.int .i64))] }
def l_deal_Table_Missing__gamehallkeep2_dealFact_6R : Ann := { slots := [], objs := [] }
def l_deal_Table_Missing__gamehallkeep2_dealFact_6 : Nat → Int → Int → Int → Int → Int → List Int → List Bool → List Bool → List Int → List (List Int) → Option (LR l_deal_Table_Missing__gamehallkeep2_dealFact_6X l_deal_Table_Missing__gamehallkeep2_dealFact_6R)
  | 0, _, _, _, _, _, _, _, _, _, _ => none
  | m + 1, s21, s22, b4120_0, b4120_1, b4120_6, b156, b4088, b4096, b4104, b4112 =>
    if decide (s22 < s21) = true then
      if (0 : Int) ≤ s22 then
        if s22 < b4088.length then
          if (!(b4088.getD s22.toNat false)) = true then
            if decide (b4120_1 ≤ 1) = true then
              if (b156.length + 1) * 8 ≤ 140737488355328 then
                l_deal_Table_Missing__gamehallkeep2_dealFact_6 m s21 (IntKind.i64.wrap (s22 + 1)) b4120_0 b4120_1 b4120_6 (b156 ++ [s22]) b4088 b4096 b4104 b4112
              else none
            else
              l_deal_Table_Missing__gamehallkeep2_dealFact_6 m s21 (IntKind.i64.wrap (s22 + 1)) b4120_0 b4120_1 b4120_6 b156 b4088 b4096 b4104 b4112
          else
            l_deal_Table_Missing__gamehallkeep2_dealFact_6 m s21 (IntKind.i64.wrap (s22 + 1)) b4120_0 b4120_1 b4120_6 b156 b4088 b4096 b4104 b4112
        else none
      else none
    else
      some (.exit (b156, b4120_0, b4120_1, b4120_6, b4088, b4096, b4104, b4112, ()))
def l_deal_Table_Missing__gamehallkeep2_dealFact_6L : LSpec := { h := l_deal_Table_Missing__gamehallkeep2_dealFact_6H, x := l_deal_Table_Missing__gamehallkeep2_dealFact_6X, r := l_deal_Table_Missing__gamehallkeep2_dealFact_6R, xid := 0, rt := false, pins := [4120, 4088, 4096, 4104, 4112], f := fun k d => l_deal_Table_Missing__gamehallkeep2_dealFact_6 k d.1 d.2.1 d.2.2.1 d.2.2.2.1 d.2.2.2.2.1 d.2.2.2.2.2.1 d.2.2.2.2.2.2.1 d.2.2.2.2.2.2.2.1 d.2.2.2.2.2.2.2.2.1 d.2.2.2.2.2.2.2.2.2.1 }
def LL_gamehallkeep2_dealFact : Loops := [([20, 6], [(6, l_deal_Table_Missing__gamehallkeep2_dealFact_6L)])]
def f_gamehallkeep2_dealFact (k : Nat) : Option (Bool) :=
  (f_deal_Combine fuel 3 [[2, 1], [2, 1]]).bind fun r1 =>
  (f_gamehallkeep2_fine fuel [r1.2, 0]).bind fun r2 =>
  if (!r2) = false then
    match l_deal_Table_Missing__gamehallkeep2_dealFact_6 k ((List.replicate 1 false).length : Int) 0 2 0 (-1) [] (List.replicate 1 false) (List.replicate 1 false) (List.replicate 1 0) (List.replicate 1 []) with
    | none => none
    | some (.exit d3) =>
      if ((d3.1.length : Int) != 1) = true then
        some false
      else
        (f_deal_Seal fuel [0] 7).bind fun r4 =>
        if decide (0 ≥ (d3.2.2.2.2.2.2.1.length : Int)) = true then
          if decide (0 ≥ (d3.2.2.2.2.2.2.1.length : Int)) = true then
            if (d3.2.2.1 != 2) = true then
              if (d3.2.2.1 != 3) = true then
                (f_gamehallkeep2_fine fuel [4, 4, 10]).bind fun r5 =>
                if r5 = true then
                  (f_slices_Equal_int fuel r1.1 [1, 0]).bind fun r6 =>
                  if r6 = true then
                    if (d3.2.2.1 == 1) = true then
                      some false
                    else
                      some false
                  else
                    some false
                else
                  some false
              else
                (f_gamehallkeep2_fine fuel [4, 4, 10]).bind fun r7 =>
                if r7 = true then
                  (f_slices_Equal_int fuel r1.1 [1, 0]).bind fun r8 =>
                  if r8 = true then
                    if (d3.2.2.1 == 1) = true then
                      some false
                    else
                      some false
                  else
                    some false
                else
                  some false
            else
              (f_deal_Combine fuel d3.2.1 d3.2.2.2.2.2.2.2.1).bind fun r9 =>
              if (r9.2 != 0) = true then
                if (d3.2.2.1 != 3) = true then
                  (f_gamehallkeep2_fine fuel [4, 4, r9.2]).bind fun r10 =>
                  if r10 = true then
                    (f_slices_Equal_int fuel r1.1 [1, 0]).bind fun r11 =>
                    if r11 = true then
                      if (d3.2.2.1 == 1) = true then
                        some false
                      else
                        some false
                    else
                      some false
                  else
                    some false
                else
                  (f_gamehallkeep2_fine fuel [4, 4, r9.2]).bind fun r12 =>
                  if r12 = true then
                    (f_slices_Equal_int fuel r1.1 [1, 0]).bind fun r13 =>
                    if r13 = true then
                      if (d3.2.2.1 == 1) = true then
                        some false
                      else
                        some false
                    else
                      some false
                  else
                    some false
              else
                (f_cards_Fresh fuel d3.2.1).bind fun r14 =>
                if (r14.2 != 0) = true then
                  if (d3.2.2.1 != 3) = true then
                    (f_gamehallkeep2_fine fuel [4, 4, r14.2]).bind fun r15 =>
                    if r15 = true then
                      (f_slices_Equal_int fuel r1.1 [1, 0]).bind fun r16 =>
                      if r16 = true then
                        if (d3.2.2.1 == 1) = true then
                          some false
                        else
                          some false
                      else
                        some false
                    else
                      some false
                  else
                    (f_gamehallkeep2_fine fuel [4, 4, r14.2]).bind fun r17 =>
                    if r17 = true then
                      (f_slices_Equal_int fuel r1.1 [1, 0]).bind fun r18 =>
                      if r18 = true then
                        if (d3.2.2.1 == 1) = true then
                          some false
                        else
                          some false
                      else
                        some false
                    else
                      some false
                else
                  (f_cards_Shuffle fuel r14.1 r9.1).bind fun r19 =>
                  if (d3.2.2.1 != 3) = true then
                    (f_gamehallkeep2_fine fuel [4, 4, r19.2]).bind fun r20 =>
                    if r20 = true then
                      (f_slices_Equal_int fuel r1.1 [1, 0]).bind fun r21 =>
                      if r21 = true then
                        if (d3.2.2.1 == 1) = true then
                          some false
                        else
                          some false
                      else
                        some false
                    else
                      some false
                  else
                    (f_gamehallkeep2_fine fuel [4, 4, r19.2]).bind fun r22 =>
                    if r22 = true then
                      (f_slices_Equal_int fuel r1.1 [1, 0]).bind fun r23 =>
                      if r23 = true then
                        if (d3.2.2.1 == 1) = true then
                          some false
                        else
                          some false
                      else
                        some false
                    else
                      some false
          else
            if (d3.2.2.1 != 1) = true then
              if (d3.2.2.1 != 2) = true then
                if (d3.2.2.1 != 3) = true then
                  (f_gamehallkeep2_fine fuel [4, 10, 10]).bind fun r24 =>
                  if r24 = true then
                    (f_slices_Equal_int fuel r1.1 [1, 0]).bind fun r25 =>
                    if r25 = true then
                      if (d3.2.2.1 == 1) = true then
                        some false
                      else
                        some false
                    else
                      some false
                  else
                    some false
                else
                  (f_gamehallkeep2_fine fuel [4, 10, 10]).bind fun r26 =>
                  if r26 = true then
                    (f_slices_Equal_int fuel r1.1 [1, 0]).bind fun r27 =>
                    if r27 = true then
                      if (d3.2.2.1 == 1) = true then
                        some false
                      else
                        some false
                    else
                      some false
                  else
                    some false
              else
                (f_deal_Combine fuel d3.2.1 d3.2.2.2.2.2.2.2.1).bind fun r28 =>
                if (r28.2 != 0) = true then
                  if (d3.2.2.1 != 3) = true then
                    (f_gamehallkeep2_fine fuel [4, 10, r28.2]).bind fun r29 =>
                    if r29 = true then
                      (f_slices_Equal_int fuel r1.1 [1, 0]).bind fun r30 =>
                      if r30 = true then
                        if (d3.2.2.1 == 1) = true then
                          some false
                        else
                          some false
                      else
                        some false
                    else
                      some false
                  else
                    (f_gamehallkeep2_fine fuel [4, 10, r28.2]).bind fun r31 =>
                    if r31 = true then
                      (f_slices_Equal_int fuel r1.1 [1, 0]).bind fun r32 =>
                      if r32 = true then
                        if (d3.2.2.1 == 1) = true then
                          some false
                        else
                          some false
                      else
                        some false
                    else
                      some false
                else
                  (f_cards_Fresh fuel d3.2.1).bind fun r33 =>
                  if (r33.2 != 0) = true then
                    if (d3.2.2.1 != 3) = true then
                      (f_gamehallkeep2_fine fuel [4, 10, r33.2]).bind fun r34 =>
                      if r34 = true then
                        (f_slices_Equal_int fuel r1.1 [1, 0]).bind fun r35 =>
                        if r35 = true then
                          if (d3.2.2.1 == 1) = true then
                            some false
                          else
                            some false
                        else
                          some false
                      else
                        some false
                    else
                      (f_gamehallkeep2_fine fuel [4, 10, r33.2]).bind fun r36 =>
                      if r36 = true then
                        (f_slices_Equal_int fuel r1.1 [1, 0]).bind fun r37 =>
                        if r37 = true then
                          if (d3.2.2.1 == 1) = true then
                            some false
                          else
                            some false
                        else
                          some false
                      else
                        some false
                  else
                    (f_cards_Shuffle fuel r33.1 r28.1).bind fun r38 =>
                    if (d3.2.2.1 != 3) = true then
                      (f_gamehallkeep2_fine fuel [4, 10, r38.2]).bind fun r39 =>
                      if r39 = true then
                        (f_slices_Equal_int fuel r1.1 [1, 0]).bind fun r40 =>
                        if r40 = true then
                          if (d3.2.2.1 == 1) = true then
                            some false
                          else
                            some false
                        else
                          some false
                      else
                        some false
                    else
                      (f_gamehallkeep2_fine fuel [4, 10, r38.2]).bind fun r41 =>
                      if r41 = true then
                        (f_slices_Equal_int fuel r1.1 [1, 0]).bind fun r42 =>
                        if r42 = true then
                          if (d3.2.2.1 == 1) = true then
                            some false
                          else
                            some false
                        else
                          some false
                      else
                        some false
            else
              if (0 : Int) < d3.2.2.2.2.2.1.length then
                if (d3.2.2.2.2.2.1.getD 0 false) = true then
                  if (d3.2.2.1 != 2) = true then
                    if (d3.2.2.1 != 3) = true then
                      (f_gamehallkeep2_fine fuel [4, 7, 10]).bind fun r43 =>
                      if r43 = true then
                        (f_slices_Equal_int fuel r1.1 [1, 0]).bind fun r44 =>
                        if r44 = true then
                          if (d3.2.2.1 == 1) = true then
                            some false
                          else
                            some false
                        else
                          some false
                      else
                        some false
                    else
                      (f_gamehallkeep2_fine fuel [4, 7, 10]).bind fun r45 =>
                      if r45 = true then
                        (f_slices_Equal_int fuel r1.1 [1, 0]).bind fun r46 =>
                        if r46 = true then
                          if (d3.2.2.1 == 1) = true then
                            some false
                          else
                            some false
                        else
                          some false
                      else
                        some false
                  else
                    (f_deal_Combine fuel d3.2.1 d3.2.2.2.2.2.2.2.1).bind fun r47 =>
                    if (r47.2 != 0) = true then
                      if (d3.2.2.1 != 3) = true then
                        (f_gamehallkeep2_fine fuel [4, 7, r47.2]).bind fun r48 =>
                        if r48 = true then
                          (f_slices_Equal_int fuel r1.1 [1, 0]).bind fun r49 =>
                          if r49 = true then
                            if (d3.2.2.1 == 1) = true then
                              some false
                            else
                              some false
                          else
                            some false
                        else
                          some false
                      else
                        (f_gamehallkeep2_fine fuel [4, 7, r47.2]).bind fun r50 =>
                        if r50 = true then
                          (f_slices_Equal_int fuel r1.1 [1, 0]).bind fun r51 =>
                          if r51 = true then
                            if (d3.2.2.1 == 1) = true then
                              some false
                            else
                              some false
                          else
                            some false
                        else
                          some false
                    else
                      (f_cards_Fresh fuel d3.2.1).bind fun r52 =>
                      if (r52.2 != 0) = true then
                        if (d3.2.2.1 != 3) = true then
                          (f_gamehallkeep2_fine fuel [4, 7, r52.2]).bind fun r53 =>
                          if r53 = true then
                            (f_slices_Equal_int fuel r1.1 [1, 0]).bind fun r54 =>
                            if r54 = true then
                              if (d3.2.2.1 == 1) = true then
                                some false
                              else
                                some false
                            else
                              some false
                          else
                            some false
                        else
                          (f_gamehallkeep2_fine fuel [4, 7, r52.2]).bind fun r55 =>
                          if r55 = true then
                            (f_slices_Equal_int fuel r1.1 [1, 0]).bind fun r56 =>
                            if r56 = true then
                              if (d3.2.2.1 == 1) = true then
                                some false
                              else
                                some false
                            else
                              some false
                          else
                            some false
                      else
                        (f_cards_Shuffle fuel r52.1 r47.1).bind fun r57 =>
                        if (d3.2.2.1 != 3) = true then
                          (f_gamehallkeep2_fine fuel [4, 7, r57.2]).bind fun r58 =>
                          if r58 = true then
                            (f_slices_Equal_int fuel r1.1 [1, 0]).bind fun r59 =>
                            if r59 = true then
                              if (d3.2.2.1 == 1) = true then
                                some false
                              else
                                some false
                            else
                              some false
                          else
                            some false
                        else
                          (f_gamehallkeep2_fine fuel [4, 7, r57.2]).bind fun r60 =>
                          if r60 = true then
                            (f_slices_Equal_int fuel r1.1 [1, 0]).bind fun r61 =>
                            if r61 = true then
                              if (d3.2.2.1 == 1) = true then
                                some false
                              else
                                some false
                            else
                              some false
                          else
                            some false
                else
                  (f_cards_Fits fuel d3.2.1 [0]).bind fun r62 =>
                  if (r62 != 0) = false then
                    if (0 : Int) < d3.2.2.2.2.2.2.1.length then
                      (f_deal_Seal fuel [0] 7).bind fun r63 =>
                      if (r63 != d3.2.2.2.2.2.2.1.getD 0 0) = true then
                        (f_gamehallkeep2_fine fuel [4, 0, 10]).bind fun r64 =>
                        if r64 = true then
                          (f_slices_Equal_int fuel r1.1 [1, 0]).bind fun r65 =>
                          if r65 = true then
                            if (d3.2.2.1 == 1) = true then
                              some false
                            else
                              some false
                          else
                            some false
                        else
                          some false
                      else
                        (f_slices_Clone_ints [0]).bind fun r66 =>
                        if (0 : Int) < d3.2.2.2.2.2.1.length then
                          if (0 : Int) < d3.2.2.2.2.2.2.2.1.length then
                            (f_slices_Contains_bool fuel (d3.2.2.2.2.2.1.set 0 true) false).bind fun r67 =>
                            if (!r67) = true then
                              (f_deal_Combine fuel d3.2.1 (d3.2.2.2.2.2.2.2.1.set 0 r66)).bind fun r68 =>
                              if (r68.2 != 0) = true then
                                (f_gamehallkeep2_fine fuel [4, 0, r68.2]).bind fun r69 =>
                                if r69 = true then
                                  (f_slices_Equal_int fuel r1.1 [1, 0]).bind fun r70 =>
                                  if r70 = true then
                                    if (d3.2.2.1 == 1) = true then
                                      (f_slices_Equal_int fuel [] [1, 0]).bind fun r71 =>
                                      if r71 = true then
                                        (f_deal_Seal fuel [] 0).bind fun r72 =>
                                        (f_deal_Seal fuel [] 1).bind fun r73 =>
                                        some (r72 != r73)
                                      else
                                        some false
                                    else
                                      some false
                                  else
                                    some false
                                else
                                  some false
                              else
                                (f_cards_Fresh fuel d3.2.1).bind fun r74 =>
                                if (r74.2 != 0) = true then
                                  (f_gamehallkeep2_fine fuel [4, 0, r74.2]).bind fun r75 =>
                                  if r75 = true then
                                    (f_slices_Equal_int fuel r1.1 [1, 0]).bind fun r76 =>
                                    if r76 = true then
                                      if (d3.2.2.1 == 1) = true then
                                        (f_slices_Equal_int fuel [] [1, 0]).bind fun r77 =>
                                        if r77 = true then
                                          (f_deal_Seal fuel [] 0).bind fun r78 =>
                                          (f_deal_Seal fuel [] 1).bind fun r79 =>
                                          some (r78 != r79)
                                        else
                                          some false
                                      else
                                        some false
                                    else
                                      some false
                                  else
                                    some false
                                else
                                  (f_cards_Shuffle fuel r74.1 r68.1).bind fun r80 =>
                                  (f_gamehallkeep2_fine fuel [4, 0, r80.2]).bind fun r81 =>
                                  if r81 = true then
                                    (f_slices_Equal_int fuel r1.1 [1, 0]).bind fun r82 =>
                                    if r82 = true then
                                      if (d3.2.2.1 == 1) = true then
                                        (f_slices_Equal_int fuel r80.1 [1, 0]).bind fun r83 =>
                                        if r83 = true then
                                          (f_deal_Seal fuel [] 0).bind fun r84 =>
                                          (f_deal_Seal fuel [] 1).bind fun r85 =>
                                          some (r84 != r85)
                                        else
                                          some false
                                      else
                                        some false
                                    else
                                      some false
                                  else
                                    some false
                            else
                              if (d3.2.2.1 != 2) = true then
                                if (d3.2.2.1 != 3) = true then
                                  (f_gamehallkeep2_fine fuel [4, 0, 10]).bind fun r86 =>
                                  if r86 = true then
                                    (f_slices_Equal_int fuel r1.1 [1, 0]).bind fun r87 =>
                                    if r87 = true then
                                      if (d3.2.2.1 == 1) = true then
                                        if (d3.2.2.1 == 2) = true then
                                          (f_slices_Equal_int fuel [] [1, 0]).bind fun r88 =>
                                          if r88 = true then
                                            (f_deal_Seal fuel [] 0).bind fun r89 =>
                                            (f_deal_Seal fuel [] 1).bind fun r90 =>
                                            some (r89 != r90)
                                          else
                                            some false
                                        else
                                          some false
                                      else
                                        some false
                                    else
                                      some false
                                  else
                                    some false
                                else
                                  (f_gamehallkeep2_fine fuel [4, 0, 10]).bind fun r91 =>
                                  if r91 = true then
                                    (f_slices_Equal_int fuel r1.1 [1, 0]).bind fun r92 =>
                                    if r92 = true then
                                      if (d3.2.2.1 == 1) = true then
                                        if (d3.2.2.1 == 2) = true then
                                          (f_slices_Equal_int fuel [] [1, 0]).bind fun r93 =>
                                          if r93 = true then
                                            some false
                                          else
                                            some false
                                        else
                                          some false
                                      else
                                        some false
                                    else
                                      some false
                                  else
                                    some false
                              else
                                (f_deal_Combine fuel d3.2.1 (d3.2.2.2.2.2.2.2.1.set 0 r66)).bind fun r94 =>
                                if (r94.2 != 0) = true then
                                  if (d3.2.2.1 != 3) = true then
                                    (f_gamehallkeep2_fine fuel [4, 0, r94.2]).bind fun r95 =>
                                    if r95 = true then
                                      (f_slices_Equal_int fuel r1.1 [1, 0]).bind fun r96 =>
                                      if r96 = true then
                                        if (d3.2.2.1 == 1) = true then
                                          if (d3.2.2.1 == 2) = true then
                                            (f_slices_Equal_int fuel [] [1, 0]).bind fun r97 =>
                                            if r97 = true then
                                              (f_deal_Seal fuel [] 0).bind fun r98 =>
                                              (f_deal_Seal fuel [] 1).bind fun r99 =>
                                              some (r98 != r99)
                                            else
                                              some false
                                          else
                                            some false
                                        else
                                          some false
                                      else
                                        some false
                                    else
                                      some false
                                  else
                                    (f_gamehallkeep2_fine fuel [4, 0, r94.2]).bind fun r100 =>
                                    if r100 = true then
                                      (f_slices_Equal_int fuel r1.1 [1, 0]).bind fun r101 =>
                                      if r101 = true then
                                        if (d3.2.2.1 == 1) = true then
                                          if (d3.2.2.1 == 2) = true then
                                            (f_slices_Equal_int fuel [] [1, 0]).bind fun r102 =>
                                            if r102 = true then
                                              some false
                                            else
                                              some false
                                          else
                                            some false
                                        else
                                          some false
                                      else
                                        some false
                                    else
                                      some false
                                else
                                  (f_cards_Fresh fuel d3.2.1).bind fun r103 =>
                                  if (r103.2 != 0) = true then
                                    if (d3.2.2.1 != 3) = true then
                                      (f_gamehallkeep2_fine fuel [4, 0, r103.2]).bind fun r104 =>
                                      if r104 = true then
                                        (f_slices_Equal_int fuel r1.1 [1, 0]).bind fun r105 =>
                                        if r105 = true then
                                          if (d3.2.2.1 == 1) = true then
                                            if (d3.2.2.1 == 2) = true then
                                              (f_slices_Equal_int fuel [] [1, 0]).bind fun r106 =>
                                              if r106 = true then
                                                (f_deal_Seal fuel [] 0).bind fun r107 =>
                                                (f_deal_Seal fuel [] 1).bind fun r108 =>
                                                some (r107 != r108)
                                              else
                                                some false
                                            else
                                              some false
                                          else
                                            some false
                                        else
                                          some false
                                      else
                                        some false
                                    else
                                      (f_gamehallkeep2_fine fuel [4, 0, r103.2]).bind fun r109 =>
                                      if r109 = true then
                                        (f_slices_Equal_int fuel r1.1 [1, 0]).bind fun r110 =>
                                        if r110 = true then
                                          if (d3.2.2.1 == 1) = true then
                                            if (d3.2.2.1 == 2) = true then
                                              (f_slices_Equal_int fuel [] [1, 0]).bind fun r111 =>
                                              if r111 = true then
                                                some false
                                              else
                                                some false
                                            else
                                              some false
                                          else
                                            some false
                                        else
                                          some false
                                      else
                                        some false
                                  else
                                    (f_cards_Shuffle fuel r103.1 r94.1).bind fun r112 =>
                                    if (d3.2.2.1 != 3) = true then
                                      (f_gamehallkeep2_fine fuel [4, 0, r112.2]).bind fun r113 =>
                                      if r113 = true then
                                        (f_slices_Equal_int fuel r1.1 [1, 0]).bind fun r114 =>
                                        if r114 = true then
                                          if (d3.2.2.1 == 1) = true then
                                            if (d3.2.2.1 == 2) = true then
                                              (f_slices_Equal_int fuel r112.1 [1, 0]).bind fun r115 =>
                                              if r115 = true then
                                                (f_deal_Seal fuel [] 0).bind fun r116 =>
                                                (f_deal_Seal fuel [] 1).bind fun r117 =>
                                                some (r116 != r117)
                                              else
                                                some false
                                            else
                                              some false
                                          else
                                            some false
                                        else
                                          some false
                                      else
                                        some false
                                    else
                                      (f_gamehallkeep2_fine fuel [4, 0, r112.2]).bind fun r118 =>
                                      if r118 = true then
                                        (f_slices_Equal_int fuel r1.1 [1, 0]).bind fun r119 =>
                                        if r119 = true then
                                          if (d3.2.2.1 == 1) = true then
                                            if (d3.2.2.1 == 2) = true then
                                              (f_slices_Equal_int fuel r112.1 [1, 0]).bind fun r120 =>
                                              if r120 = true then
                                                some false
                                              else
                                                some false
                                            else
                                              some false
                                          else
                                            some false
                                        else
                                          some false
                                      else
                                        some false
                          else none
                        else none
                    else none
                  else
                    (f_gamehallkeep2_fine fuel [4, 0, 10]).bind fun r121 =>
                    if r121 = true then
                      (f_slices_Equal_int fuel r1.1 [1, 0]).bind fun r122 =>
                      if r122 = true then
                        if (d3.2.2.1 == 1) = true then
                          some false
                        else
                          some false
                      else
                        some false
                    else
                      some false
              else none
        else
          if (d3.2.2.1 != 0) = true then
            if decide (0 ≥ (d3.2.2.2.2.2.2.1.length : Int)) = true then
              if (d3.2.2.1 != 2) = true then
                if (d3.2.2.1 != 3) = true then
                  (f_gamehallkeep2_fine fuel [10, 4, 10]).bind fun r123 =>
                  if r123 = true then
                    (f_slices_Equal_int fuel r1.1 [1, 0]).bind fun r124 =>
                    if r124 = true then
                      if (d3.2.2.1 == 1) = true then
                        some false
                      else
                        some false
                    else
                      some false
                  else
                    some false
                else
                  (f_gamehallkeep2_fine fuel [10, 4, 10]).bind fun r125 =>
                  if r125 = true then
                    (f_slices_Equal_int fuel r1.1 [1, 0]).bind fun r126 =>
                    if r126 = true then
                      if (d3.2.2.1 == 1) = true then
                        some false
                      else
                        some false
                    else
                      some false
                  else
                    some false
              else
                (f_deal_Combine fuel d3.2.1 d3.2.2.2.2.2.2.2.1).bind fun r127 =>
                if (r127.2 != 0) = true then
                  if (d3.2.2.1 != 3) = true then
                    (f_gamehallkeep2_fine fuel [10, 4, r127.2]).bind fun r128 =>
                    if r128 = true then
                      (f_slices_Equal_int fuel r1.1 [1, 0]).bind fun r129 =>
                      if r129 = true then
                        if (d3.2.2.1 == 1) = true then
                          some false
                        else
                          some false
                      else
                        some false
                    else
                      some false
                  else
                    (f_gamehallkeep2_fine fuel [10, 4, r127.2]).bind fun r130 =>
                    if r130 = true then
                      (f_slices_Equal_int fuel r1.1 [1, 0]).bind fun r131 =>
                      if r131 = true then
                        if (d3.2.2.1 == 1) = true then
                          some false
                        else
                          some false
                      else
                        some false
                    else
                      some false
                else
                  (f_cards_Fresh fuel d3.2.1).bind fun r132 =>
                  if (r132.2 != 0) = true then
                    if (d3.2.2.1 != 3) = true then
                      (f_gamehallkeep2_fine fuel [10, 4, r132.2]).bind fun r133 =>
                      if r133 = true then
                        (f_slices_Equal_int fuel r1.1 [1, 0]).bind fun r134 =>
                        if r134 = true then
                          if (d3.2.2.1 == 1) = true then
                            some false
                          else
                            some false
                        else
                          some false
                      else
                        some false
                    else
                      (f_gamehallkeep2_fine fuel [10, 4, r132.2]).bind fun r135 =>
                      if r135 = true then
                        (f_slices_Equal_int fuel r1.1 [1, 0]).bind fun r136 =>
                        if r136 = true then
                          if (d3.2.2.1 == 1) = true then
                            some false
                          else
                            some false
                        else
                          some false
                      else
                        some false
                  else
                    (f_cards_Shuffle fuel r132.1 r127.1).bind fun r137 =>
                    if (d3.2.2.1 != 3) = true then
                      (f_gamehallkeep2_fine fuel [10, 4, r137.2]).bind fun r138 =>
                      if r138 = true then
                        (f_slices_Equal_int fuel r1.1 [1, 0]).bind fun r139 =>
                        if r139 = true then
                          if (d3.2.2.1 == 1) = true then
                            some false
                          else
                            some false
                        else
                          some false
                      else
                        some false
                    else
                      (f_gamehallkeep2_fine fuel [10, 4, r137.2]).bind fun r140 =>
                      if r140 = true then
                        (f_slices_Equal_int fuel r1.1 [1, 0]).bind fun r141 =>
                        if r141 = true then
                          if (d3.2.2.1 == 1) = true then
                            some false
                          else
                            some false
                        else
                          some false
                      else
                        some false
            else
              if (d3.2.2.1 != 1) = true then
                if (d3.2.2.1 != 2) = true then
                  if (d3.2.2.1 != 3) = true then
                    (f_gamehallkeep2_fine fuel [10, 10, 10]).bind fun r142 =>
                    if r142 = true then
                      (f_slices_Equal_int fuel r1.1 [1, 0]).bind fun r143 =>
                      if r143 = true then
                        if (d3.2.2.1 == 1) = true then
                          some false
                        else
                          some false
                      else
                        some false
                    else
                      some false
                  else
                    (f_gamehallkeep2_fine fuel [10, 10, 10]).bind fun r144 =>
                    if r144 = true then
                      (f_slices_Equal_int fuel r1.1 [1, 0]).bind fun r145 =>
                      if r145 = true then
                        if (d3.2.2.1 == 1) = true then
                          some false
                        else
                          some false
                      else
                        some false
                    else
                      some false
                else
                  (f_deal_Combine fuel d3.2.1 d3.2.2.2.2.2.2.2.1).bind fun r146 =>
                  if (r146.2 != 0) = true then
                    if (d3.2.2.1 != 3) = true then
                      (f_gamehallkeep2_fine fuel [10, 10, r146.2]).bind fun r147 =>
                      if r147 = true then
                        (f_slices_Equal_int fuel r1.1 [1, 0]).bind fun r148 =>
                        if r148 = true then
                          if (d3.2.2.1 == 1) = true then
                            some false
                          else
                            some false
                        else
                          some false
                      else
                        some false
                    else
                      (f_gamehallkeep2_fine fuel [10, 10, r146.2]).bind fun r149 =>
                      if r149 = true then
                        (f_slices_Equal_int fuel r1.1 [1, 0]).bind fun r150 =>
                        if r150 = true then
                          if (d3.2.2.1 == 1) = true then
                            some false
                          else
                            some false
                        else
                          some false
                      else
                        some false
                  else
                    (f_cards_Fresh fuel d3.2.1).bind fun r151 =>
                    if (r151.2 != 0) = true then
                      if (d3.2.2.1 != 3) = true then
                        (f_gamehallkeep2_fine fuel [10, 10, r151.2]).bind fun r152 =>
                        if r152 = true then
                          (f_slices_Equal_int fuel r1.1 [1, 0]).bind fun r153 =>
                          if r153 = true then
                            if (d3.2.2.1 == 1) = true then
                              some false
                            else
                              some false
                          else
                            some false
                        else
                          some false
                      else
                        (f_gamehallkeep2_fine fuel [10, 10, r151.2]).bind fun r154 =>
                        if r154 = true then
                          (f_slices_Equal_int fuel r1.1 [1, 0]).bind fun r155 =>
                          if r155 = true then
                            if (d3.2.2.1 == 1) = true then
                              some false
                            else
                              some false
                          else
                            some false
                        else
                          some false
                    else
                      (f_cards_Shuffle fuel r151.1 r146.1).bind fun r156 =>
                      if (d3.2.2.1 != 3) = true then
                        (f_gamehallkeep2_fine fuel [10, 10, r156.2]).bind fun r157 =>
                        if r157 = true then
                          (f_slices_Equal_int fuel r1.1 [1, 0]).bind fun r158 =>
                          if r158 = true then
                            if (d3.2.2.1 == 1) = true then
                              some false
                            else
                              some false
                          else
                            some false
                        else
                          some false
                      else
                        (f_gamehallkeep2_fine fuel [10, 10, r156.2]).bind fun r159 =>
                        if r159 = true then
                          (f_slices_Equal_int fuel r1.1 [1, 0]).bind fun r160 =>
                          if r160 = true then
                            if (d3.2.2.1 == 1) = true then
                              some false
                            else
                              some false
                          else
                            some false
                        else
                          some false
              else
                if (0 : Int) < d3.2.2.2.2.2.1.length then
                  if (d3.2.2.2.2.2.1.getD 0 false) = true then
                    if (d3.2.2.1 != 2) = true then
                      if (d3.2.2.1 != 3) = true then
                        (f_gamehallkeep2_fine fuel [10, 7, 10]).bind fun r161 =>
                        if r161 = true then
                          (f_slices_Equal_int fuel r1.1 [1, 0]).bind fun r162 =>
                          if r162 = true then
                            if (d3.2.2.1 == 1) = true then
                              some false
                            else
                              some false
                          else
                            some false
                        else
                          some false
                      else
                        (f_gamehallkeep2_fine fuel [10, 7, 10]).bind fun r163 =>
                        if r163 = true then
                          (f_slices_Equal_int fuel r1.1 [1, 0]).bind fun r164 =>
                          if r164 = true then
                            if (d3.2.2.1 == 1) = true then
                              some false
                            else
                              some false
                          else
                            some false
                        else
                          some false
                    else
                      (f_deal_Combine fuel d3.2.1 d3.2.2.2.2.2.2.2.1).bind fun r165 =>
                      if (r165.2 != 0) = true then
                        if (d3.2.2.1 != 3) = true then
                          (f_gamehallkeep2_fine fuel [10, 7, r165.2]).bind fun r166 =>
                          if r166 = true then
                            (f_slices_Equal_int fuel r1.1 [1, 0]).bind fun r167 =>
                            if r167 = true then
                              if (d3.2.2.1 == 1) = true then
                                some false
                              else
                                some false
                            else
                              some false
                          else
                            some false
                        else
                          (f_gamehallkeep2_fine fuel [10, 7, r165.2]).bind fun r168 =>
                          if r168 = true then
                            (f_slices_Equal_int fuel r1.1 [1, 0]).bind fun r169 =>
                            if r169 = true then
                              if (d3.2.2.1 == 1) = true then
                                some false
                              else
                                some false
                            else
                              some false
                          else
                            some false
                      else
                        (f_cards_Fresh fuel d3.2.1).bind fun r170 =>
                        if (r170.2 != 0) = true then
                          if (d3.2.2.1 != 3) = true then
                            (f_gamehallkeep2_fine fuel [10, 7, r170.2]).bind fun r171 =>
                            if r171 = true then
                              (f_slices_Equal_int fuel r1.1 [1, 0]).bind fun r172 =>
                              if r172 = true then
                                if (d3.2.2.1 == 1) = true then
                                  some false
                                else
                                  some false
                              else
                                some false
                            else
                              some false
                          else
                            (f_gamehallkeep2_fine fuel [10, 7, r170.2]).bind fun r173 =>
                            if r173 = true then
                              (f_slices_Equal_int fuel r1.1 [1, 0]).bind fun r174 =>
                              if r174 = true then
                                if (d3.2.2.1 == 1) = true then
                                  some false
                                else
                                  some false
                              else
                                some false
                            else
                              some false
                        else
                          (f_cards_Shuffle fuel r170.1 r165.1).bind fun r175 =>
                          if (d3.2.2.1 != 3) = true then
                            (f_gamehallkeep2_fine fuel [10, 7, r175.2]).bind fun r176 =>
                            if r176 = true then
                              (f_slices_Equal_int fuel r1.1 [1, 0]).bind fun r177 =>
                              if r177 = true then
                                if (d3.2.2.1 == 1) = true then
                                  some false
                                else
                                  some false
                              else
                                some false
                            else
                              some false
                          else
                            (f_gamehallkeep2_fine fuel [10, 7, r175.2]).bind fun r178 =>
                            if r178 = true then
                              (f_slices_Equal_int fuel r1.1 [1, 0]).bind fun r179 =>
                              if r179 = true then
                                if (d3.2.2.1 == 1) = true then
                                  some false
                                else
                                  some false
                              else
                                some false
                            else
                              some false
                  else
                    (f_cards_Fits fuel d3.2.1 [0]).bind fun r180 =>
                    if (r180 != 0) = false then
                      if (0 : Int) < d3.2.2.2.2.2.2.1.length then
                        (f_deal_Seal fuel [0] 7).bind fun r181 =>
                        if (r181 != d3.2.2.2.2.2.2.1.getD 0 0) = true then
                          (f_gamehallkeep2_fine fuel [10, 0, 10]).bind fun r182 =>
                          if r182 = true then
                            (f_slices_Equal_int fuel r1.1 [1, 0]).bind fun r183 =>
                            if r183 = true then
                              if (d3.2.2.1 == 1) = true then
                                some false
                              else
                                some false
                            else
                              some false
                          else
                            some false
                        else
                          (f_slices_Clone_ints [0]).bind fun r184 =>
                          if (0 : Int) < d3.2.2.2.2.2.1.length then
                            if (0 : Int) < d3.2.2.2.2.2.2.2.1.length then
                              (f_slices_Contains_bool fuel (d3.2.2.2.2.2.1.set 0 true) false).bind fun r185 =>
                              if (!r185) = true then
                                (f_deal_Combine fuel d3.2.1 (d3.2.2.2.2.2.2.2.1.set 0 r184)).bind fun r186 =>
                                if (r186.2 != 0) = true then
                                  (f_gamehallkeep2_fine fuel [10, 0, r186.2]).bind fun r187 =>
                                  if r187 = true then
                                    (f_slices_Equal_int fuel r1.1 [1, 0]).bind fun r188 =>
                                    if r188 = true then
                                      if (d3.2.2.1 == 1) = true then
                                        (f_slices_Equal_int fuel [] [1, 0]).bind fun r189 =>
                                        if r189 = true then
                                          (f_deal_Seal fuel [] 0).bind fun r190 =>
                                          (f_deal_Seal fuel [] 1).bind fun r191 =>
                                          some (r190 != r191)
                                        else
                                          some false
                                      else
                                        some false
                                    else
                                      some false
                                  else
                                    some false
                                else
                                  (f_cards_Fresh fuel d3.2.1).bind fun r192 =>
                                  if (r192.2 != 0) = true then
                                    (f_gamehallkeep2_fine fuel [10, 0, r192.2]).bind fun r193 =>
                                    if r193 = true then
                                      (f_slices_Equal_int fuel r1.1 [1, 0]).bind fun r194 =>
                                      if r194 = true then
                                        if (d3.2.2.1 == 1) = true then
                                          (f_slices_Equal_int fuel [] [1, 0]).bind fun r195 =>
                                          if r195 = true then
                                            (f_deal_Seal fuel [] 0).bind fun r196 =>
                                            (f_deal_Seal fuel [] 1).bind fun r197 =>
                                            some (r196 != r197)
                                          else
                                            some false
                                        else
                                          some false
                                      else
                                        some false
                                    else
                                      some false
                                  else
                                    (f_cards_Shuffle fuel r192.1 r186.1).bind fun r198 =>
                                    (f_gamehallkeep2_fine fuel [10, 0, r198.2]).bind fun r199 =>
                                    if r199 = true then
                                      (f_slices_Equal_int fuel r1.1 [1, 0]).bind fun r200 =>
                                      if r200 = true then
                                        if (d3.2.2.1 == 1) = true then
                                          (f_slices_Equal_int fuel r198.1 [1, 0]).bind fun r201 =>
                                          if r201 = true then
                                            (f_deal_Seal fuel [] 0).bind fun r202 =>
                                            (f_deal_Seal fuel [] 1).bind fun r203 =>
                                            some (r202 != r203)
                                          else
                                            some false
                                        else
                                          some false
                                      else
                                        some false
                                    else
                                      some false
                              else
                                if (d3.2.2.1 != 2) = true then
                                  if (d3.2.2.1 != 3) = true then
                                    (f_gamehallkeep2_fine fuel [10, 0, 10]).bind fun r204 =>
                                    if r204 = true then
                                      (f_slices_Equal_int fuel r1.1 [1, 0]).bind fun r205 =>
                                      if r205 = true then
                                        if (d3.2.2.1 == 1) = true then
                                          if (d3.2.2.1 == 2) = true then
                                            (f_slices_Equal_int fuel [] [1, 0]).bind fun r206 =>
                                            if r206 = true then
                                              (f_deal_Seal fuel [] 0).bind fun r207 =>
                                              (f_deal_Seal fuel [] 1).bind fun r208 =>
                                              some (r207 != r208)
                                            else
                                              some false
                                          else
                                            some false
                                        else
                                          some false
                                      else
                                        some false
                                    else
                                      some false
                                  else
                                    (f_gamehallkeep2_fine fuel [10, 0, 10]).bind fun r209 =>
                                    if r209 = true then
                                      (f_slices_Equal_int fuel r1.1 [1, 0]).bind fun r210 =>
                                      if r210 = true then
                                        if (d3.2.2.1 == 1) = true then
                                          if (d3.2.2.1 == 2) = true then
                                            (f_slices_Equal_int fuel [] [1, 0]).bind fun r211 =>
                                            if r211 = true then
                                              some false
                                            else
                                              some false
                                          else
                                            some false
                                        else
                                          some false
                                      else
                                        some false
                                    else
                                      some false
                                else
                                  (f_deal_Combine fuel d3.2.1 (d3.2.2.2.2.2.2.2.1.set 0 r184)).bind fun r212 =>
                                  if (r212.2 != 0) = true then
                                    if (d3.2.2.1 != 3) = true then
                                      (f_gamehallkeep2_fine fuel [10, 0, r212.2]).bind fun r213 =>
                                      if r213 = true then
                                        (f_slices_Equal_int fuel r1.1 [1, 0]).bind fun r214 =>
                                        if r214 = true then
                                          if (d3.2.2.1 == 1) = true then
                                            if (d3.2.2.1 == 2) = true then
                                              (f_slices_Equal_int fuel [] [1, 0]).bind fun r215 =>
                                              if r215 = true then
                                                (f_deal_Seal fuel [] 0).bind fun r216 =>
                                                (f_deal_Seal fuel [] 1).bind fun r217 =>
                                                some (r216 != r217)
                                              else
                                                some false
                                            else
                                              some false
                                          else
                                            some false
                                        else
                                          some false
                                      else
                                        some false
                                    else
                                      (f_gamehallkeep2_fine fuel [10, 0, r212.2]).bind fun r218 =>
                                      if r218 = true then
                                        (f_slices_Equal_int fuel r1.1 [1, 0]).bind fun r219 =>
                                        if r219 = true then
                                          if (d3.2.2.1 == 1) = true then
                                            if (d3.2.2.1 == 2) = true then
                                              (f_slices_Equal_int fuel [] [1, 0]).bind fun r220 =>
                                              if r220 = true then
                                                some false
                                              else
                                                some false
                                            else
                                              some false
                                          else
                                            some false
                                        else
                                          some false
                                      else
                                        some false
                                  else
                                    (f_cards_Fresh fuel d3.2.1).bind fun r221 =>
                                    if (r221.2 != 0) = true then
                                      if (d3.2.2.1 != 3) = true then
                                        (f_gamehallkeep2_fine fuel [10, 0, r221.2]).bind fun r222 =>
                                        if r222 = true then
                                          (f_slices_Equal_int fuel r1.1 [1, 0]).bind fun r223 =>
                                          if r223 = true then
                                            if (d3.2.2.1 == 1) = true then
                                              if (d3.2.2.1 == 2) = true then
                                                (f_slices_Equal_int fuel [] [1, 0]).bind fun r224 =>
                                                if r224 = true then
                                                  (f_deal_Seal fuel [] 0).bind fun r225 =>
                                                  (f_deal_Seal fuel [] 1).bind fun r226 =>
                                                  some (r225 != r226)
                                                else
                                                  some false
                                              else
                                                some false
                                            else
                                              some false
                                          else
                                            some false
                                        else
                                          some false
                                      else
                                        (f_gamehallkeep2_fine fuel [10, 0, r221.2]).bind fun r227 =>
                                        if r227 = true then
                                          (f_slices_Equal_int fuel r1.1 [1, 0]).bind fun r228 =>
                                          if r228 = true then
                                            if (d3.2.2.1 == 1) = true then
                                              if (d3.2.2.1 == 2) = true then
                                                (f_slices_Equal_int fuel [] [1, 0]).bind fun r229 =>
                                                if r229 = true then
                                                  some false
                                                else
                                                  some false
                                              else
                                                some false
                                            else
                                              some false
                                          else
                                            some false
                                        else
                                          some false
                                    else
                                      (f_cards_Shuffle fuel r221.1 r212.1).bind fun r230 =>
                                      if (d3.2.2.1 != 3) = true then
                                        (f_gamehallkeep2_fine fuel [10, 0, r230.2]).bind fun r231 =>
                                        if r231 = true then
                                          (f_slices_Equal_int fuel r1.1 [1, 0]).bind fun r232 =>
                                          if r232 = true then
                                            if (d3.2.2.1 == 1) = true then
                                              if (d3.2.2.1 == 2) = true then
                                                (f_slices_Equal_int fuel r230.1 [1, 0]).bind fun r233 =>
                                                if r233 = true then
                                                  (f_deal_Seal fuel [] 0).bind fun r234 =>
                                                  (f_deal_Seal fuel [] 1).bind fun r235 =>
                                                  some (r234 != r235)
                                                else
                                                  some false
                                              else
                                                some false
                                            else
                                              some false
                                          else
                                            some false
                                        else
                                          some false
                                      else
                                        (f_gamehallkeep2_fine fuel [10, 0, r230.2]).bind fun r236 =>
                                        if r236 = true then
                                          (f_slices_Equal_int fuel r1.1 [1, 0]).bind fun r237 =>
                                          if r237 = true then
                                            if (d3.2.2.1 == 1) = true then
                                              if (d3.2.2.1 == 2) = true then
                                                (f_slices_Equal_int fuel r230.1 [1, 0]).bind fun r238 =>
                                                if r238 = true then
                                                  some false
                                                else
                                                  some false
                                              else
                                                some false
                                            else
                                              some false
                                          else
                                            some false
                                        else
                                          some false
                            else none
                          else none
                      else none
                    else
                      (f_gamehallkeep2_fine fuel [10, 0, 10]).bind fun r239 =>
                      if r239 = true then
                        (f_slices_Equal_int fuel r1.1 [1, 0]).bind fun r240 =>
                        if r240 = true then
                          if (d3.2.2.1 == 1) = true then
                            some false
                          else
                            some false
                        else
                          some false
                      else
                        some false
                else none
          else
            if (0 : Int) < d3.2.2.2.2.1.length then
              if (d3.2.2.2.2.1.getD 0 false) = true then
                if decide (0 ≥ (d3.2.2.2.2.2.2.1.length : Int)) = true then
                  if (d3.2.2.1 != 2) = true then
                    if (d3.2.2.1 != 3) = true then
                      (f_gamehallkeep2_fine fuel [7, 4, 10]).bind fun r241 =>
                      if r241 = true then
                        (f_slices_Equal_int fuel r1.1 [1, 0]).bind fun r242 =>
                        if r242 = true then
                          if (d3.2.2.1 == 1) = true then
                            some false
                          else
                            some false
                        else
                          some false
                      else
                        some false
                    else
                      (f_gamehallkeep2_fine fuel [7, 4, 10]).bind fun r243 =>
                      if r243 = true then
                        (f_slices_Equal_int fuel r1.1 [1, 0]).bind fun r244 =>
                        if r244 = true then
                          if (d3.2.2.1 == 1) = true then
                            some false
                          else
                            some false
                        else
                          some false
                      else
                        some false
                  else
                    (f_deal_Combine fuel d3.2.1 d3.2.2.2.2.2.2.2.1).bind fun r245 =>
                    if (r245.2 != 0) = true then
                      if (d3.2.2.1 != 3) = true then
                        (f_gamehallkeep2_fine fuel [7, 4, r245.2]).bind fun r246 =>
                        if r246 = true then
                          (f_slices_Equal_int fuel r1.1 [1, 0]).bind fun r247 =>
                          if r247 = true then
                            if (d3.2.2.1 == 1) = true then
                              some false
                            else
                              some false
                          else
                            some false
                        else
                          some false
                      else
                        (f_gamehallkeep2_fine fuel [7, 4, r245.2]).bind fun r248 =>
                        if r248 = true then
                          (f_slices_Equal_int fuel r1.1 [1, 0]).bind fun r249 =>
                          if r249 = true then
                            if (d3.2.2.1 == 1) = true then
                              some false
                            else
                              some false
                          else
                            some false
                        else
                          some false
                    else
                      (f_cards_Fresh fuel d3.2.1).bind fun r250 =>
                      if (r250.2 != 0) = true then
                        if (d3.2.2.1 != 3) = true then
                          (f_gamehallkeep2_fine fuel [7, 4, r250.2]).bind fun r251 =>
                          if r251 = true then
                            (f_slices_Equal_int fuel r1.1 [1, 0]).bind fun r252 =>
                            if r252 = true then
                              if (d3.2.2.1 == 1) = true then
                                some false
                              else
                                some false
                            else
                              some false
                          else
                            some false
                        else
                          (f_gamehallkeep2_fine fuel [7, 4, r250.2]).bind fun r253 =>
                          if r253 = true then
                            (f_slices_Equal_int fuel r1.1 [1, 0]).bind fun r254 =>
                            if r254 = true then
                              if (d3.2.2.1 == 1) = true then
                                some false
                              else
                                some false
                            else
                              some false
                          else
                            some false
                      else
                        (f_cards_Shuffle fuel r250.1 r245.1).bind fun r255 =>
                        if (d3.2.2.1 != 3) = true then
                          (f_gamehallkeep2_fine fuel [7, 4, r255.2]).bind fun r256 =>
                          if r256 = true then
                            (f_slices_Equal_int fuel r1.1 [1, 0]).bind fun r257 =>
                            if r257 = true then
                              if (d3.2.2.1 == 1) = true then
                                some false
                              else
                                some false
                            else
                              some false
                          else
                            some false
                        else
                          (f_gamehallkeep2_fine fuel [7, 4, r255.2]).bind fun r258 =>
                          if r258 = true then
                            (f_slices_Equal_int fuel r1.1 [1, 0]).bind fun r259 =>
                            if r259 = true then
                              if (d3.2.2.1 == 1) = true then
                                some false
                              else
                                some false
                            else
                              some false
                          else
                            some false
                else
                  if (d3.2.2.1 != 1) = true then
                    if (d3.2.2.1 != 2) = true then
                      if (d3.2.2.1 != 3) = true then
                        (f_gamehallkeep2_fine fuel [7, 10, 10]).bind fun r260 =>
                        if r260 = true then
                          (f_slices_Equal_int fuel r1.1 [1, 0]).bind fun r261 =>
                          if r261 = true then
                            if (d3.2.2.1 == 1) = true then
                              some false
                            else
                              some false
                          else
                            some false
                        else
                          some false
                      else
                        (f_gamehallkeep2_fine fuel [7, 10, 10]).bind fun r262 =>
                        if r262 = true then
                          (f_slices_Equal_int fuel r1.1 [1, 0]).bind fun r263 =>
                          if r263 = true then
                            if (d3.2.2.1 == 1) = true then
                              some false
                            else
                              some false
                          else
                            some false
                        else
                          some false
                    else
                      (f_deal_Combine fuel d3.2.1 d3.2.2.2.2.2.2.2.1).bind fun r264 =>
                      if (r264.2 != 0) = true then
                        if (d3.2.2.1 != 3) = true then
                          (f_gamehallkeep2_fine fuel [7, 10, r264.2]).bind fun r265 =>
                          if r265 = true then
                            (f_slices_Equal_int fuel r1.1 [1, 0]).bind fun r266 =>
                            if r266 = true then
                              if (d3.2.2.1 == 1) = true then
                                some false
                              else
                                some false
                            else
                              some false
                          else
                            some false
                        else
                          (f_gamehallkeep2_fine fuel [7, 10, r264.2]).bind fun r267 =>
                          if r267 = true then
                            (f_slices_Equal_int fuel r1.1 [1, 0]).bind fun r268 =>
                            if r268 = true then
                              if (d3.2.2.1 == 1) = true then
                                some false
                              else
                                some false
                            else
                              some false
                          else
                            some false
                      else
                        (f_cards_Fresh fuel d3.2.1).bind fun r269 =>
                        if (r269.2 != 0) = true then
                          if (d3.2.2.1 != 3) = true then
                            (f_gamehallkeep2_fine fuel [7, 10, r269.2]).bind fun r270 =>
                            if r270 = true then
                              (f_slices_Equal_int fuel r1.1 [1, 0]).bind fun r271 =>
                              if r271 = true then
                                if (d3.2.2.1 == 1) = true then
                                  some false
                                else
                                  some false
                              else
                                some false
                            else
                              some false
                          else
                            (f_gamehallkeep2_fine fuel [7, 10, r269.2]).bind fun r272 =>
                            if r272 = true then
                              (f_slices_Equal_int fuel r1.1 [1, 0]).bind fun r273 =>
                              if r273 = true then
                                if (d3.2.2.1 == 1) = true then
                                  some false
                                else
                                  some false
                              else
                                some false
                            else
                              some false
                        else
                          (f_cards_Shuffle fuel r269.1 r264.1).bind fun r274 =>
                          if (d3.2.2.1 != 3) = true then
                            (f_gamehallkeep2_fine fuel [7, 10, r274.2]).bind fun r275 =>
                            if r275 = true then
                              (f_slices_Equal_int fuel r1.1 [1, 0]).bind fun r276 =>
                              if r276 = true then
                                if (d3.2.2.1 == 1) = true then
                                  some false
                                else
                                  some false
                              else
                                some false
                            else
                              some false
                          else
                            (f_gamehallkeep2_fine fuel [7, 10, r274.2]).bind fun r277 =>
                            if r277 = true then
                              (f_slices_Equal_int fuel r1.1 [1, 0]).bind fun r278 =>
                              if r278 = true then
                                if (d3.2.2.1 == 1) = true then
                                  some false
                                else
                                  some false
                              else
                                some false
                            else
                              some false
                  else
                    if (0 : Int) < d3.2.2.2.2.2.1.length then
                      if (d3.2.2.2.2.2.1.getD 0 false) = true then
                        if (d3.2.2.1 != 2) = true then
                          if (d3.2.2.1 != 3) = true then
                            (f_gamehallkeep2_fine fuel [7, 7, 10]).bind fun r279 =>
                            if r279 = true then
                              (f_slices_Equal_int fuel r1.1 [1, 0]).bind fun r280 =>
                              if r280 = true then
                                if (d3.2.2.1 == 1) = true then
                                  some false
                                else
                                  some false
                              else
                                some false
                            else
                              some false
                          else
                            (f_gamehallkeep2_fine fuel [7, 7, 10]).bind fun r281 =>
                            if r281 = true then
                              (f_slices_Equal_int fuel r1.1 [1, 0]).bind fun r282 =>
                              if r282 = true then
                                if (d3.2.2.1 == 1) = true then
                                  some false
                                else
                                  some false
                              else
                                some false
                            else
                              some false
                        else
                          (f_deal_Combine fuel d3.2.1 d3.2.2.2.2.2.2.2.1).bind fun r283 =>
                          if (r283.2 != 0) = true then
                            if (d3.2.2.1 != 3) = true then
                              (f_gamehallkeep2_fine fuel [7, 7, r283.2]).bind fun r284 =>
                              if r284 = true then
                                (f_slices_Equal_int fuel r1.1 [1, 0]).bind fun r285 =>
                                if r285 = true then
                                  if (d3.2.2.1 == 1) = true then
                                    some false
                                  else
                                    some false
                                else
                                  some false
                              else
                                some false
                            else
                              (f_gamehallkeep2_fine fuel [7, 7, r283.2]).bind fun r286 =>
                              if r286 = true then
                                (f_slices_Equal_int fuel r1.1 [1, 0]).bind fun r287 =>
                                if r287 = true then
                                  if (d3.2.2.1 == 1) = true then
                                    some false
                                  else
                                    some false
                                else
                                  some false
                              else
                                some false
                          else
                            (f_cards_Fresh fuel d3.2.1).bind fun r288 =>
                            if (r288.2 != 0) = true then
                              if (d3.2.2.1 != 3) = true then
                                (f_gamehallkeep2_fine fuel [7, 7, r288.2]).bind fun r289 =>
                                if r289 = true then
                                  (f_slices_Equal_int fuel r1.1 [1, 0]).bind fun r290 =>
                                  if r290 = true then
                                    if (d3.2.2.1 == 1) = true then
                                      some false
                                    else
                                      some false
                                  else
                                    some false
                                else
                                  some false
                              else
                                (f_gamehallkeep2_fine fuel [7, 7, r288.2]).bind fun r291 =>
                                if r291 = true then
                                  (f_slices_Equal_int fuel r1.1 [1, 0]).bind fun r292 =>
                                  if r292 = true then
                                    if (d3.2.2.1 == 1) = true then
                                      some false
                                    else
                                      some false
                                  else
                                    some false
                                else
                                  some false
                            else
                              (f_cards_Shuffle fuel r288.1 r283.1).bind fun r293 =>
                              if (d3.2.2.1 != 3) = true then
                                (f_gamehallkeep2_fine fuel [7, 7, r293.2]).bind fun r294 =>
                                if r294 = true then
                                  (f_slices_Equal_int fuel r1.1 [1, 0]).bind fun r295 =>
                                  if r295 = true then
                                    if (d3.2.2.1 == 1) = true then
                                      some false
                                    else
                                      some false
                                  else
                                    some false
                                else
                                  some false
                              else
                                (f_gamehallkeep2_fine fuel [7, 7, r293.2]).bind fun r296 =>
                                if r296 = true then
                                  (f_slices_Equal_int fuel r1.1 [1, 0]).bind fun r297 =>
                                  if r297 = true then
                                    if (d3.2.2.1 == 1) = true then
                                      some false
                                    else
                                      some false
                                  else
                                    some false
                                else
                                  some false
                      else
                        (f_cards_Fits fuel d3.2.1 [0]).bind fun r298 =>
                        if (r298 != 0) = false then
                          if (0 : Int) < d3.2.2.2.2.2.2.1.length then
                            (f_deal_Seal fuel [0] 7).bind fun r299 =>
                            if (r299 != d3.2.2.2.2.2.2.1.getD 0 0) = true then
                              (f_gamehallkeep2_fine fuel [7, 0, 10]).bind fun r300 =>
                              if r300 = true then
                                (f_slices_Equal_int fuel r1.1 [1, 0]).bind fun r301 =>
                                if r301 = true then
                                  if (d3.2.2.1 == 1) = true then
                                    some false
                                  else
                                    some false
                                else
                                  some false
                              else
                                some false
                            else
                              (f_slices_Clone_ints [0]).bind fun r302 =>
                              if (0 : Int) < d3.2.2.2.2.2.1.length then
                                if (0 : Int) < d3.2.2.2.2.2.2.2.1.length then
                                  (f_slices_Contains_bool fuel (d3.2.2.2.2.2.1.set 0 true) false).bind fun r303 =>
                                  if (!r303) = true then
                                    (f_deal_Combine fuel d3.2.1 (d3.2.2.2.2.2.2.2.1.set 0 r302)).bind fun r304 =>
                                    if (r304.2 != 0) = true then
                                      (f_gamehallkeep2_fine fuel [7, 0, r304.2]).bind fun r305 =>
                                      if r305 = true then
                                        (f_slices_Equal_int fuel r1.1 [1, 0]).bind fun r306 =>
                                        if r306 = true then
                                          if (d3.2.2.1 == 1) = true then
                                            (f_slices_Equal_int fuel [] [1, 0]).bind fun r307 =>
                                            if r307 = true then
                                              (f_deal_Seal fuel [] 0).bind fun r308 =>
                                              (f_deal_Seal fuel [] 1).bind fun r309 =>
                                              some (r308 != r309)
                                            else
                                              some false
                                          else
                                            some false
                                        else
                                          some false
                                      else
                                        some false
                                    else
                                      (f_cards_Fresh fuel d3.2.1).bind fun r310 =>
                                      if (r310.2 != 0) = true then
                                        (f_gamehallkeep2_fine fuel [7, 0, r310.2]).bind fun r311 =>
                                        if r311 = true then
                                          (f_slices_Equal_int fuel r1.1 [1, 0]).bind fun r312 =>
                                          if r312 = true then
                                            if (d3.2.2.1 == 1) = true then
                                              (f_slices_Equal_int fuel [] [1, 0]).bind fun r313 =>
                                              if r313 = true then
                                                (f_deal_Seal fuel [] 0).bind fun r314 =>
                                                (f_deal_Seal fuel [] 1).bind fun r315 =>
                                                some (r314 != r315)
                                              else
                                                some false
                                            else
                                              some false
                                          else
                                            some false
                                        else
                                          some false
                                      else
                                        (f_cards_Shuffle fuel r310.1 r304.1).bind fun r316 =>
                                        (f_gamehallkeep2_fine fuel [7, 0, r316.2]).bind fun r317 =>
                                        if r317 = true then
                                          (f_slices_Equal_int fuel r1.1 [1, 0]).bind fun r318 =>
                                          if r318 = true then
                                            if (d3.2.2.1 == 1) = true then
                                              (f_slices_Equal_int fuel r316.1 [1, 0]).bind fun r319 =>
                                              if r319 = true then
                                                (f_deal_Seal fuel [] 0).bind fun r320 =>
                                                (f_deal_Seal fuel [] 1).bind fun r321 =>
                                                some (r320 != r321)
                                              else
                                                some false
                                            else
                                              some false
                                          else
                                            some false
                                        else
                                          some false
                                  else
                                    if (d3.2.2.1 != 2) = true then
                                      if (d3.2.2.1 != 3) = true then
                                        (f_gamehallkeep2_fine fuel [7, 0, 10]).bind fun r322 =>
                                        if r322 = true then
                                          (f_slices_Equal_int fuel r1.1 [1, 0]).bind fun r323 =>
                                          if r323 = true then
                                            if (d3.2.2.1 == 1) = true then
                                              if (d3.2.2.1 == 2) = true then
                                                (f_slices_Equal_int fuel [] [1, 0]).bind fun r324 =>
                                                if r324 = true then
                                                  (f_deal_Seal fuel [] 0).bind fun r325 =>
                                                  (f_deal_Seal fuel [] 1).bind fun r326 =>
                                                  some (r325 != r326)
                                                else
                                                  some false
                                              else
                                                some false
                                            else
                                              some false
                                          else
                                            some false
                                        else
                                          some false
                                      else
                                        (f_gamehallkeep2_fine fuel [7, 0, 10]).bind fun r327 =>
                                        if r327 = true then
                                          (f_slices_Equal_int fuel r1.1 [1, 0]).bind fun r328 =>
                                          if r328 = true then
                                            if (d3.2.2.1 == 1) = true then
                                              if (d3.2.2.1 == 2) = true then
                                                (f_slices_Equal_int fuel [] [1, 0]).bind fun r329 =>
                                                if r329 = true then
                                                  some false
                                                else
                                                  some false
                                              else
                                                some false
                                            else
                                              some false
                                          else
                                            some false
                                        else
                                          some false
                                    else
                                      (f_deal_Combine fuel d3.2.1 (d3.2.2.2.2.2.2.2.1.set 0 r302)).bind fun r330 =>
                                      if (r330.2 != 0) = true then
                                        if (d3.2.2.1 != 3) = true then
                                          (f_gamehallkeep2_fine fuel [7, 0, r330.2]).bind fun r331 =>
                                          if r331 = true then
                                            (f_slices_Equal_int fuel r1.1 [1, 0]).bind fun r332 =>
                                            if r332 = true then
                                              if (d3.2.2.1 == 1) = true then
                                                if (d3.2.2.1 == 2) = true then
                                                  (f_slices_Equal_int fuel [] [1, 0]).bind fun r333 =>
                                                  if r333 = true then
                                                    (f_deal_Seal fuel [] 0).bind fun r334 =>
                                                    (f_deal_Seal fuel [] 1).bind fun r335 =>
                                                    some (r334 != r335)
                                                  else
                                                    some false
                                                else
                                                  some false
                                              else
                                                some false
                                            else
                                              some false
                                          else
                                            some false
                                        else
                                          (f_gamehallkeep2_fine fuel [7, 0, r330.2]).bind fun r336 =>
                                          if r336 = true then
                                            (f_slices_Equal_int fuel r1.1 [1, 0]).bind fun r337 =>
                                            if r337 = true then
                                              if (d3.2.2.1 == 1) = true then
                                                if (d3.2.2.1 == 2) = true then
                                                  (f_slices_Equal_int fuel [] [1, 0]).bind fun r338 =>
                                                  if r338 = true then
                                                    some false
                                                  else
                                                    some false
                                                else
                                                  some false
                                              else
                                                some false
                                            else
                                              some false
                                          else
                                            some false
                                      else
                                        (f_cards_Fresh fuel d3.2.1).bind fun r339 =>
                                        if (r339.2 != 0) = true then
                                          if (d3.2.2.1 != 3) = true then
                                            (f_gamehallkeep2_fine fuel [7, 0, r339.2]).bind fun r340 =>
                                            if r340 = true then
                                              (f_slices_Equal_int fuel r1.1 [1, 0]).bind fun r341 =>
                                              if r341 = true then
                                                if (d3.2.2.1 == 1) = true then
                                                  if (d3.2.2.1 == 2) = true then
                                                    (f_slices_Equal_int fuel [] [1, 0]).bind fun r342 =>
                                                    if r342 = true then
                                                      (f_deal_Seal fuel [] 0).bind fun r343 =>
                                                      (f_deal_Seal fuel [] 1).bind fun r344 =>
                                                      some (r343 != r344)
                                                    else
                                                      some false
                                                  else
                                                    some false
                                                else
                                                  some false
                                              else
                                                some false
                                            else
                                              some false
                                          else
                                            (f_gamehallkeep2_fine fuel [7, 0, r339.2]).bind fun r345 =>
                                            if r345 = true then
                                              (f_slices_Equal_int fuel r1.1 [1, 0]).bind fun r346 =>
                                              if r346 = true then
                                                if (d3.2.2.1 == 1) = true then
                                                  if (d3.2.2.1 == 2) = true then
                                                    (f_slices_Equal_int fuel [] [1, 0]).bind fun r347 =>
                                                    if r347 = true then
                                                      some false
                                                    else
                                                      some false
                                                  else
                                                    some false
                                                else
                                                  some false
                                              else
                                                some false
                                            else
                                              some false
                                        else
                                          (f_cards_Shuffle fuel r339.1 r330.1).bind fun r348 =>
                                          if (d3.2.2.1 != 3) = true then
                                            (f_gamehallkeep2_fine fuel [7, 0, r348.2]).bind fun r349 =>
                                            if r349 = true then
                                              (f_slices_Equal_int fuel r1.1 [1, 0]).bind fun r350 =>
                                              if r350 = true then
                                                if (d3.2.2.1 == 1) = true then
                                                  if (d3.2.2.1 == 2) = true then
                                                    (f_slices_Equal_int fuel r348.1 [1, 0]).bind fun r351 =>
                                                    if r351 = true then
                                                      (f_deal_Seal fuel [] 0).bind fun r352 =>
                                                      (f_deal_Seal fuel [] 1).bind fun r353 =>
                                                      some (r352 != r353)
                                                    else
                                                      some false
                                                  else
                                                    some false
                                                else
                                                  some false
                                              else
                                                some false
                                            else
                                              some false
                                          else
                                            (f_gamehallkeep2_fine fuel [7, 0, r348.2]).bind fun r354 =>
                                            if r354 = true then
                                              (f_slices_Equal_int fuel r1.1 [1, 0]).bind fun r355 =>
                                              if r355 = true then
                                                if (d3.2.2.1 == 1) = true then
                                                  if (d3.2.2.1 == 2) = true then
                                                    (f_slices_Equal_int fuel r348.1 [1, 0]).bind fun r356 =>
                                                    if r356 = true then
                                                      some false
                                                    else
                                                      some false
                                                  else
                                                    some false
                                                else
                                                  some false
                                              else
                                                some false
                                            else
                                              some false
                                else none
                              else none
                          else none
                        else
                          (f_gamehallkeep2_fine fuel [7, 0, 10]).bind fun r357 =>
                          if r357 = true then
                            (f_slices_Equal_int fuel r1.1 [1, 0]).bind fun r358 =>
                            if r358 = true then
                              if (d3.2.2.1 == 1) = true then
                                some false
                              else
                                some false
                            else
                              some false
                          else
                            some false
                    else none
              else
                if (0 : Int) < d3.2.2.2.2.1.length then
                  if (0 : Int) < d3.2.2.2.2.2.2.1.length then
                    (f_slices_Contains_bool fuel (d3.2.2.2.2.1.set 0 true) false).bind fun r359 =>
                    if (!r359) = true then
                      if decide (0 ≥ ((d3.2.2.2.2.2.2.1.set 0 r4).length : Int)) = true then
                        (f_gamehallkeep2_fine fuel [0, 4, 10]).bind fun r360 =>
                        if r360 = true then
                          (f_slices_Equal_int fuel r1.1 [1, 0]).bind fun r361 =>
                          if r361 = true then
                            some false
                          else
                            some false
                        else
                          some false
                      else
                        if (0 : Int) < d3.2.2.2.2.2.1.length then
                          if (d3.2.2.2.2.2.1.getD 0 false) = true then
                            (f_gamehallkeep2_fine fuel [0, 7, 10]).bind fun r362 =>
                            if r362 = true then
                              (f_slices_Equal_int fuel r1.1 [1, 0]).bind fun r363 =>
                              if r363 = true then
                                some false
                              else
                                some false
                            else
                              some false
                          else
                            (f_cards_Fits fuel d3.2.1 [0]).bind fun r364 =>
                            if (r364 != 0) = false then
                              if (0 : Int) < (d3.2.2.2.2.2.2.1.set 0 r4).length then
                                (f_deal_Seal fuel [0] 7).bind fun r365 =>
                                if (r365 != (d3.2.2.2.2.2.2.1.set 0 r4).getD 0 0) = true then
                                  (f_gamehallkeep2_fine fuel [0, 0, 10]).bind fun r366 =>
                                  if r366 = true then
                                    (f_slices_Equal_int fuel r1.1 [1, 0]).bind fun r367 =>
                                    if r367 = true then
                                      some false
                                    else
                                      some false
                                  else
                                    some false
                                else
                                  (f_slices_Clone_ints [0]).bind fun r368 =>
                                  if (0 : Int) < d3.2.2.2.2.2.1.length then
                                    if (0 : Int) < d3.2.2.2.2.2.2.2.1.length then
                                      (f_slices_Contains_bool fuel (d3.2.2.2.2.2.1.set 0 true) false).bind fun r369 =>
                                      if (!r369) = true then
                                        (f_deal_Combine fuel d3.2.1 (d3.2.2.2.2.2.2.2.1.set 0 r368)).bind fun r370 =>
                                        if (r370.2 != 0) = true then
                                          (f_gamehallkeep2_fine fuel [0, 0, r370.2]).bind fun r371 =>
                                          if r371 = true then
                                            (f_slices_Equal_int fuel r1.1 [1, 0]).bind fun r372 =>
                                            if r372 = true then
                                              (f_slices_Equal_int fuel [] [1, 0]).bind fun r373 =>
                                              if r373 = true then
                                                (f_deal_Seal fuel [] 0).bind fun r374 =>
                                                (f_deal_Seal fuel [] 1).bind fun r375 =>
                                                some (r374 != r375)
                                              else
                                                some false
                                            else
                                              some false
                                          else
                                            some false
                                        else
                                          (f_cards_Fresh fuel d3.2.1).bind fun r376 =>
                                          if (r376.2 != 0) = true then
                                            (f_gamehallkeep2_fine fuel [0, 0, r376.2]).bind fun r377 =>
                                            if r377 = true then
                                              (f_slices_Equal_int fuel r1.1 [1, 0]).bind fun r378 =>
                                              if r378 = true then
                                                (f_slices_Equal_int fuel [] [1, 0]).bind fun r379 =>
                                                if r379 = true then
                                                  (f_deal_Seal fuel [] 0).bind fun r380 =>
                                                  (f_deal_Seal fuel [] 1).bind fun r381 =>
                                                  some (r380 != r381)
                                                else
                                                  some false
                                              else
                                                some false
                                            else
                                              some false
                                          else
                                            (f_cards_Shuffle fuel r376.1 r370.1).bind fun r382 =>
                                            (f_gamehallkeep2_fine fuel [0, 0, r382.2]).bind fun r383 =>
                                            if r383 = true then
                                              (f_slices_Equal_int fuel r1.1 [1, 0]).bind fun r384 =>
                                              if r384 = true then
                                                (f_slices_Equal_int fuel r382.1 [1, 0]).bind fun r385 =>
                                                if r385 = true then
                                                  (f_deal_Seal fuel [] 0).bind fun r386 =>
                                                  (f_deal_Seal fuel [] 1).bind fun r387 =>
                                                  some (r386 != r387)
                                                else
                                                  some false
                                              else
                                                some false
                                            else
                                              some false
                                      else
                                        (f_gamehallkeep2_fine fuel [0, 0, 10]).bind fun r388 =>
                                        if r388 = true then
                                          (f_slices_Equal_int fuel r1.1 [1, 0]).bind fun r389 =>
                                          if r389 = true then
                                            some false
                                          else
                                            some false
                                        else
                                          some false
                                    else none
                                  else none
                              else none
                            else
                              (f_gamehallkeep2_fine fuel [0, 0, 10]).bind fun r390 =>
                              if r390 = true then
                                (f_slices_Equal_int fuel r1.1 [1, 0]).bind fun r391 =>
                                if r391 = true then
                                  some false
                                else
                                  some false
                              else
                                some false
                        else none
                    else
                      if decide (0 ≥ ((d3.2.2.2.2.2.2.1.set 0 r4).length : Int)) = true then
                        if (d3.2.2.1 != 2) = true then
                          if (d3.2.2.1 != 3) = true then
                            (f_gamehallkeep2_fine fuel [0, 4, 10]).bind fun r392 =>
                            if r392 = true then
                              (f_slices_Equal_int fuel r1.1 [1, 0]).bind fun r393 =>
                              if r393 = true then
                                if (d3.2.2.1 == 1) = true then
                                  some false
                                else
                                  some false
                              else
                                some false
                            else
                              some false
                          else
                            (f_gamehallkeep2_fine fuel [0, 4, 10]).bind fun r394 =>
                            if r394 = true then
                              (f_slices_Equal_int fuel r1.1 [1, 0]).bind fun r395 =>
                              if r395 = true then
                                if (d3.2.2.1 == 1) = true then
                                  some false
                                else
                                  some false
                              else
                                some false
                            else
                              some false
                        else
                          (f_deal_Combine fuel d3.2.1 d3.2.2.2.2.2.2.2.1).bind fun r396 =>
                          if (r396.2 != 0) = true then
                            if (d3.2.2.1 != 3) = true then
                              (f_gamehallkeep2_fine fuel [0, 4, r396.2]).bind fun r397 =>
                              if r397 = true then
                                (f_slices_Equal_int fuel r1.1 [1, 0]).bind fun r398 =>
                                if r398 = true then
                                  if (d3.2.2.1 == 1) = true then
                                    some false
                                  else
                                    some false
                                else
                                  some false
                              else
                                some false
                            else
                              (f_gamehallkeep2_fine fuel [0, 4, r396.2]).bind fun r399 =>
                              if r399 = true then
                                (f_slices_Equal_int fuel r1.1 [1, 0]).bind fun r400 =>
                                if r400 = true then
                                  if (d3.2.2.1 == 1) = true then
                                    some false
                                  else
                                    some false
                                else
                                  some false
                              else
                                some false
                          else
                            (f_cards_Fresh fuel d3.2.1).bind fun r401 =>
                            if (r401.2 != 0) = true then
                              if (d3.2.2.1 != 3) = true then
                                (f_gamehallkeep2_fine fuel [0, 4, r401.2]).bind fun r402 =>
                                if r402 = true then
                                  (f_slices_Equal_int fuel r1.1 [1, 0]).bind fun r403 =>
                                  if r403 = true then
                                    if (d3.2.2.1 == 1) = true then
                                      some false
                                    else
                                      some false
                                  else
                                    some false
                                else
                                  some false
                              else
                                (f_gamehallkeep2_fine fuel [0, 4, r401.2]).bind fun r404 =>
                                if r404 = true then
                                  (f_slices_Equal_int fuel r1.1 [1, 0]).bind fun r405 =>
                                  if r405 = true then
                                    if (d3.2.2.1 == 1) = true then
                                      some false
                                    else
                                      some false
                                  else
                                    some false
                                else
                                  some false
                            else
                              (f_cards_Shuffle fuel r401.1 r396.1).bind fun r406 =>
                              if (d3.2.2.1 != 3) = true then
                                (f_gamehallkeep2_fine fuel [0, 4, r406.2]).bind fun r407 =>
                                if r407 = true then
                                  (f_slices_Equal_int fuel r1.1 [1, 0]).bind fun r408 =>
                                  if r408 = true then
                                    if (d3.2.2.1 == 1) = true then
                                      some false
                                    else
                                      some false
                                  else
                                    some false
                                else
                                  some false
                              else
                                (f_gamehallkeep2_fine fuel [0, 4, r406.2]).bind fun r409 =>
                                if r409 = true then
                                  (f_slices_Equal_int fuel r1.1 [1, 0]).bind fun r410 =>
                                  if r410 = true then
                                    if (d3.2.2.1 == 1) = true then
                                      some false
                                    else
                                      some false
                                  else
                                    some false
                                else
                                  some false
                      else
                        if (d3.2.2.1 != 1) = true then
                          if (d3.2.2.1 != 2) = true then
                            if (d3.2.2.1 != 3) = true then
                              (f_gamehallkeep2_fine fuel [0, 10, 10]).bind fun r411 =>
                              if r411 = true then
                                (f_slices_Equal_int fuel r1.1 [1, 0]).bind fun r412 =>
                                if r412 = true then
                                  if (d3.2.2.1 == 1) = true then
                                    some false
                                  else
                                    some false
                                else
                                  some false
                              else
                                some false
                            else
                              (f_gamehallkeep2_fine fuel [0, 10, 10]).bind fun r413 =>
                              if r413 = true then
                                (f_slices_Equal_int fuel r1.1 [1, 0]).bind fun r414 =>
                                if r414 = true then
                                  if (d3.2.2.1 == 1) = true then
                                    some false
                                  else
                                    some false
                                else
                                  some false
                              else
                                some false
                          else
                            (f_deal_Combine fuel d3.2.1 d3.2.2.2.2.2.2.2.1).bind fun r415 =>
                            if (r415.2 != 0) = true then
                              if (d3.2.2.1 != 3) = true then
                                (f_gamehallkeep2_fine fuel [0, 10, r415.2]).bind fun r416 =>
                                if r416 = true then
                                  (f_slices_Equal_int fuel r1.1 [1, 0]).bind fun r417 =>
                                  if r417 = true then
                                    if (d3.2.2.1 == 1) = true then
                                      some false
                                    else
                                      some false
                                  else
                                    some false
                                else
                                  some false
                              else
                                (f_gamehallkeep2_fine fuel [0, 10, r415.2]).bind fun r418 =>
                                if r418 = true then
                                  (f_slices_Equal_int fuel r1.1 [1, 0]).bind fun r419 =>
                                  if r419 = true then
                                    if (d3.2.2.1 == 1) = true then
                                      some false
                                    else
                                      some false
                                  else
                                    some false
                                else
                                  some false
                            else
                              (f_cards_Fresh fuel d3.2.1).bind fun r420 =>
                              if (r420.2 != 0) = true then
                                if (d3.2.2.1 != 3) = true then
                                  (f_gamehallkeep2_fine fuel [0, 10, r420.2]).bind fun r421 =>
                                  if r421 = true then
                                    (f_slices_Equal_int fuel r1.1 [1, 0]).bind fun r422 =>
                                    if r422 = true then
                                      if (d3.2.2.1 == 1) = true then
                                        some false
                                      else
                                        some false
                                    else
                                      some false
                                  else
                                    some false
                                else
                                  (f_gamehallkeep2_fine fuel [0, 10, r420.2]).bind fun r423 =>
                                  if r423 = true then
                                    (f_slices_Equal_int fuel r1.1 [1, 0]).bind fun r424 =>
                                    if r424 = true then
                                      if (d3.2.2.1 == 1) = true then
                                        some false
                                      else
                                        some false
                                    else
                                      some false
                                  else
                                    some false
                              else
                                (f_cards_Shuffle fuel r420.1 r415.1).bind fun r425 =>
                                if (d3.2.2.1 != 3) = true then
                                  (f_gamehallkeep2_fine fuel [0, 10, r425.2]).bind fun r426 =>
                                  if r426 = true then
                                    (f_slices_Equal_int fuel r1.1 [1, 0]).bind fun r427 =>
                                    if r427 = true then
                                      if (d3.2.2.1 == 1) = true then
                                        some false
                                      else
                                        some false
                                    else
                                      some false
                                  else
                                    some false
                                else
                                  (f_gamehallkeep2_fine fuel [0, 10, r425.2]).bind fun r428 =>
                                  if r428 = true then
                                    (f_slices_Equal_int fuel r1.1 [1, 0]).bind fun r429 =>
                                    if r429 = true then
                                      if (d3.2.2.1 == 1) = true then
                                        some false
                                      else
                                        some false
                                    else
                                      some false
                                  else
                                    some false
                        else
                          if (0 : Int) < d3.2.2.2.2.2.1.length then
                            if (d3.2.2.2.2.2.1.getD 0 false) = true then
                              if (d3.2.2.1 != 2) = true then
                                if (d3.2.2.1 != 3) = true then
                                  (f_gamehallkeep2_fine fuel [0, 7, 10]).bind fun r430 =>
                                  if r430 = true then
                                    (f_slices_Equal_int fuel r1.1 [1, 0]).bind fun r431 =>
                                    if r431 = true then
                                      if (d3.2.2.1 == 1) = true then
                                        some false
                                      else
                                        some false
                                    else
                                      some false
                                  else
                                    some false
                                else
                                  (f_gamehallkeep2_fine fuel [0, 7, 10]).bind fun r432 =>
                                  if r432 = true then
                                    (f_slices_Equal_int fuel r1.1 [1, 0]).bind fun r433 =>
                                    if r433 = true then
                                      if (d3.2.2.1 == 1) = true then
                                        some false
                                      else
                                        some false
                                    else
                                      some false
                                  else
                                    some false
                              else
                                (f_deal_Combine fuel d3.2.1 d3.2.2.2.2.2.2.2.1).bind fun r434 =>
                                if (r434.2 != 0) = true then
                                  if (d3.2.2.1 != 3) = true then
                                    (f_gamehallkeep2_fine fuel [0, 7, r434.2]).bind fun r435 =>
                                    if r435 = true then
                                      (f_slices_Equal_int fuel r1.1 [1, 0]).bind fun r436 =>
                                      if r436 = true then
                                        if (d3.2.2.1 == 1) = true then
                                          some false
                                        else
                                          some false
                                      else
                                        some false
                                    else
                                      some false
                                  else
                                    (f_gamehallkeep2_fine fuel [0, 7, r434.2]).bind fun r437 =>
                                    if r437 = true then
                                      (f_slices_Equal_int fuel r1.1 [1, 0]).bind fun r438 =>
                                      if r438 = true then
                                        if (d3.2.2.1 == 1) = true then
                                          some false
                                        else
                                          some false
                                      else
                                        some false
                                    else
                                      some false
                                else
                                  (f_cards_Fresh fuel d3.2.1).bind fun r439 =>
                                  if (r439.2 != 0) = true then
                                    if (d3.2.2.1 != 3) = true then
                                      (f_gamehallkeep2_fine fuel [0, 7, r439.2]).bind fun r440 =>
                                      if r440 = true then
                                        (f_slices_Equal_int fuel r1.1 [1, 0]).bind fun r441 =>
                                        if r441 = true then
                                          if (d3.2.2.1 == 1) = true then
                                            some false
                                          else
                                            some false
                                        else
                                          some false
                                      else
                                        some false
                                    else
                                      (f_gamehallkeep2_fine fuel [0, 7, r439.2]).bind fun r442 =>
                                      if r442 = true then
                                        (f_slices_Equal_int fuel r1.1 [1, 0]).bind fun r443 =>
                                        if r443 = true then
                                          if (d3.2.2.1 == 1) = true then
                                            some false
                                          else
                                            some false
                                        else
                                          some false
                                      else
                                        some false
                                  else
                                    (f_cards_Shuffle fuel r439.1 r434.1).bind fun r444 =>
                                    if (d3.2.2.1 != 3) = true then
                                      (f_gamehallkeep2_fine fuel [0, 7, r444.2]).bind fun r445 =>
                                      if r445 = true then
                                        (f_slices_Equal_int fuel r1.1 [1, 0]).bind fun r446 =>
                                        if r446 = true then
                                          if (d3.2.2.1 == 1) = true then
                                            some false
                                          else
                                            some false
                                        else
                                          some false
                                      else
                                        some false
                                    else
                                      (f_gamehallkeep2_fine fuel [0, 7, r444.2]).bind fun r447 =>
                                      if r447 = true then
                                        (f_slices_Equal_int fuel r1.1 [1, 0]).bind fun r448 =>
                                        if r448 = true then
                                          if (d3.2.2.1 == 1) = true then
                                            some false
                                          else
                                            some false
                                        else
                                          some false
                                      else
                                        some false
                            else
                              (f_cards_Fits fuel d3.2.1 [0]).bind fun r449 =>
                              if (r449 != 0) = false then
                                if (0 : Int) < (d3.2.2.2.2.2.2.1.set 0 r4).length then
                                  (f_deal_Seal fuel [0] 7).bind fun r450 =>
                                  if (r450 != (d3.2.2.2.2.2.2.1.set 0 r4).getD 0 0) = true then
                                    (f_gamehallkeep2_fine fuel [0, 0, 10]).bind fun r451 =>
                                    if r451 = true then
                                      (f_slices_Equal_int fuel r1.1 [1, 0]).bind fun r452 =>
                                      if r452 = true then
                                        if (d3.2.2.1 == 1) = true then
                                          some false
                                        else
                                          some false
                                      else
                                        some false
                                    else
                                      some false
                                  else
                                    (f_slices_Clone_ints [0]).bind fun r453 =>
                                    if (0 : Int) < d3.2.2.2.2.2.1.length then
                                      if (0 : Int) < d3.2.2.2.2.2.2.2.1.length then
                                        (f_slices_Contains_bool fuel (d3.2.2.2.2.2.1.set 0 true) false).bind fun r454 =>
                                        if (!r454) = true then
                                          (f_deal_Combine fuel d3.2.1 (d3.2.2.2.2.2.2.2.1.set 0 r453)).bind fun r455 =>
                                          if (r455.2 != 0) = true then
                                            (f_gamehallkeep2_fine fuel [0, 0, r455.2]).bind fun r456 =>
                                            if r456 = true then
                                              (f_slices_Equal_int fuel r1.1 [1, 0]).bind fun r457 =>
                                              if r457 = true then
                                                if (d3.2.2.1 == 1) = true then
                                                  (f_slices_Equal_int fuel [] [1, 0]).bind fun r458 =>
                                                  if r458 = true then
                                                    (f_deal_Seal fuel [] 0).bind fun r459 =>
                                                    (f_deal_Seal fuel [] 1).bind fun r460 =>
                                                    some (r459 != r460)
                                                  else
                                                    some false
                                                else
                                                  some false
                                              else
                                                some false
                                            else
                                              some false
                                          else
                                            (f_cards_Fresh fuel d3.2.1).bind fun r461 =>
                                            if (r461.2 != 0) = true then
                                              (f_gamehallkeep2_fine fuel [0, 0, r461.2]).bind fun r462 =>
                                              if r462 = true then
                                                (f_slices_Equal_int fuel r1.1 [1, 0]).bind fun r463 =>
                                                if r463 = true then
                                                  if (d3.2.2.1 == 1) = true then
                                                    (f_slices_Equal_int fuel [] [1, 0]).bind fun r464 =>
                                                    if r464 = true then
                                                      (f_deal_Seal fuel [] 0).bind fun r465 =>
                                                      (f_deal_Seal fuel [] 1).bind fun r466 =>
                                                      some (r465 != r466)
                                                    else
                                                      some false
                                                  else
                                                    some false
                                                else
                                                  some false
                                              else
                                                some false
                                            else
                                              (f_cards_Shuffle fuel r461.1 r455.1).bind fun r467 =>
                                              (f_gamehallkeep2_fine fuel [0, 0, r467.2]).bind fun r468 =>
                                              if r468 = true then
                                                (f_slices_Equal_int fuel r1.1 [1, 0]).bind fun r469 =>
                                                if r469 = true then
                                                  if (d3.2.2.1 == 1) = true then
                                                    (f_slices_Equal_int fuel r467.1 [1, 0]).bind fun r470 =>
                                                    if r470 = true then
                                                      (f_deal_Seal fuel [] 0).bind fun r471 =>
                                                      (f_deal_Seal fuel [] 1).bind fun r472 =>
                                                      some (r471 != r472)
                                                    else
                                                      some false
                                                  else
                                                    some false
                                                else
                                                  some false
                                              else
                                                some false
                                        else
                                          if (d3.2.2.1 != 2) = true then
                                            if (d3.2.2.1 != 3) = true then
                                              (f_gamehallkeep2_fine fuel [0, 0, 10]).bind fun r473 =>
                                              if r473 = true then
                                                (f_slices_Equal_int fuel r1.1 [1, 0]).bind fun r474 =>
                                                if r474 = true then
                                                  if (d3.2.2.1 == 1) = true then
                                                    if (d3.2.2.1 == 2) = true then
                                                      (f_slices_Equal_int fuel [] [1, 0]).bind fun r475 =>
                                                      if r475 = true then
                                                        (f_deal_Seal fuel [] 0).bind fun r476 =>
                                                        (f_deal_Seal fuel [] 1).bind fun r477 =>
                                                        some (r476 != r477)
                                                      else
                                                        some false
                                                    else
                                                      some false
                                                  else
                                                    some false
                                                else
                                                  some false
                                              else
                                                some false
                                            else
                                              (f_gamehallkeep2_fine fuel [0, 0, 10]).bind fun r478 =>
                                              if r478 = true then
                                                (f_slices_Equal_int fuel r1.1 [1, 0]).bind fun r479 =>
                                                if r479 = true then
                                                  if (d3.2.2.1 == 1) = true then
                                                    if (d3.2.2.1 == 2) = true then
                                                      (f_slices_Equal_int fuel [] [1, 0]).bind fun r480 =>
                                                      if r480 = true then
                                                        some false
                                                      else
                                                        some false
                                                    else
                                                      some false
                                                  else
                                                    some false
                                                else
                                                  some false
                                              else
                                                some false
                                          else
                                            (f_deal_Combine fuel d3.2.1 (d3.2.2.2.2.2.2.2.1.set 0 r453)).bind fun r481 =>
                                            if (r481.2 != 0) = true then
                                              if (d3.2.2.1 != 3) = true then
                                                (f_gamehallkeep2_fine fuel [0, 0, r481.2]).bind fun r482 =>
                                                if r482 = true then
                                                  (f_slices_Equal_int fuel r1.1 [1, 0]).bind fun r483 =>
                                                  if r483 = true then
                                                    if (d3.2.2.1 == 1) = true then
                                                      if (d3.2.2.1 == 2) = true then
                                                        (f_slices_Equal_int fuel [] [1, 0]).bind fun r484 =>
                                                        if r484 = true then
                                                          (f_deal_Seal fuel [] 0).bind fun r485 =>
                                                          (f_deal_Seal fuel [] 1).bind fun r486 =>
                                                          some (r485 != r486)
                                                        else
                                                          some false
                                                      else
                                                        some false
                                                    else
                                                      some false
                                                  else
                                                    some false
                                                else
                                                  some false
                                              else
                                                (f_gamehallkeep2_fine fuel [0, 0, r481.2]).bind fun r487 =>
                                                if r487 = true then
                                                  (f_slices_Equal_int fuel r1.1 [1, 0]).bind fun r488 =>
                                                  if r488 = true then
                                                    if (d3.2.2.1 == 1) = true then
                                                      if (d3.2.2.1 == 2) = true then
                                                        (f_slices_Equal_int fuel [] [1, 0]).bind fun r489 =>
                                                        if r489 = true then
                                                          some false
                                                        else
                                                          some false
                                                      else
                                                        some false
                                                    else
                                                      some false
                                                  else
                                                    some false
                                                else
                                                  some false
                                            else
                                              (f_cards_Fresh fuel d3.2.1).bind fun r490 =>
                                              if (r490.2 != 0) = true then
                                                if (d3.2.2.1 != 3) = true then
                                                  (f_gamehallkeep2_fine fuel [0, 0, r490.2]).bind fun r491 =>
                                                  if r491 = true then
                                                    (f_slices_Equal_int fuel r1.1 [1, 0]).bind fun r492 =>
                                                    if r492 = true then
                                                      if (d3.2.2.1 == 1) = true then
                                                        if (d3.2.2.1 == 2) = true then
                                                          (f_slices_Equal_int fuel [] [1, 0]).bind fun r493 =>
                                                          if r493 = true then
                                                            (f_deal_Seal fuel [] 0).bind fun r494 =>
                                                            (f_deal_Seal fuel [] 1).bind fun r495 =>
                                                            some (r494 != r495)
                                                          else
                                                            some false
                                                        else
                                                          some false
                                                      else
                                                        some false
                                                    else
                                                      some false
                                                  else
                                                    some false
                                                else
                                                  (f_gamehallkeep2_fine fuel [0, 0, r490.2]).bind fun r496 =>
                                                  if r496 = true then
                                                    (f_slices_Equal_int fuel r1.1 [1, 0]).bind fun r497 =>
                                                    if r497 = true then
                                                      if (d3.2.2.1 == 1) = true then
                                                        if (d3.2.2.1 == 2) = true then
                                                          (f_slices_Equal_int fuel [] [1, 0]).bind fun r498 =>
                                                          if r498 = true then
                                                            some false
                                                          else
                                                            some false
                                                        else
                                                          some false
                                                      else
                                                        some false
                                                    else
                                                      some false
                                                  else
                                                    some false
                                              else
                                                (f_cards_Shuffle fuel r490.1 r481.1).bind fun r499 =>
                                                if (d3.2.2.1 != 3) = true then
                                                  (f_gamehallkeep2_fine fuel [0, 0, r499.2]).bind fun r500 =>
                                                  if r500 = true then
                                                    (f_slices_Equal_int fuel r1.1 [1, 0]).bind fun r501 =>
                                                    if r501 = true then
                                                      if (d3.2.2.1 == 1) = true then
                                                        if (d3.2.2.1 == 2) = true then
                                                          (f_slices_Equal_int fuel r499.1 [1, 0]).bind fun r502 =>
                                                          if r502 = true then
                                                            (f_deal_Seal fuel [] 0).bind fun r503 =>
                                                            (f_deal_Seal fuel [] 1).bind fun r504 =>
                                                            some (r503 != r504)
                                                          else
                                                            some false
                                                        else
                                                          some false
                                                      else
                                                        some false
                                                    else
                                                      some false
                                                  else
                                                    some false
                                                else
                                                  (f_gamehallkeep2_fine fuel [0, 0, r499.2]).bind fun r505 =>
                                                  if r505 = true then
                                                    (f_slices_Equal_int fuel r1.1 [1, 0]).bind fun r506 =>
                                                    if r506 = true then
                                                      if (d3.2.2.1 == 1) = true then
                                                        if (d3.2.2.1 == 2) = true then
                                                          (f_slices_Equal_int fuel r499.1 [1, 0]).bind fun r507 =>
                                                          if r507 = true then
                                                            some false
                                                          else
                                                            some false
                                                        else
                                                          some false
                                                      else
                                                        some false
                                                    else
                                                      some false
                                                  else
                                                    some false
                                      else none
                                    else none
                                else none
                              else
                                (f_gamehallkeep2_fine fuel [0, 0, 10]).bind fun r508 =>
                                if r508 = true then
                                  (f_slices_Equal_int fuel r1.1 [1, 0]).bind fun r509 =>
                                  if r509 = true then
                                    if (d3.2.2.1 == 1) = true then
                                      some false
                                    else
                                      some false
                                  else
                                    some false
                                else
                                  some false
                          else none
                  else none
                else none
            else none
    | some (.ret d3) =>
      none
  else
    some false
theorem l_deal_Table_Missing__gamehallkeep2_dealFact_6_step (m : Nat) (d : dens l_deal_Table_Missing__gamehallkeep2_dealFact_6H.tys) : l_deal_Table_Missing__gamehallkeep2_dealFact_6L.f (m + 1) d = round E_gamehallkeep2_dealFact LL_gamehallkeep2_dealFact m [20, 6] 42 (loopN (bodyOf Tryd.f20) 0) l_deal_Table_Missing__gamehallkeep2_dealFact_6L (l_deal_Table_Missing__gamehallkeep2_dealFact_6L.f m) d := by kernel_rfl
theorem f_gamehallkeep2_dealFact_run (k : Nat) (x : denL []) : runFn E_gamehallkeep2_dealFact LL_gamehallkeep2_dealFact k 6 Tryd.f6 [] [.imm .bool] x = f_gamehallkeep2_dealFact k := by kernel_rfl
noncomputable def S_gamehallkeep2_dealFact : Vm.Spec := { ps := [], rs := [.imm .bool], f := fun x => f_gamehallkeep2_dealFact fuel }
theorem f_gamehallkeep2_dealFact_holds : Vm.Spec.holds Tryd.prog 6 S_gamehallkeep2_dealFact := by
  have hB : BodiesOk Tryd.prog E_gamehallkeep2_dealFact := bodies_ok (by exact ⟨by kernel_rfl, by kernel_rfl, by kernel_rfl, by kernel_rfl, by kernel_rfl, by kernel_rfl, by kernel_rfl, by kernel_rfl, by kernel_rfl, by kernel_rfl, by kernel_rfl, by kernel_rfl, by kernel_rfl, by kernel_rfl, trivial⟩)
  have hBS : BodiesStepped E_gamehallkeep2_dealFact LL_gamehallkeep2_dealFact := by
    refine bodies_stepped ?_
    exact ⟨(fun _ => stepped_noloop (by kernel_rfl)), (fun _ => stepped_noloop (by kernel_rfl)), (stepped_paths [[6]] (by exact ⟨stepped_of (ls := [(6, l_deal_Table_Missing__gamehallkeep2_dealFact_6L)]) rfl rfl ⟨by kernel_rfl, fun _ => rfl, l_deal_Table_Missing__gamehallkeep2_dealFact_6_step, stepsI_end (by kernel_rfl)⟩,  trivial⟩) rfl), (fun _ => stepped_noloop (by kernel_rfl)), (fun _ => stepped_noloop (by kernel_rfl)), (fun _ => stepped_noloop (by kernel_rfl)), (fun _ => stepped_noloop (by kernel_rfl)),  trivial⟩
  have hS : SpecsOk Tryd.prog E_gamehallkeep2_dealFact := specs_ok (by exact ⟨⟨by kernel_rfl, f_cards_Fits_holds⟩, ⟨by kernel_rfl, f_deal_Combine_holds⟩, ⟨by kernel_rfl, f_cards_Fresh_holds⟩, ⟨by kernel_rfl, f_cards_Shuffle_holds⟩, ⟨by kernel_rfl, f_gamehallkeep2_fine_holds⟩, ⟨by kernel_rfl, f_slices_Equal_int_holds⟩, ⟨by kernel_rfl, f_deal_Seal_holds⟩, ⟨by kernel_rfl, f_slices_Clone_ints_holds⟩, ⟨by kernel_rfl, f_slices_Contains_bool_holds⟩, trivial⟩)
  have hE : EOk Tryd.prog E_gamehallkeep2_dealFact := eok_te ok
  exact fn_sound (L := LL_gamehallkeep2_dealFact) hE hS hB (draws_ok hE hS (by kernel_rfl)) hBS (fn := Tryd.f6) (by kernel_rfl) (c := bodyOf Tryd.f6) (by kernel_rfl) (stepped_none rfl) fun x r h => ⟨fuel, (f_gamehallkeep2_dealFact_run fuel x).trans h⟩

/-! gamehall/gamehallkeep2.DealFalse -/
noncomputable def E_gamehallkeep2_DealFalse : Env := { te := te, spec := [(6, S_gamehallkeep2_dealFact), (7, S_gamehallkeep2_cardsFact), (8, S_gamehallkeep2_pick), (11, S_cards_Fits), (13, S_deal_Combine), (14, S_cards_Fresh), (15, S_cards_Shuffle), (24, S_deal_Seal), (35, S_slices_Clone_ints), (39, S_slices_Contains_bool)], body := [(9, Tryd.f9), (17, Tryd.f17), (19, Tryd.f19), (20, Tryd.f20), (22, Tryd.f22), (23, Tryd.f23), (25, Tryd.f25), (26, Tryd.f26), (27, Tryd.f27), (34, Tryd.f34)] }
def l_slices_IndexFunc_int__slices_ContainsFunc_int__gamehallkeep2_DealFalse_2H : Ann := { slots := [(0, .one (.val (.slice (.slice (.int .i64))))), (1, .one (.fix (.clos 144))), (7, .one (.val (.int .i64))), (8, .one (.val (.int .i64)))], objs := [(144, .clos 22 [.fix (.pbox 16 0)]), (16, .box [.val (.int .i64)])] }
def l_slices_IndexFunc_int__slices_ContainsFunc_int__gamehallkeep2_DealFalse_2X : Ann := { slots := [], objs := [(144, .clos 22 [.fix (.pbox 16 0)]), (16, .box [.val (.int .i64)])] }
def l_slices_IndexFunc_int__slices_ContainsFunc_int__gamehallkeep2_DealFalse_2R : Ann := { slots := [(4, .one (.val (.int .i64)))], objs := [(144, .clos 22 [.fix (.pbox 16 0)]), (16, .box [.val (.int .i64)])] }
def l_gamehallkeep2_DealFalse_12H : Ann := { slots := [(9, .one (.fix (.pbox 4120 0))), (77, .one (.val (.slice (.slice (.int .i64))))), (78, .one (.val (.int .i64))), (79, .one (.val (.int .i64)))], objs := [(4120, .box [.val (.int .i64), .val (.int .i64), .own 4088 .bool, .own 4096 .bool, .own 4104 (.int .u64), .own 4112 (.slice (.int .i64)), .val (.int .i64)]), (4088, .buf .bool), (4096, .buf .bool), (4104, .buf (.int .u64)), (4112, .grid (.int .i64))] }
def l_gamehallkeep2_DealFalse_12X : Ann := { slots := [(9, .one (.fix (.pbox 4120 0)))], objs := [(4120, .box [.val (.int .i64), .val (.int .i64), .own 4088 .bool, .own 4096 .bool, .own 4104 (.int .u64), .own 4112 (.slice (.int .i64)), .val (.int .i64)]), (4088, .buf .bool), (4096, .buf .bool), (4104, .buf (.int .u64)), (4112, .grid (.int .i64))] }
def l_gamehallkeep2_DealFalse_12R : Ann := { slots := [(8, .one (.val .bool))], objs := [(4120, .box [.val (.int .i64), .val (.int .i64), .own 4088 .bool, .own 4096 .bool, .own 4104 (.int .u64), .own 4112 (.slice (.int .i64)), .val (.int .i64)]), (4088, .buf .bool), (4096, .buf .bool), (4104, .buf (.int .u64)), (4112, .grid (.int .i64))] }
def l_deal_Table_Missing__gamehallkeep2_DealFalse_6H : Ann := { slots := [(0, .one (.fix (.pbox 4120 0))), (4, .one (.own 156 (.int .i64))), (20, .one (.own 4088 .bool)), (21, .one (.val (.int .i64))), (22, .one (.val (.int .i64)))], objs := [(4120, .box [.val (.int .i64), .val (.int .i64), .own 4088 .bool, .own 4096 .bool, .own 4104 (.int .u64), .own 4112 (.slice (.int .i64)), .val (.int .i64)]), (156, .buf (.int .i64)), (4088, .buf .bool), (4096, .buf .bool), (4104, .buf (.int .u64)), (4112, .grid (.int .i64))] }
def l_deal_Table_Missing__gamehallkeep2_DealFalse_6X : Ann := { slots := [(4, .one (.own 156 (.int .i64)))], objs := [(156, .buf (.int .i64)), (4120, .box [.val (.int .i64), .val (.int .i64), .own 4088 .bool, .own 4096 .bool, .own 4104 (.int .u64), .own 4112 (.slice (.int .i64)), .val (.int .i64)]), (4088, .buf .bool), (4096, .buf .bool), (4104, .buf (.int .u64)), (4112, .grid (.int .i64))] }
def l_deal_Table_Missing__gamehallkeep2_DealFalse_6R : Ann := { slots := [], objs := [] }
def l_slices_IndexFunc_int__slices_ContainsFunc_int__gamehallkeep2_DealFalse_2 : Nat → List (List Int) → Int → Int → Int → Option (LR l_slices_IndexFunc_int__slices_ContainsFunc_int__gamehallkeep2_DealFalse_2X l_slices_IndexFunc_int__slices_ContainsFunc_int__gamehallkeep2_DealFalse_2R)
  | 0, _, _, _, _ => none
  | m + 1, s0, s7, s8, b16_0 =>
    if decide (s8 < s7) = true then
      if (0 : Int) ≤ s8 then
        if s8 < s0.length then
          (f_cards_Fits fuel b16_0 (s0.getD s8.toNat [])).bind fun r1 =>
          if (r1 != 0) = true then
            some (.ret (s8, b16_0, ()))
          else
            l_slices_IndexFunc_int__slices_ContainsFunc_int__gamehallkeep2_DealFalse_2 m s0 s7 (IntKind.i64.wrap (s8 + 1)) b16_0
        else none
      else none
    else
      some (.exit (b16_0, ()))
def l_slices_IndexFunc_int__slices_ContainsFunc_int__gamehallkeep2_DealFalse_2L : LSpec := { h := l_slices_IndexFunc_int__slices_ContainsFunc_int__gamehallkeep2_DealFalse_2H, x := l_slices_IndexFunc_int__slices_ContainsFunc_int__gamehallkeep2_DealFalse_2X, r := l_slices_IndexFunc_int__slices_ContainsFunc_int__gamehallkeep2_DealFalse_2R, xid := 0, rt := true, pins := [144, 16], f := fun k d => l_slices_IndexFunc_int__slices_ContainsFunc_int__gamehallkeep2_DealFalse_2 k d.1 d.2.1 d.2.2.1 d.2.2.2.1 }
def l_gamehallkeep2_DealFalse_12 : Nat → List (List Int) → Int → Int → Int → Int → Int → List Bool → List Bool → List Int → List (List Int) → Option (LR l_gamehallkeep2_DealFalse_12X l_gamehallkeep2_DealFalse_12R)
  | 0, _, _, _, _, _, _, _, _, _, _ => none
  | m + 1, s77, s78, s79, b4120_0, b4120_1, b4120_6, b4088, b4096, b4104, b4112 =>
    if decide (s79 < s78) = true then
      if (0 : Int) ≤ s79 then
        if s79 < s77.length then
          (f_deal_Seal fuel (s77.getD s79.toNat []) s79).bind fun r1 =>
          if decide (s79 < 0) = false then
            if decide (s79 ≥ (b4104.length : Int)) = true then
              some (.ret (false, b4120_0, b4120_1, b4120_6, b4088, b4096, b4104, b4112, ()))
            else
              if (b4120_1 != 0) = true then
                some (.ret (false, b4120_0, b4120_1, b4120_6, b4088, b4096, b4104, b4112, ()))
              else
                if (0 : Int) ≤ s79 then
                  if s79 < b4088.length then
                    if (b4088.getD s79.toNat false) = true then
                      some (.ret (false, b4120_0, b4120_1, b4120_6, b4088, b4096, b4104, b4112, ()))
                    else
                      if (0 : Int) ≤ s79 then
                        if s79 < b4088.length then
                          if (0 : Int) ≤ s79 then
                            if s79 < b4104.length then
                              (f_slices_Contains_bool fuel (b4088.set s79.toNat true) false).bind fun r2 =>
                              if (!r2) = true then
                                l_gamehallkeep2_DealFalse_12 m s77 s78 (IntKind.i64.wrap (s79 + 1)) b4120_0 1 b4120_6 (b4088.set s79.toNat true) b4096 (b4104.set s79.toNat r1) b4112
                              else
                                l_gamehallkeep2_DealFalse_12 m s77 s78 (IntKind.i64.wrap (s79 + 1)) b4120_0 b4120_1 b4120_6 (b4088.set s79.toNat true) b4096 (b4104.set s79.toNat r1) b4112
                            else none
                          else none
                        else none
                      else none
                  else none
                else none
          else
            some (.ret (false, b4120_0, b4120_1, b4120_6, b4088, b4096, b4104, b4112, ()))
        else none
      else none
    else
      some (.exit (b4120_0, b4120_1, b4120_6, b4088, b4096, b4104, b4112, ()))
def l_gamehallkeep2_DealFalse_12L : LSpec := { h := l_gamehallkeep2_DealFalse_12H, x := l_gamehallkeep2_DealFalse_12X, r := l_gamehallkeep2_DealFalse_12R, xid := 0, rt := true, pins := [4120, 4088, 4096, 4104, 4112], f := fun k d => l_gamehallkeep2_DealFalse_12 k d.1 d.2.1 d.2.2.1 d.2.2.2.1 d.2.2.2.2.1 d.2.2.2.2.2.1 d.2.2.2.2.2.2.1 d.2.2.2.2.2.2.2.1 d.2.2.2.2.2.2.2.2.1 d.2.2.2.2.2.2.2.2.2.1 }
def l_deal_Table_Missing__gamehallkeep2_DealFalse_6 : Nat → Int → Int → Int → Int → Int → List Int → List Bool → List Bool → List Int → List (List Int) → Option (LR l_deal_Table_Missing__gamehallkeep2_DealFalse_6X l_deal_Table_Missing__gamehallkeep2_DealFalse_6R)
  | 0, _, _, _, _, _, _, _, _, _, _ => none
  | m + 1, s21, s22, b4120_0, b4120_1, b4120_6, b156, b4088, b4096, b4104, b4112 =>
    if decide (s22 < s21) = true then
      if (0 : Int) ≤ s22 then
        if s22 < b4088.length then
          if (!(b4088.getD s22.toNat false)) = true then
            if decide (b4120_1 ≤ 1) = true then
              if (b156.length + 1) * 8 ≤ 140737488355328 then
                l_deal_Table_Missing__gamehallkeep2_DealFalse_6 m s21 (IntKind.i64.wrap (s22 + 1)) b4120_0 b4120_1 b4120_6 (b156 ++ [s22]) b4088 b4096 b4104 b4112
              else none
            else
              l_deal_Table_Missing__gamehallkeep2_DealFalse_6 m s21 (IntKind.i64.wrap (s22 + 1)) b4120_0 b4120_1 b4120_6 b156 b4088 b4096 b4104 b4112
          else
            l_deal_Table_Missing__gamehallkeep2_DealFalse_6 m s21 (IntKind.i64.wrap (s22 + 1)) b4120_0 b4120_1 b4120_6 b156 b4088 b4096 b4104 b4112
        else none
      else none
    else
      some (.exit (b156, b4120_0, b4120_1, b4120_6, b4088, b4096, b4104, b4112, ()))
def l_deal_Table_Missing__gamehallkeep2_DealFalse_6L : LSpec := { h := l_deal_Table_Missing__gamehallkeep2_DealFalse_6H, x := l_deal_Table_Missing__gamehallkeep2_DealFalse_6X, r := l_deal_Table_Missing__gamehallkeep2_DealFalse_6R, xid := 0, rt := false, pins := [4120, 4088, 4096, 4104, 4112], f := fun k d => l_deal_Table_Missing__gamehallkeep2_DealFalse_6 k d.1 d.2.1 d.2.2.1 d.2.2.2.1 d.2.2.2.2.1 d.2.2.2.2.2.1 d.2.2.2.2.2.2.1 d.2.2.2.2.2.2.2.1 d.2.2.2.2.2.2.2.2.1 d.2.2.2.2.2.2.2.2.2.1 }
def LL_gamehallkeep2_DealFalse : Loops := [([34, 9, 5], [(2, l_slices_IndexFunc_int__slices_ContainsFunc_int__gamehallkeep2_DealFalse_2L)]), ([5], [(12, l_gamehallkeep2_DealFalse_12L)]), ([20, 5], [(6, l_deal_Table_Missing__gamehallkeep2_DealFalse_6L)])]
def f_gamehallkeep2_DealFalse (k : Nat) (a0 : Int) (a1 : List (List Int)) (a2 : Int) (a3 : Int) : Option (Bool) :=
  (f_gamehallkeep2_dealFact fuel).bind fun r1 =>
  if (!r1) = false then
    (f_gamehallkeep2_cardsFact fuel).bind fun r2 =>
    if (!r2) = true then
      some false
    else
      (f_gamehallkeep2_pick fuel a0 9).bind fun r3 =>
      if (0 : Int) ≤ (if 6 < (a1.length : Int) then 6 else (a1.length : Int)) then
        if (if 6 < (a1.length : Int) then 6 else (a1.length : Int)) ≤ a1.length then
          if ((((a1.take (if 6 < (a1.length : Int) then 6 else (a1.length : Int)).toNat).drop 0).length : Int) == 0) = false then
            match l_slices_IndexFunc_int__slices_ContainsFunc_int__gamehallkeep2_DealFalse_2 k ((a1.take (if 6 < (a1.length : Int) then 6 else (a1.length : Int)).toNat).drop 0) (((a1.take (if 6 < (a1.length : Int) then 6 else (a1.length : Int)).toNat).drop 0).length : Int) 0 r3 with
            | none => none
            | some (.exit d4) =>
              (f_gamehallkeep2_pick fuel a2 (((a1.take (if 6 < (a1.length : Int) then 6 else (a1.length : Int)).toNat).drop 0).length : Int)).bind fun r5 =>
              if decide ((((a1.take (if 6 < (a1.length : Int) then 6 else (a1.length : Int)).toNat).drop 0).length : Int) < 1) = false then
                if decide ((((a1.take (if 6 < (a1.length : Int) then 6 else (a1.length : Int)).toNat).drop 0).length : Int) > 6) = false then
                  if decide (d4.1 < 0) = false then
                    if decide (d4.1 > 52) = true then
                      some false
                    else
                      if (0 : Int) ≤ (((a1.take (if 6 < (a1.length : Int) then 6 else (a1.length : Int)).toNat).drop 0).length : Int) then
                        if (((a1.take (if 6 < (a1.length : Int) then 6 else (a1.length : Int)).toNat).drop 0).length : Int) ≤ (((a1.take (if 6 < (a1.length : Int) then 6 else (a1.length : Int)).toNat).drop 0).length : Int) then
                          if (((a1.take (if 6 < (a1.length : Int) then 6 else (a1.length : Int)).toNat).drop 0).length : Int) * 1 ≤ 281474976710656 then
                            if (0 : Int) ≤ (((a1.take (if 6 < (a1.length : Int) then 6 else (a1.length : Int)).toNat).drop 0).length : Int) then
                              if (((a1.take (if 6 < (a1.length : Int) then 6 else (a1.length : Int)).toNat).drop 0).length : Int) ≤ (((a1.take (if 6 < (a1.length : Int) then 6 else (a1.length : Int)).toNat).drop 0).length : Int) then
                                if (((a1.take (if 6 < (a1.length : Int) then 6 else (a1.length : Int)).toNat).drop 0).length : Int) * 1 ≤ 281474976710656 then
                                  if (0 : Int) ≤ (((a1.take (if 6 < (a1.length : Int) then 6 else (a1.length : Int)).toNat).drop 0).length : Int) then
                                    if (((a1.take (if 6 < (a1.length : Int) then 6 else (a1.length : Int)).toNat).drop 0).length : Int) ≤ (((a1.take (if 6 < (a1.length : Int) then 6 else (a1.length : Int)).toNat).drop 0).length : Int) then
                                      if (((a1.take (if 6 < (a1.length : Int) then 6 else (a1.length : Int)).toNat).drop 0).length : Int) * 8 ≤ 281474976710656 then
                                        if (0 : Int) ≤ (((a1.take (if 6 < (a1.length : Int) then 6 else (a1.length : Int)).toNat).drop 0).length : Int) then
                                          if (((a1.take (if 6 < (a1.length : Int) then 6 else (a1.length : Int)).toNat).drop 0).length : Int) ≤ (((a1.take (if 6 < (a1.length : Int) then 6 else (a1.length : Int)).toNat).drop 0).length : Int) then
                                            if (((a1.take (if 6 < (a1.length : Int) then 6 else (a1.length : Int)).toNat).drop 0).length : Int) * 24 ≤ 281474976710656 then
                                              if (0 : Int) ≤ r5 then
                                                if r5 < ((a1.take (if 6 < (a1.length : Int) then 6 else (a1.length : Int)).toNat).drop 0).length then
                                                  if (0 : Int) ≤ r5 then
                                                    if r5 < ((a1.take (if 6 < (a1.length : Int) then 6 else (a1.length : Int)).toNat).drop 0).length then
                                                      (f_deal_Seal fuel (((a1.take (if 6 < (a1.length : Int) then 6 else (a1.length : Int)).toNat).drop 0).getD r5.toNat []) a3).bind fun r6 =>
                                                      (f_deal_Seal fuel (((a1.take (if 6 < (a1.length : Int) then 6 else (a1.length : Int)).toNat).drop 0).getD r5.toNat []) r5).bind fun r7 =>
                                                      if (r6 == r7) = true then
                                                        some true
                                                      else
                                                        match l_gamehallkeep2_DealFalse_12 k ((a1.take (if 6 < (a1.length : Int) then 6 else (a1.length : Int)).toNat).drop 0) (((a1.take (if 6 < (a1.length : Int) then 6 else (a1.length : Int)).toNat).drop 0).length : Int) 0 d4.1 0 (-1) (List.replicate ((((a1.take (if 6 < (a1.length : Int) then 6 else (a1.length : Int)).toNat).drop 0).length : Int).toNat) false) (List.replicate ((((a1.take (if 6 < (a1.length : Int) then 6 else (a1.length : Int)).toNat).drop 0).length : Int).toNat) false) (List.replicate ((((a1.take (if 6 < (a1.length : Int) then 6 else (a1.length : Int)).toNat).drop 0).length : Int).toNat) 0) (List.replicate ((((a1.take (if 6 < (a1.length : Int) then 6 else (a1.length : Int)).toNat).drop 0).length : Int).toNat) []) with
                                                        | none => none
                                                        | some (.exit d8) =>
                                                          if (0 : Int) ≤ r5 then
                                                            if r5 < ((a1.take (if 6 < (a1.length : Int) then 6 else (a1.length : Int)).toNat).drop 0).length then
                                                              if decide (r5 < 0) = false then
                                                                if decide (r5 ≥ (d8.2.2.2.2.2.1.length : Int)) = true then
                                                                  if (d8.2.1 != 3) = true then
                                                                    if (d8.2.1 != 2) = true then
                                                                      some false
                                                                    else
                                                                      (f_deal_Combine fuel d8.1 d8.2.2.2.2.2.2.1).bind fun r9 =>
                                                                      if (r9.2 != 0) = true then
                                                                        some false
                                                                      else
                                                                        (f_cards_Fresh fuel d8.1).bind fun r10 =>
                                                                        if (r10.2 != 0) = true then
                                                                          some false
                                                                        else
                                                                          (f_cards_Shuffle fuel r10.1 r9.1).bind fun r11 =>
                                                                          some false
                                                                  else
                                                                    if (d8.2.1 != 2) = true then
                                                                      some false
                                                                    else
                                                                      (f_deal_Combine fuel d8.1 d8.2.2.2.2.2.2.1).bind fun r12 =>
                                                                      if (r12.2 != 0) = true then
                                                                        some false
                                                                      else
                                                                        (f_cards_Fresh fuel d8.1).bind fun r13 =>
                                                                        if (r13.2 != 0) = true then
                                                                          some false
                                                                        else
                                                                          (f_cards_Shuffle fuel r13.1 r12.1).bind fun r14 =>
                                                                          some false
                                                                else
                                                                  if (d8.2.1 != 1) = true then
                                                                    if (d8.2.1 != 3) = true then
                                                                      if (d8.2.1 != 2) = true then
                                                                        some false
                                                                      else
                                                                        (f_deal_Combine fuel d8.1 d8.2.2.2.2.2.2.1).bind fun r15 =>
                                                                        if (r15.2 != 0) = true then
                                                                          some false
                                                                        else
                                                                          (f_cards_Fresh fuel d8.1).bind fun r16 =>
                                                                          if (r16.2 != 0) = true then
                                                                            some false
                                                                          else
                                                                            (f_cards_Shuffle fuel r16.1 r15.1).bind fun r17 =>
                                                                            some false
                                                                    else
                                                                      if (d8.2.1 != 2) = true then
                                                                        some false
                                                                      else
                                                                        (f_deal_Combine fuel d8.1 d8.2.2.2.2.2.2.1).bind fun r18 =>
                                                                        if (r18.2 != 0) = true then
                                                                          some false
                                                                        else
                                                                          (f_cards_Fresh fuel d8.1).bind fun r19 =>
                                                                          if (r19.2 != 0) = true then
                                                                            some false
                                                                          else
                                                                            (f_cards_Shuffle fuel r19.1 r18.1).bind fun r20 =>
                                                                            some false
                                                                  else
                                                                    if (0 : Int) ≤ r5 then
                                                                      if r5 < d8.2.2.2.2.1.length then
                                                                        if (d8.2.2.2.2.1.getD r5.toNat false) = true then
                                                                          if (d8.2.1 != 3) = true then
                                                                            if (d8.2.1 != 2) = true then
                                                                              some false
                                                                            else
                                                                              (f_deal_Combine fuel d8.1 d8.2.2.2.2.2.2.1).bind fun r21 =>
                                                                              if (r21.2 != 0) = true then
                                                                                some false
                                                                              else
                                                                                (f_cards_Fresh fuel d8.1).bind fun r22 =>
                                                                                if (r22.2 != 0) = true then
                                                                                  some false
                                                                                else
                                                                                  (f_cards_Shuffle fuel r22.1 r21.1).bind fun r23 =>
                                                                                  some false
                                                                          else
                                                                            if (d8.2.1 != 2) = true then
                                                                              some false
                                                                            else
                                                                              (f_deal_Combine fuel d8.1 d8.2.2.2.2.2.2.1).bind fun r24 =>
                                                                              if (r24.2 != 0) = true then
                                                                                some false
                                                                              else
                                                                                (f_cards_Fresh fuel d8.1).bind fun r25 =>
                                                                                if (r25.2 != 0) = true then
                                                                                  some false
                                                                                else
                                                                                  (f_cards_Shuffle fuel r25.1 r24.1).bind fun r26 =>
                                                                                  some false
                                                                        else
                                                                          (f_cards_Fits fuel d8.1 (((a1.take (if 6 < (a1.length : Int) then 6 else (a1.length : Int)).toNat).drop 0).getD r5.toNat [])).bind fun r27 =>
                                                                          if (r27 != 0) = false then
                                                                            if (0 : Int) ≤ r5 then
                                                                              if r5 < d8.2.2.2.2.2.1.length then
                                                                                (f_deal_Seal fuel (((a1.take (if 6 < (a1.length : Int) then 6 else (a1.length : Int)).toNat).drop 0).getD r5.toNat []) a3).bind fun r28 =>
                                                                                if (r28 != d8.2.2.2.2.2.1.getD r5.toNat 0) = true then
                                                                                  if (r5 == r5) = true then
                                                                                    match l_deal_Table_Missing__gamehallkeep2_DealFalse_6 k (d8.2.2.2.1.length : Int) 0 d8.1 3 r5 [] d8.2.2.2.1 d8.2.2.2.2.1 d8.2.2.2.2.2.1 d8.2.2.2.2.2.2.1 with
                                                                                    | none => none
                                                                                    | some (.exit d29) =>
                                                                                      some ((d29.1.length : Int) == 0)
                                                                                    | some (.ret d29) =>
                                                                                      none
                                                                                  else
                                                                                    some false
                                                                                else
                                                                                  (f_slices_Clone_ints (((a1.take (if 6 < (a1.length : Int) then 6 else (a1.length : Int)).toNat).drop 0).getD r5.toNat [])).bind fun r30 =>
                                                                                  if (0 : Int) ≤ r5 then
                                                                                    if r5 < d8.2.2.2.2.1.length then
                                                                                      if (0 : Int) ≤ r5 then
                                                                                        if r5 < d8.2.2.2.2.2.2.1.length then
                                                                                          (f_slices_Contains_bool fuel (d8.2.2.2.2.1.set r5.toNat true) false).bind fun r31 =>
                                                                                          if (!r31) = true then
                                                                                            (f_deal_Combine fuel d8.1 (d8.2.2.2.2.2.2.1.set r5.toNat r30)).bind fun r32 =>
                                                                                            if (r32.2 != 0) = true then
                                                                                              some false
                                                                                            else
                                                                                              (f_cards_Fresh fuel d8.1).bind fun r33 =>
                                                                                              if (r33.2 != 0) = true then
                                                                                                some false
                                                                                              else
                                                                                                (f_cards_Shuffle fuel r33.1 r32.1).bind fun r34 =>
                                                                                                some false
                                                                                          else
                                                                                            if (d8.2.1 != 3) = true then
                                                                                              if (d8.2.1 != 2) = true then
                                                                                                some false
                                                                                              else
                                                                                                (f_deal_Combine fuel d8.1 (d8.2.2.2.2.2.2.1.set r5.toNat r30)).bind fun r35 =>
                                                                                                if (r35.2 != 0) = true then
                                                                                                  some false
                                                                                                else
                                                                                                  (f_cards_Fresh fuel d8.1).bind fun r36 =>
                                                                                                  if (r36.2 != 0) = true then
                                                                                                    some false
                                                                                                  else
                                                                                                    (f_cards_Shuffle fuel r36.1 r35.1).bind fun r37 =>
                                                                                                    some false
                                                                                            else
                                                                                              if (d8.2.1 != 2) = true then
                                                                                                some false
                                                                                              else
                                                                                                (f_deal_Combine fuel d8.1 (d8.2.2.2.2.2.2.1.set r5.toNat r30)).bind fun r38 =>
                                                                                                if (r38.2 != 0) = true then
                                                                                                  some false
                                                                                                else
                                                                                                  (f_cards_Fresh fuel d8.1).bind fun r39 =>
                                                                                                  if (r39.2 != 0) = true then
                                                                                                    some false
                                                                                                  else
                                                                                                    (f_cards_Shuffle fuel r39.1 r38.1).bind fun r40 =>
                                                                                                    some false
                                                                                        else none
                                                                                      else none
                                                                                    else none
                                                                                  else none
                                                                              else none
                                                                            else none
                                                                          else
                                                                            if (r5 == r5) = true then
                                                                              match l_deal_Table_Missing__gamehallkeep2_DealFalse_6 k (d8.2.2.2.1.length : Int) 0 d8.1 3 r5 [] d8.2.2.2.1 d8.2.2.2.2.1 d8.2.2.2.2.2.1 d8.2.2.2.2.2.2.1 with
                                                                              | none => none
                                                                              | some (.exit d41) =>
                                                                                some ((d41.1.length : Int) == 0)
                                                                              | some (.ret d41) =>
                                                                                none
                                                                            else
                                                                              some false
                                                                      else none
                                                                    else none
                                                              else
                                                                if (d8.2.1 != 3) = true then
                                                                  if (d8.2.1 != 2) = true then
                                                                    some false
                                                                  else
                                                                    (f_deal_Combine fuel d8.1 d8.2.2.2.2.2.2.1).bind fun r42 =>
                                                                    if (r42.2 != 0) = true then
                                                                      some false
                                                                    else
                                                                      (f_cards_Fresh fuel d8.1).bind fun r43 =>
                                                                      if (r43.2 != 0) = true then
                                                                        some false
                                                                      else
                                                                        (f_cards_Shuffle fuel r43.1 r42.1).bind fun r44 =>
                                                                        some false
                                                                else
                                                                  if (d8.2.1 != 2) = true then
                                                                    some false
                                                                  else
                                                                    (f_deal_Combine fuel d8.1 d8.2.2.2.2.2.2.1).bind fun r45 =>
                                                                    if (r45.2 != 0) = true then
                                                                      some false
                                                                    else
                                                                      (f_cards_Fresh fuel d8.1).bind fun r46 =>
                                                                      if (r46.2 != 0) = true then
                                                                        some false
                                                                      else
                                                                        (f_cards_Shuffle fuel r46.1 r45.1).bind fun r47 =>
                                                                        some false
                                                            else none
                                                          else none
                                                        | some (.ret d8) =>
                                                          some d8.1
                                                    else none
                                                  else none
                                                else none
                                              else none
                                            else none
                                          else none
                                        else none
                                      else none
                                    else none
                                  else none
                                else none
                              else none
                            else none
                          else none
                        else none
                      else none
                  else
                    some false
                else
                  some false
              else
                some false
            | some (.ret d4) =>
              if decide (d4.1 ≥ 0) = true then
                some true
              else
                (f_gamehallkeep2_pick fuel a2 (((a1.take (if 6 < (a1.length : Int) then 6 else (a1.length : Int)).toNat).drop 0).length : Int)).bind fun r48 =>
                if decide ((((a1.take (if 6 < (a1.length : Int) then 6 else (a1.length : Int)).toNat).drop 0).length : Int) < 1) = false then
                  if decide ((((a1.take (if 6 < (a1.length : Int) then 6 else (a1.length : Int)).toNat).drop 0).length : Int) > 6) = false then
                    if decide (d4.2.1 < 0) = false then
                      if decide (d4.2.1 > 52) = true then
                        some false
                      else
                        if (0 : Int) ≤ (((a1.take (if 6 < (a1.length : Int) then 6 else (a1.length : Int)).toNat).drop 0).length : Int) then
                          if (((a1.take (if 6 < (a1.length : Int) then 6 else (a1.length : Int)).toNat).drop 0).length : Int) ≤ (((a1.take (if 6 < (a1.length : Int) then 6 else (a1.length : Int)).toNat).drop 0).length : Int) then
                            if (((a1.take (if 6 < (a1.length : Int) then 6 else (a1.length : Int)).toNat).drop 0).length : Int) * 1 ≤ 281474976710656 then
                              if (0 : Int) ≤ (((a1.take (if 6 < (a1.length : Int) then 6 else (a1.length : Int)).toNat).drop 0).length : Int) then
                                if (((a1.take (if 6 < (a1.length : Int) then 6 else (a1.length : Int)).toNat).drop 0).length : Int) ≤ (((a1.take (if 6 < (a1.length : Int) then 6 else (a1.length : Int)).toNat).drop 0).length : Int) then
                                  if (((a1.take (if 6 < (a1.length : Int) then 6 else (a1.length : Int)).toNat).drop 0).length : Int) * 1 ≤ 281474976710656 then
                                    if (0 : Int) ≤ (((a1.take (if 6 < (a1.length : Int) then 6 else (a1.length : Int)).toNat).drop 0).length : Int) then
                                      if (((a1.take (if 6 < (a1.length : Int) then 6 else (a1.length : Int)).toNat).drop 0).length : Int) ≤ (((a1.take (if 6 < (a1.length : Int) then 6 else (a1.length : Int)).toNat).drop 0).length : Int) then
                                        if (((a1.take (if 6 < (a1.length : Int) then 6 else (a1.length : Int)).toNat).drop 0).length : Int) * 8 ≤ 281474976710656 then
                                          if (0 : Int) ≤ (((a1.take (if 6 < (a1.length : Int) then 6 else (a1.length : Int)).toNat).drop 0).length : Int) then
                                            if (((a1.take (if 6 < (a1.length : Int) then 6 else (a1.length : Int)).toNat).drop 0).length : Int) ≤ (((a1.take (if 6 < (a1.length : Int) then 6 else (a1.length : Int)).toNat).drop 0).length : Int) then
                                              if (((a1.take (if 6 < (a1.length : Int) then 6 else (a1.length : Int)).toNat).drop 0).length : Int) * 24 ≤ 281474976710656 then
                                                if (0 : Int) ≤ r48 then
                                                  if r48 < ((a1.take (if 6 < (a1.length : Int) then 6 else (a1.length : Int)).toNat).drop 0).length then
                                                    if (0 : Int) ≤ r48 then
                                                      if r48 < ((a1.take (if 6 < (a1.length : Int) then 6 else (a1.length : Int)).toNat).drop 0).length then
                                                        (f_deal_Seal fuel (((a1.take (if 6 < (a1.length : Int) then 6 else (a1.length : Int)).toNat).drop 0).getD r48.toNat []) a3).bind fun r49 =>
                                                        (f_deal_Seal fuel (((a1.take (if 6 < (a1.length : Int) then 6 else (a1.length : Int)).toNat).drop 0).getD r48.toNat []) r48).bind fun r50 =>
                                                        if (r49 == r50) = true then
                                                          some true
                                                        else
                                                          match l_gamehallkeep2_DealFalse_12 k ((a1.take (if 6 < (a1.length : Int) then 6 else (a1.length : Int)).toNat).drop 0) (((a1.take (if 6 < (a1.length : Int) then 6 else (a1.length : Int)).toNat).drop 0).length : Int) 0 d4.2.1 0 (-1) (List.replicate ((((a1.take (if 6 < (a1.length : Int) then 6 else (a1.length : Int)).toNat).drop 0).length : Int).toNat) false) (List.replicate ((((a1.take (if 6 < (a1.length : Int) then 6 else (a1.length : Int)).toNat).drop 0).length : Int).toNat) false) (List.replicate ((((a1.take (if 6 < (a1.length : Int) then 6 else (a1.length : Int)).toNat).drop 0).length : Int).toNat) 0) (List.replicate ((((a1.take (if 6 < (a1.length : Int) then 6 else (a1.length : Int)).toNat).drop 0).length : Int).toNat) []) with
                                                          | none => none
                                                          | some (.exit d51) =>
                                                            if (0 : Int) ≤ r48 then
                                                              if r48 < ((a1.take (if 6 < (a1.length : Int) then 6 else (a1.length : Int)).toNat).drop 0).length then
                                                                if decide (r48 < 0) = false then
                                                                  if decide (r48 ≥ (d51.2.2.2.2.2.1.length : Int)) = true then
                                                                    if (d51.2.1 != 3) = true then
                                                                      if (d51.2.1 != 2) = true then
                                                                        some false
                                                                      else
                                                                        (f_deal_Combine fuel d51.1 d51.2.2.2.2.2.2.1).bind fun r52 =>
                                                                        if (r52.2 != 0) = true then
                                                                          some false
                                                                        else
                                                                          (f_cards_Fresh fuel d51.1).bind fun r53 =>
                                                                          if (r53.2 != 0) = true then
                                                                            some false
                                                                          else
                                                                            (f_cards_Shuffle fuel r53.1 r52.1).bind fun r54 =>
                                                                            some false
                                                                    else
                                                                      if (d51.2.1 != 2) = true then
                                                                        some false
                                                                      else
                                                                        (f_deal_Combine fuel d51.1 d51.2.2.2.2.2.2.1).bind fun r55 =>
                                                                        if (r55.2 != 0) = true then
                                                                          some false
                                                                        else
                                                                          (f_cards_Fresh fuel d51.1).bind fun r56 =>
                                                                          if (r56.2 != 0) = true then
                                                                            some false
                                                                          else
                                                                            (f_cards_Shuffle fuel r56.1 r55.1).bind fun r57 =>
                                                                            some false
                                                                  else
                                                                    if (d51.2.1 != 1) = true then
                                                                      if (d51.2.1 != 3) = true then
                                                                        if (d51.2.1 != 2) = true then
                                                                          some false
                                                                        else
                                                                          (f_deal_Combine fuel d51.1 d51.2.2.2.2.2.2.1).bind fun r58 =>
                                                                          if (r58.2 != 0) = true then
                                                                            some false
                                                                          else
                                                                            (f_cards_Fresh fuel d51.1).bind fun r59 =>
                                                                            if (r59.2 != 0) = true then
                                                                              some false
                                                                            else
                                                                              (f_cards_Shuffle fuel r59.1 r58.1).bind fun r60 =>
                                                                              some false
                                                                      else
                                                                        if (d51.2.1 != 2) = true then
                                                                          some false
                                                                        else
                                                                          (f_deal_Combine fuel d51.1 d51.2.2.2.2.2.2.1).bind fun r61 =>
                                                                          if (r61.2 != 0) = true then
                                                                            some false
                                                                          else
                                                                            (f_cards_Fresh fuel d51.1).bind fun r62 =>
                                                                            if (r62.2 != 0) = true then
                                                                              some false
                                                                            else
                                                                              (f_cards_Shuffle fuel r62.1 r61.1).bind fun r63 =>
                                                                              some false
                                                                    else
                                                                      if (0 : Int) ≤ r48 then
                                                                        if r48 < d51.2.2.2.2.1.length then
                                                                          if (d51.2.2.2.2.1.getD r48.toNat false) = true then
                                                                            if (d51.2.1 != 3) = true then
                                                                              if (d51.2.1 != 2) = true then
                                                                                some false
                                                                              else
                                                                                (f_deal_Combine fuel d51.1 d51.2.2.2.2.2.2.1).bind fun r64 =>
                                                                                if (r64.2 != 0) = true then
                                                                                  some false
                                                                                else
                                                                                  (f_cards_Fresh fuel d51.1).bind fun r65 =>
                                                                                  if (r65.2 != 0) = true then
                                                                                    some false
                                                                                  else
                                                                                    (f_cards_Shuffle fuel r65.1 r64.1).bind fun r66 =>
                                                                                    some false
                                                                            else
                                                                              if (d51.2.1 != 2) = true then
                                                                                some false
                                                                              else
                                                                                (f_deal_Combine fuel d51.1 d51.2.2.2.2.2.2.1).bind fun r67 =>
                                                                                if (r67.2 != 0) = true then
                                                                                  some false
                                                                                else
                                                                                  (f_cards_Fresh fuel d51.1).bind fun r68 =>
                                                                                  if (r68.2 != 0) = true then
                                                                                    some false
                                                                                  else
                                                                                    (f_cards_Shuffle fuel r68.1 r67.1).bind fun r69 =>
                                                                                    some false
                                                                          else
                                                                            (f_cards_Fits fuel d51.1 (((a1.take (if 6 < (a1.length : Int) then 6 else (a1.length : Int)).toNat).drop 0).getD r48.toNat [])).bind fun r70 =>
                                                                            if (r70 != 0) = false then
                                                                              if (0 : Int) ≤ r48 then
                                                                                if r48 < d51.2.2.2.2.2.1.length then
                                                                                  (f_deal_Seal fuel (((a1.take (if 6 < (a1.length : Int) then 6 else (a1.length : Int)).toNat).drop 0).getD r48.toNat []) a3).bind fun r71 =>
                                                                                  if (r71 != d51.2.2.2.2.2.1.getD r48.toNat 0) = true then
                                                                                    if (r48 == r48) = true then
                                                                                      match l_deal_Table_Missing__gamehallkeep2_DealFalse_6 k (d51.2.2.2.1.length : Int) 0 d51.1 3 r48 [] d51.2.2.2.1 d51.2.2.2.2.1 d51.2.2.2.2.2.1 d51.2.2.2.2.2.2.1 with
                                                                                      | none => none
                                                                                      | some (.exit d72) =>
                                                                                        some ((d72.1.length : Int) == 0)
                                                                                      | some (.ret d72) =>
                                                                                        none
                                                                                    else
                                                                                      some false
                                                                                  else
                                                                                    (f_slices_Clone_ints (((a1.take (if 6 < (a1.length : Int) then 6 else (a1.length : Int)).toNat).drop 0).getD r48.toNat [])).bind fun r73 =>
                                                                                    if (0 : Int) ≤ r48 then
                                                                                      if r48 < d51.2.2.2.2.1.length then
                                                                                        if (0 : Int) ≤ r48 then
                                                                                          if r48 < d51.2.2.2.2.2.2.1.length then
                                                                                            (f_slices_Contains_bool fuel (d51.2.2.2.2.1.set r48.toNat true) false).bind fun r74 =>
                                                                                            if (!r74) = true then
                                                                                              (f_deal_Combine fuel d51.1 (d51.2.2.2.2.2.2.1.set r48.toNat r73)).bind fun r75 =>
                                                                                              if (r75.2 != 0) = true then
                                                                                                some false
                                                                                              else
                                                                                                (f_cards_Fresh fuel d51.1).bind fun r76 =>
                                                                                                if (r76.2 != 0) = true then
                                                                                                  some false
                                                                                                else
                                                                                                  (f_cards_Shuffle fuel r76.1 r75.1).bind fun r77 =>
                                                                                                  some false
                                                                                            else
                                                                                              if (d51.2.1 != 3) = true then
                                                                                                if (d51.2.1 != 2) = true then
                                                                                                  some false
                                                                                                else
                                                                                                  (f_deal_Combine fuel d51.1 (d51.2.2.2.2.2.2.1.set r48.toNat r73)).bind fun r78 =>
                                                                                                  if (r78.2 != 0) = true then
                                                                                                    some false
                                                                                                  else
                                                                                                    (f_cards_Fresh fuel d51.1).bind fun r79 =>
                                                                                                    if (r79.2 != 0) = true then
                                                                                                      some false
                                                                                                    else
                                                                                                      (f_cards_Shuffle fuel r79.1 r78.1).bind fun r80 =>
                                                                                                      some false
                                                                                              else
                                                                                                if (d51.2.1 != 2) = true then
                                                                                                  some false
                                                                                                else
                                                                                                  (f_deal_Combine fuel d51.1 (d51.2.2.2.2.2.2.1.set r48.toNat r73)).bind fun r81 =>
                                                                                                  if (r81.2 != 0) = true then
                                                                                                    some false
                                                                                                  else
                                                                                                    (f_cards_Fresh fuel d51.1).bind fun r82 =>
                                                                                                    if (r82.2 != 0) = true then
                                                                                                      some false
                                                                                                    else
                                                                                                      (f_cards_Shuffle fuel r82.1 r81.1).bind fun r83 =>
                                                                                                      some false
                                                                                          else none
                                                                                        else none
                                                                                      else none
                                                                                    else none
                                                                                else none
                                                                              else none
                                                                            else
                                                                              if (r48 == r48) = true then
                                                                                match l_deal_Table_Missing__gamehallkeep2_DealFalse_6 k (d51.2.2.2.1.length : Int) 0 d51.1 3 r48 [] d51.2.2.2.1 d51.2.2.2.2.1 d51.2.2.2.2.2.1 d51.2.2.2.2.2.2.1 with
                                                                                | none => none
                                                                                | some (.exit d84) =>
                                                                                  some ((d84.1.length : Int) == 0)
                                                                                | some (.ret d84) =>
                                                                                  none
                                                                              else
                                                                                some false
                                                                        else none
                                                                      else none
                                                                else
                                                                  if (d51.2.1 != 3) = true then
                                                                    if (d51.2.1 != 2) = true then
                                                                      some false
                                                                    else
                                                                      (f_deal_Combine fuel d51.1 d51.2.2.2.2.2.2.1).bind fun r85 =>
                                                                      if (r85.2 != 0) = true then
                                                                        some false
                                                                      else
                                                                        (f_cards_Fresh fuel d51.1).bind fun r86 =>
                                                                        if (r86.2 != 0) = true then
                                                                          some false
                                                                        else
                                                                          (f_cards_Shuffle fuel r86.1 r85.1).bind fun r87 =>
                                                                          some false
                                                                  else
                                                                    if (d51.2.1 != 2) = true then
                                                                      some false
                                                                    else
                                                                      (f_deal_Combine fuel d51.1 d51.2.2.2.2.2.2.1).bind fun r88 =>
                                                                      if (r88.2 != 0) = true then
                                                                        some false
                                                                      else
                                                                        (f_cards_Fresh fuel d51.1).bind fun r89 =>
                                                                        if (r89.2 != 0) = true then
                                                                          some false
                                                                        else
                                                                          (f_cards_Shuffle fuel r89.1 r88.1).bind fun r90 =>
                                                                          some false
                                                              else none
                                                            else none
                                                          | some (.ret d51) =>
                                                            some d51.1
                                                      else none
                                                    else none
                                                  else none
                                                else none
                                              else none
                                            else none
                                          else none
                                        else none
                                      else none
                                    else none
                                  else none
                                else none
                              else none
                            else none
                          else none
                        else none
                    else
                      some false
                  else
                    some false
                else
                  some false
          else
            some true
        else none
      else none
  else
    some false
theorem l_slices_IndexFunc_int__slices_ContainsFunc_int__gamehallkeep2_DealFalse_2_step (m : Nat) (d : dens l_slices_IndexFunc_int__slices_ContainsFunc_int__gamehallkeep2_DealFalse_2H.tys) : l_slices_IndexFunc_int__slices_ContainsFunc_int__gamehallkeep2_DealFalse_2L.f (m + 1) d = round E_gamehallkeep2_DealFalse LL_gamehallkeep2_DealFalse m [34, 9, 5] 19 (loopN (bodyOf Tryd.f34) 0) l_slices_IndexFunc_int__slices_ContainsFunc_int__gamehallkeep2_DealFalse_2L (l_slices_IndexFunc_int__slices_ContainsFunc_int__gamehallkeep2_DealFalse_2L.f m) d := by kernel_rfl
theorem l_gamehallkeep2_DealFalse_12_step (m : Nat) (d : dens l_gamehallkeep2_DealFalse_12H.tys) : l_gamehallkeep2_DealFalse_12L.f (m + 1) d = round E_gamehallkeep2_DealFalse LL_gamehallkeep2_DealFalse m [5] 143 (loopN (bodyOf Tryd.f5) 0) l_gamehallkeep2_DealFalse_12L (l_gamehallkeep2_DealFalse_12L.f m) d := by kernel_rfl
theorem l_deal_Table_Missing__gamehallkeep2_DealFalse_6_step (m : Nat) (d : dens l_deal_Table_Missing__gamehallkeep2_DealFalse_6H.tys) : l_deal_Table_Missing__gamehallkeep2_DealFalse_6L.f (m + 1) d = round E_gamehallkeep2_DealFalse LL_gamehallkeep2_DealFalse m [20, 5] 42 (loopN (bodyOf Tryd.f20) 0) l_deal_Table_Missing__gamehallkeep2_DealFalse_6L (l_deal_Table_Missing__gamehallkeep2_DealFalse_6L.f m) d := by kernel_rfl
theorem f_gamehallkeep2_DealFalse_run (k : Nat) (x : denL [.int .i64, .slice (.slice (.int .i64)), .int .i64, .int .i64]) : runFn E_gamehallkeep2_DealFalse LL_gamehallkeep2_DealFalse k 5 Tryd.f5 [.int .i64, .slice (.slice (.int .i64)), .int .i64, .int .i64] [.imm .bool] x = f_gamehallkeep2_DealFalse k x.1 x.2.1 x.2.2.1 x.2.2.2 := by kernel_rfl
noncomputable def S_gamehallkeep2_DealFalse : Vm.Spec := { ps := [.int .i64, .slice (.slice (.int .i64)), .int .i64, .int .i64], rs := [.imm .bool], f := fun x => f_gamehallkeep2_DealFalse fuel x.1 x.2.1 x.2.2.1 x.2.2.2 }
theorem f_gamehallkeep2_DealFalse_holds : Vm.Spec.holds Tryd.prog 5 S_gamehallkeep2_DealFalse := by
  have hB : BodiesOk Tryd.prog E_gamehallkeep2_DealFalse := bodies_ok (by exact ⟨by kernel_rfl, by kernel_rfl, by kernel_rfl, by kernel_rfl, by kernel_rfl, by kernel_rfl, by kernel_rfl, by kernel_rfl, by kernel_rfl, by kernel_rfl, by kernel_rfl, by kernel_rfl, by kernel_rfl, by kernel_rfl, by kernel_rfl, by kernel_rfl, by kernel_rfl, by kernel_rfl, by kernel_rfl, by kernel_rfl, trivial⟩)
  have hBS : BodiesStepped E_gamehallkeep2_DealFalse LL_gamehallkeep2_DealFalse := by
    refine bodies_stepped ?_
    exact ⟨(fun _ => stepped_noloop (by kernel_rfl)), (fun _ => stepped_noloop (by kernel_rfl)), (fun _ => stepped_noloop (by kernel_rfl)), (stepped_paths [[5]] (by exact ⟨stepped_of (ls := [(6, l_deal_Table_Missing__gamehallkeep2_DealFalse_6L)]) rfl rfl ⟨by kernel_rfl, fun _ => rfl, l_deal_Table_Missing__gamehallkeep2_DealFalse_6_step, stepsI_end (by kernel_rfl)⟩,  trivial⟩) rfl), (fun _ => stepped_noloop (by kernel_rfl)), (fun _ => stepped_noloop (by kernel_rfl)), (fun _ => stepped_noloop (by kernel_rfl)), (fun _ => stepped_noloop (by kernel_rfl)), (fun _ => stepped_noloop (by kernel_rfl)), (stepped_paths [[9, 5]] (by exact ⟨stepped_of (ls := [(2, l_slices_IndexFunc_int__slices_ContainsFunc_int__gamehallkeep2_DealFalse_2L)]) rfl rfl ⟨by kernel_rfl, fun _ => rfl, l_slices_IndexFunc_int__slices_ContainsFunc_int__gamehallkeep2_DealFalse_2_step, stepsI_end (by kernel_rfl)⟩,  trivial⟩) rfl),  trivial⟩
  have hS : SpecsOk Tryd.prog E_gamehallkeep2_DealFalse := specs_ok (by exact ⟨⟨by kernel_rfl, f_gamehallkeep2_dealFact_holds⟩, ⟨by kernel_rfl, f_gamehallkeep2_cardsFact_holds⟩, ⟨by kernel_rfl, f_gamehallkeep2_pick_holds⟩, ⟨by kernel_rfl, f_cards_Fits_holds⟩, ⟨by kernel_rfl, f_deal_Combine_holds⟩, ⟨by kernel_rfl, f_cards_Fresh_holds⟩, ⟨by kernel_rfl, f_cards_Shuffle_holds⟩, ⟨by kernel_rfl, f_deal_Seal_holds⟩, ⟨by kernel_rfl, f_slices_Clone_ints_holds⟩, ⟨by kernel_rfl, f_slices_Contains_bool_holds⟩, trivial⟩)
  have hE : EOk Tryd.prog E_gamehallkeep2_DealFalse := eok_te ok
  exact fn_sound (L := LL_gamehallkeep2_DealFalse) hE hS hB (draws_ok hE hS (by kernel_rfl)) hBS (fn := Tryd.f5) (by kernel_rfl) (c := bodyOf Tryd.f5) (by kernel_rfl) (stepped_of (ls := [(12, l_gamehallkeep2_DealFalse_12L)]) rfl rfl ⟨by kernel_rfl, fun _ => rfl, l_gamehallkeep2_DealFalse_12_step, stepsI_end (by kernel_rfl)⟩) fun x r h => ⟨fuel, (f_gamehallkeep2_DealFalse_run fuel x).trans h⟩

end Go.Proofs.YtnlclnheakhncaaDoor
