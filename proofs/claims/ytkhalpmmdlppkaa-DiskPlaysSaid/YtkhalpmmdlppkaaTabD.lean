/-
  THE FUNCTIONS' CODE AS THE LAYER 'Vm' READS IT (printed by wip/vm/gentab.py), each held against the program.
-/
import Derived.Test.YtkhalpmmdlppkaaRows
import Derived.Test.YtkhalpmmdlppkaaVmRk
namespace Go.Proofs.Ytkhalpmmdlppkaa
set_option linter.unusedSimpArgs false
set_option linter.unusedVariables false
open Go.Vm
set_option maxRecDepth 100000

/-! cubby/cubbylaw02.DiskSafe -/
def p3_1 : List Vm.Op := [⟨some 8, .mv (.c (.bool false)), none⟩]
def p3_2 : List Vm.Op := [⟨some 15, .call 15 [.c (.int .i64 4)], none⟩, ⟨some 14, .mv (.t 15), none⟩, ⟨some 16, .ext 0 (.t 14), none⟩, ⟨some 17, .ext 1 (.t 14), none⟩, ⟨some 9, .mv (.t 16), none⟩, ⟨some 10, .mv (.t 17), none⟩]
def p3_3 : List Vm.Op := [⟨some 18, .mv (.t 2), none⟩, ⟨some 19, .convInt .u64 (.t 18), none⟩, ⟨some 20, .bin .rem (.t 19) (.c (.int .u64 4)), none⟩, ⟨some 21, .convInt .i64 (.t 20), none⟩, ⟨some 2, .mv (.t 21), none⟩]
def p3_4 : List Vm.Op := [⟨some 22, .call 16 [], none⟩, ⟨some 23, .un .not (.t 22), none⟩, ⟨some 24, .mv (.t 23), none⟩, ⟨some 25, .mv (.t 10), some (24, false)⟩, ⟨some 26, .bin .neq (.t 25) (.c (.int .i64 0)), some (24, false)⟩, ⟨some 27, .pick (.t 24) (.c (.bool true)) (.t 26), none⟩, ⟨some 28, .mv (.t 27), none⟩, ⟨some 29, .mv (.t 9), some (28, false)⟩, ⟨some 30, .eq false (.nil .p) (.t 29) (.c .nilp), some (28, false)⟩, ⟨some 31, .pick (.t 28) (.c (.bool true)) (.t 30), none⟩, ⟨some 32, .mv (.t 31), none⟩, ⟨some 33, .mv (.t 9), some (32, false)⟩, ⟨some 34, .mv (.t 2), some (32, false)⟩, ⟨some 35, .mv (.t 0), some (32, false)⟩, ⟨some 36, .call 18 [.t 35], some (32, false)⟩, ⟨some 37, .call 17 [.t 33, .t 34, .t 36], some (32, false)⟩, ⟨some 38, .bin .neq (.t 37) (.c (.int .i64 0)), some (32, false)⟩, ⟨some 39, .pick (.t 32) (.c (.bool true)) (.t 38), none⟩, ⟨some 40, .mv (.t 39), none⟩, ⟨some 41, .mv (.t 9), some (40, false)⟩, ⟨some 42, .call 19 [.t 41], some (40, false)⟩, ⟨some 43, .bin .neq (.t 42) (.c (.int .i64 0)), some (40, false)⟩, ⟨some 44, .pick (.t 40) (.c (.bool true)) (.t 43), none⟩, ⟨some 45, .mv (.t 44), none⟩, ⟨some 46, .mv (.t 9), some (45, false)⟩, ⟨some 47, .mv (.t 2), some (45, false)⟩, ⟨some 48, .mv (.t 1), some (45, false)⟩, ⟨some 49, .call 18 [.t 48], some (45, false)⟩, ⟨some 50, .call 17 [.t 46, .t 47, .t 49], some (45, false)⟩, ⟨some 51, .bin .neq (.t 50) (.c (.int .i64 0)), some (45, false)⟩, ⟨some 52, .pick (.t 45) (.c (.bool true)) (.t 51), none⟩, ⟨some 53, .mv (.t 52), none⟩, ⟨some 54, .mv (.t 9), some (53, false)⟩, ⟨some 55, .call 20 [.t 54], some (53, false)⟩, ⟨some 56, .bin .neq (.t 55) (.c (.int .i64 1)), some (53, false)⟩, ⟨some 57, .pick (.t 53) (.c (.bool true)) (.t 56), none⟩, ⟨some 58, .mv (.t 57), none⟩, ⟨some 59, .mv (.t 9), some (58, false)⟩, ⟨some 60, .mv (.t 3), some (58, false)⟩, ⟨some 61, .buildSl 1 1 [.int .i64 0] [(0, (1, .t 60))], some (58, false)⟩, ⟨some 62, .call 21 [.t 59, .t 61], some (58, false)⟩, ⟨some 63, .bin .neq (.t 62) (.c (.int .i64 0)), some (58, false)⟩, ⟨some 64, .pick (.t 58) (.c (.bool true)) (.t 63), none⟩, ⟨some 65, .mv (.t 64), none⟩, ⟨some 66, .mv (.t 9), some (65, false)⟩, ⟨some 67, .call 22 [.t 66], some (65, false)⟩, ⟨some 68, .bin .neq (.t 67) (.c (.int .i64 0)), some (65, false)⟩, ⟨some 69, .pick (.t 65) (.c (.bool true)) (.t 68), none⟩]
def p3_5 : List Vm.Op := [⟨some 8, .mv (.c (.bool false)), none⟩]
def p3_6 : List Vm.Op := [⟨some 71, .mv (.t 9), none⟩, ⟨some 72, .mv (.t 2), none⟩, ⟨some 73, .call 23 [.t 71, .t 72], none⟩, ⟨some 70, .mv (.t 73), none⟩, ⟨some 74, .ext 0 (.t 70), none⟩, ⟨some 75, .ext 1 (.t 70), none⟩, ⟨some 11, .mv (.t 74), none⟩, ⟨some 12, .mv (.t 75), none⟩]
def p3_7 : List Vm.Op := [⟨some 76, .mv (.t 3), none⟩, ⟨some 77, .minmax false [.t 76, .c (.int .i64 64)], none⟩, ⟨some 78, .minmax true [.c (.int .i64 0), .t 77], none⟩, ⟨some 13, .mv (.t 78), none⟩]
def d3_8 : List Vm.DOp := [⟨⟨some 79, .mv (.t 12), none⟩, []⟩, ⟨⟨some 80, .bin .eql (.t 79) (.c (.int .i64 0)), none⟩, [0]⟩, ⟨⟨some 81, .mv (.t 80), none⟩, [0, 1]⟩, ⟨⟨some 82, .mv (.t 9), some (81, true)⟩, [1, 0, 2]⟩, ⟨⟨some 83, .call 20 [.t 82], some (81, true)⟩, [2, 0, 1, 3]⟩, ⟨⟨some 84, .bin .eql (.t 83) (.c (.int .i64 0)), some (81, true)⟩, [3, 1, 0, 2, 4]⟩, ⟨⟨some 85, .pick (.t 81) (.t 84) (.c (.bool false)), none⟩, [4, 3, 5, 1, 0, 2]⟩, ⟨⟨some 86, .mv (.t 85), none⟩, [2, 0, 1, 5, 3, 4, 6]⟩, ⟨⟨some 87, .mv (.t 11), some (86, true)⟩, [6, 4, 3, 5, 1, 0, 2, 7]⟩, ⟨⟨some 88, .mv (.t 1), some (86, true)⟩, [6, 4, 3, 5, 1, 0, 2, 7]⟩, ⟨⟨some 89, .call 18 [.t 88], some (86, true)⟩, [7, 2, 0, 1, 5, 3, 4, 6, 9]⟩, ⟨⟨some 90, .mv (.t 13), some (86, true)⟩, [6, 4, 3, 5, 1, 0, 2, 7]⟩, ⟨⟨some 91, .mv (.t 13), some (86, true)⟩, [6, 4, 3, 5, 1, 0, 2, 7]⟩, ⟨⟨some 92, .slSl 1 (.t 89) none (some (.t 90)) (some (.t 91)), some (86, true)⟩, [12, 11, 9, 6, 4, 3, 5, 1, 0, 2, 7, 10]⟩, ⟨⟨some 93, .mv (.t 0), some (86, true)⟩, [6, 4, 3, 5, 1, 0, 2, 7]⟩, ⟨⟨some 94, .call 18 [.t 93], some (86, true)⟩, [9, 10, 7, 2, 0, 1, 5, 3, 4, 6, 14]⟩, ⟨⟨some 95, .mv (.t 13), some (86, true)⟩, [6, 4, 3, 5, 1, 0, 2, 7]⟩, ⟨⟨some 96, .slSl 1 (.t 94) (some (.t 95)) none none, some (86, true)⟩, [16, 14, 6, 4, 3, 5, 1, 0, 2, 7, 10, 9, 15]⟩, ⟨⟨some 97, .append 1 1 (.t 92) (.t 96), some (86, true)⟩, [15, 14, 16, 17, 10, 7, 2, 0, 1, 5, 3, 4, 6, 9, 11, 12, 13]⟩, ⟨⟨some 98, .call 24 [.t 87, .t 97], some (86, true)⟩, [13, 12, 11, 9, 10, 17, 16, 14, 15, 18, 7, 2, 0, 1, 5, 3, 4, 6, 8]⟩, ⟨⟨some 99, .pick (.t 86) (.t 98) (.c (.bool false)), none⟩, [8, 18, 15, 14, 16, 17, 10, 9, 11, 12, 13, 19, 6, 4, 3, 5, 1, 0, 2, 7]⟩, ⟨⟨some 8, .mv (.t 99), none⟩, [7, 2, 0, 1, 5, 3, 4, 6, 19, 13, 12, 11, 9, 10, 17, 16, 14, 15, 18, 8, 20]⟩]
def code3 : C := .seq (.ops p3_1) (.seq (.ops p3_2) (.seq (.ops p3_3) (.seq (.seq (.ops p3_4) (.cond (.t 69) (.seq (.ops p3_5) .ret) .skip)) (.seq (.ops p3_6) (.seq (.ops p3_7) (.seq (.draw d3_8) .ret))))))
def base3 : FnI := ⟨100, 4, code3, [.tmp 8], .raw⟩
/-! cubby/cubbylaw02.DiskApart -/
def p4_1 : List Vm.Op := [⟨some 10, .mv (.c (.bool false)), none⟩]
def p4_2 : List Vm.Op := [⟨some 19, .call 15 [.c (.int .i64 8)], none⟩, ⟨some 18, .mv (.t 19), none⟩, ⟨some 20, .ext 0 (.t 18), none⟩, ⟨some 21, .ext 1 (.t 18), none⟩, ⟨some 11, .mv (.t 20), none⟩, ⟨some 12, .mv (.t 21), none⟩]
def p4_3 : List Vm.Op := [⟨some 22, .mv (.t 3), none⟩, ⟨some 23, .convInt .u64 (.t 22), none⟩, ⟨some 24, .bin .rem (.t 23) (.c (.int .u64 8)), none⟩, ⟨some 25, .convInt .i64 (.t 24), none⟩, ⟨some 26, .mv (.t 4), none⟩, ⟨some 27, .convInt .u64 (.t 26), none⟩, ⟨some 28, .bin .rem (.t 27) (.c (.int .u64 8)), none⟩, ⟨some 29, .convInt .i64 (.t 28), none⟩, ⟨some 3, .mv (.t 25), none⟩, ⟨some 4, .mv (.t 29), none⟩]
def p4_4 : List Vm.Op := [⟨some 30, .call 16 [], none⟩, ⟨some 31, .un .not (.t 30), none⟩, ⟨some 32, .mv (.t 31), none⟩, ⟨some 33, .mv (.t 12), some (32, false)⟩, ⟨some 34, .bin .neq (.t 33) (.c (.int .i64 0)), some (32, false)⟩, ⟨some 35, .pick (.t 32) (.c (.bool true)) (.t 34), none⟩, ⟨some 36, .mv (.t 35), none⟩, ⟨some 37, .mv (.t 11), some (36, false)⟩, ⟨some 38, .eq false (.nil .p) (.t 37) (.c .nilp), some (36, false)⟩, ⟨some 39, .pick (.t 36) (.c (.bool true)) (.t 38), none⟩, ⟨some 40, .mv (.t 39), none⟩, ⟨some 41, .mv (.t 3), some (40, false)⟩, ⟨some 42, .mv (.t 4), some (40, false)⟩, ⟨some 43, .bin .eql (.t 41) (.t 42), some (40, false)⟩, ⟨some 44, .pick (.t 40) (.c (.bool true)) (.t 43), none⟩, ⟨some 45, .mv (.t 44), none⟩, ⟨some 46, .mv (.t 11), some (45, false)⟩, ⟨some 47, .mv (.t 3), some (45, false)⟩, ⟨some 48, .mv (.t 0), some (45, false)⟩, ⟨some 49, .call 18 [.t 48], some (45, false)⟩, ⟨some 50, .call 17 [.t 46, .t 47, .t 49], some (45, false)⟩, ⟨some 51, .bin .neq (.t 50) (.c (.int .i64 0)), some (45, false)⟩, ⟨some 52, .pick (.t 45) (.c (.bool true)) (.t 51), none⟩, ⟨some 53, .mv (.t 52), none⟩, ⟨some 54, .mv (.t 11), some (53, false)⟩, ⟨some 55, .mv (.t 4), some (53, false)⟩, ⟨some 56, .mv (.t 1), some (53, false)⟩, ⟨some 57, .call 18 [.t 56], some (53, false)⟩, ⟨some 58, .call 17 [.t 54, .t 55, .t 57], some (53, false)⟩, ⟨some 59, .bin .neq (.t 58) (.c (.int .i64 0)), some (53, false)⟩, ⟨some 60, .pick (.t 53) (.c (.bool true)) (.t 59), none⟩, ⟨some 61, .mv (.t 60), none⟩, ⟨some 62, .mv (.t 11), some (61, false)⟩, ⟨some 63, .mv (.t 3), some (61, false)⟩, ⟨some 64, .mv (.t 2), some (61, false)⟩, ⟨some 65, .call 18 [.t 64], some (61, false)⟩, ⟨some 66, .call 17 [.t 62, .t 63, .t 65], some (61, false)⟩, ⟨some 67, .bin .neq (.t 66) (.c (.int .i64 0)), some (61, false)⟩, ⟨some 68, .pick (.t 61) (.c (.bool true)) (.t 67), none⟩]
def p4_5 : List Vm.Op := [⟨some 69, .call 16 [], none⟩, ⟨some 70, .mv (.t 69), none⟩, ⟨some 71, .mv (.t 3), some (70, true)⟩, ⟨some 72, .mv (.t 4), some (70, true)⟩, ⟨some 73, .bin .eql (.t 71) (.t 72), some (70, true)⟩, ⟨some 74, .pick (.t 70) (.t 73) (.c (.bool false)), none⟩, ⟨some 10, .mv (.t 74), none⟩]
def p4_6 : List Vm.Op := [⟨some 13, .mv (.c (.int .i64 0)), none⟩]
def p4_7 : List Vm.Op := [⟨some 75, .mv (.t 13), none⟩, ⟨some 76, .bin .lss (.t 75) (.c (.int .i64 2)), none⟩]
def p4_8 : List Vm.Op := [⟨some 14, .mv (.c (.int .i64 0)), none⟩]
def p4_9 : List Vm.Op := [⟨some 79, .mv (.t 14), none⟩, ⟨some 80, .bin .lss (.t 79) (.c (.int .i64 8)), none⟩]
def p4_10 : List Vm.Op := [⟨some 84, .mv (.t 11), none⟩, ⟨some 85, .mv (.t 14), none⟩, ⟨some 86, .call 23 [.t 84, .t 85], none⟩, ⟨some 83, .mv (.t 86), none⟩, ⟨some 87, .ext 0 (.t 83), none⟩, ⟨some 88, .ext 1 (.t 83), none⟩, ⟨some 15, .mv (.t 87), none⟩, ⟨some 16, .mv (.t 88), none⟩]
def p4_11 : List Vm.Op := [⟨some 89, .makeSl 1 1 [.int .u8 0] (.c (.int .i64 64)) (.c (.int .i64 64)), none⟩, ⟨some 17, .mv (.t 89), none⟩]
def p4_12 : List Vm.Op := [⟨some 90, .mv (.t 14), none⟩, ⟨some 91, .mv (.t 3), none⟩, ⟨some 92, .bin .eql (.t 90) (.t 91), none⟩]
def p4_13 : List Vm.Op := [⟨some 93, .mv (.t 2), none⟩, ⟨some 94, .call 18 [.t 93], none⟩, ⟨some 17, .mv (.t 94), none⟩]
def p4_14 : List Vm.Op := [⟨some 95, .mv (.t 14), none⟩, ⟨some 96, .mv (.t 4), none⟩, ⟨some 97, .bin .eql (.t 95) (.t 96), none⟩]
def p4_15 : List Vm.Op := [⟨some 98, .mv (.t 1), none⟩, ⟨some 99, .call 18 [.t 98], none⟩, ⟨some 17, .mv (.t 99), none⟩]
def p4_16 : List Vm.Op := [⟨some 100, .mv (.t 16), none⟩, ⟨some 101, .bin .neq (.t 100) (.c (.int .i64 0)), none⟩, ⟨some 102, .mv (.t 101), none⟩, ⟨some 103, .mv (.t 15), some (102, false)⟩, ⟨some 104, .mv (.t 17), some (102, false)⟩, ⟨some 105, .call 24 [.t 103, .t 104], some (102, false)⟩, ⟨some 106, .un .not (.t 105), some (102, false)⟩, ⟨some 107, .pick (.t 102) (.c (.bool true)) (.t 106), none⟩]
def p4_17 : List Vm.Op := [⟨some 10, .mv (.c (.bool false)), none⟩]
def p4_18 : List Vm.Op := [⟨some 81, .mv (.t 14), none⟩, ⟨some 82, .bin .add (.t 81) (.c (.int .i64 1)), none⟩, ⟨some 14, .mv (.t 82), none⟩]
def l4_19 : C := .seq (.seq (.ops p4_9) (.cond (.t 80) .skip (.exit 2))) (.seq (.block 3 (.seq (.ops p4_10) (.seq (.ops p4_11) (.seq (.seq (.ops p4_12) (.cond (.t 92) (.ops p4_13) .skip)) (.seq (.seq (.ops p4_14) (.cond (.t 97) (.ops p4_15) .skip)) (.seq (.ops p4_16) (.cond (.t 107) (.seq (.ops p4_17) .ret) .skip))))))) (.ops p4_18))
def p4_20 : List Vm.Op := [⟨some 108, .mv (.t 11), none⟩, ⟨some 109, .call 19 [.t 108], none⟩, ⟨some 110, .bin .neq (.t 109) (.c (.int .i64 0)), none⟩, ⟨some 111, .mv (.t 110), none⟩, ⟨some 112, .mv (.t 11), some (111, false)⟩, ⟨some 113, .call 20 [.t 112], some (111, false)⟩, ⟨some 114, .bin .neq (.t 113) (.c (.int .i64 0)), some (111, false)⟩, ⟨some 115, .pick (.t 111) (.c (.bool true)) (.t 114), none⟩]
def p4_21 : List Vm.Op := [⟨some 10, .mv (.c (.bool false)), none⟩]
def p4_22 : List Vm.Op := [⟨some 77, .mv (.t 13), none⟩, ⟨some 78, .bin .add (.t 77) (.c (.int .i64 1)), none⟩, ⟨some 13, .mv (.t 78), none⟩]
def l4_23 : C := .seq (.seq (.ops p4_7) (.cond (.t 76) .skip (.exit 0))) (.seq (.block 1 (.seq (.seq (.ops p4_8) (.block 2 (.loop l4_19))) (.seq (.ops p4_20) (.cond (.t 115) (.seq (.ops p4_21) .ret) .skip)))) (.ops p4_22))
def p4_24 : List Vm.Op := [⟨some 10, .mv (.c (.bool true)), none⟩]
def code4 : C := .seq (.ops p4_1) (.seq (.ops p4_2) (.seq (.ops p4_3) (.seq (.seq (.ops p4_4) (.cond (.t 68) (.seq (.ops p4_5) .ret) .skip)) (.seq (.seq (.ops p4_6) (.block 0 (.loop l4_23))) (.seq (.ops p4_24) .ret)))))
def base4 : FnI := ⟨116, 5, code4, [.tmp 10], .raw⟩
/-! cubby/cubbylaw02.DiskPlays -/
def p5_1 : List Vm.Op := [⟨some 4, .mv (.c (.bool false)), none⟩]
def p5_2 : List Vm.Op := [⟨some 25, .mv (.t 0), none⟩, ⟨some 26, .call 15 [.t 25], none⟩, ⟨some 24, .mv (.t 26), none⟩, ⟨some 27, .ext 0 (.t 24), none⟩, ⟨some 28, .ext 1 (.t 24), none⟩, ⟨some 5, .mv (.t 27), none⟩, ⟨some 6, .mv (.t 28), none⟩]
def p5_3 : List Vm.Op := [⟨some 29, .call 16 [], none⟩, ⟨some 30, .un .not (.t 29), none⟩, ⟨some 31, .mv (.t 30), none⟩, ⟨some 32, .mv (.t 6), some (31, false)⟩, ⟨some 33, .bin .eql (.t 32) (.c (.int .i64 0)), some (31, false)⟩, ⟨some 34, .mv (.t 0), some (31, false)⟩, ⟨some 35, .bin .geq (.t 34) (.c (.int .i64 1)), some (31, false)⟩, ⟨some 36, .mv (.t 35), some (31, false)⟩, ⟨some 37, .mv (.t 0), some (36, true)⟩, ⟨some 38, .bin .leq (.t 37) (.c (.int .i64 65536)), some (36, true)⟩, ⟨some 39, .pick (.t 36) (.t 38) (.c (.bool false)), some (31, false)⟩, ⟨some 40, .eq true .bool (.t 33) (.t 39), some (31, false)⟩, ⟨some 41, .pick (.t 31) (.c (.bool true)) (.t 40), none⟩, ⟨some 42, .mv (.t 41), none⟩, ⟨some 43, .mv (.t 5), some (42, false)⟩, ⟨some 44, .eq true (.nil .p) (.t 43) (.c .nilp), some (42, false)⟩, ⟨some 45, .mv (.t 6), some (42, false)⟩, ⟨some 46, .bin .eql (.t 45) (.c (.int .i64 0)), some (42, false)⟩, ⟨some 47, .eq true .bool (.t 44) (.t 46), some (42, false)⟩, ⟨some 48, .pick (.t 42) (.c (.bool true)) (.t 47), none⟩]
def p5_4 : List Vm.Op := [⟨some 4, .mv (.c (.bool false)), none⟩]
def p5_5 : List Vm.Op := [⟨some 49, .mv (.t 5), none⟩, ⟨some 50, .eq false (.nil .p) (.t 49) (.c .nilp), none⟩]
def p5_6 : List Vm.Op := [⟨some 51, .mv (.t 6), none⟩, ⟨some 52, .bin .eql (.t 51) (.c (.int .i64 1)), none⟩, ⟨some 4, .mv (.t 52), none⟩]
def p5_7 : List Vm.Op := [⟨some 53, .mv (.t 0), none⟩, ⟨some 54, .call 25 [.t 53], none⟩, ⟨some 7, .mv (.t 54), none⟩]
def p5_8 : List Vm.Op := [⟨some 8, .mv (.c (.int .i64 0)), none⟩]
def p5_9 : List Vm.Op := [⟨some 55, .mv (.t 8), none⟩, ⟨some 56, .mv (.t 1), none⟩, ⟨some 57, .len .sl (.t 56), none⟩, ⟨some 58, .bin .lss (.t 55) (.t 57), none⟩, ⟨some 59, .mv (.t 58), none⟩, ⟨some 60, .mv (.t 8), some (59, true)⟩, ⟨some 61, .bin .lss (.t 60) (.c (.int .i64 120)), some (59, true)⟩, ⟨some 62, .pick (.t 59) (.t 61) (.c (.bool false)), none⟩]
def p5_10 : List Vm.Op := [⟨some 65, .mv (.t 1), none⟩, ⟨some 66, .mv (.t 8), none⟩, ⟨some 67, .iaSl 4 (.t 65) (.t 66), none⟩, ⟨some 68, .load true 4 (.t 67), none⟩, ⟨some 9, .alloc [.int .i64 0, .int .i64 0, .nilsl, .nilsl], none⟩, ⟨none, .store 4 (.t 9) (.t 68), none⟩]
def p5_11 : List Vm.Op := [⟨some 10, .mv (.c (.bool true)), none⟩]
def p5_12 : List Vm.Op := [⟨some 69, .faddr 0 (.t 9), none⟩, ⟨some 70, .load false 1 (.t 69), none⟩]
def p5_13 : List Vm.Op := [⟨some 106, .bin .eql (.t 70) (.c (.int .i64 1)), none⟩, ⟨some 105, .mv (.t 106), none⟩]
def p5_14 : List Vm.Op := [⟨some 108, .mv (.t 5), none⟩, ⟨some 109, .faddr 1 (.t 9), none⟩, ⟨some 110, .load false 1 (.t 109), none⟩, ⟨some 111, .call 23 [.t 108, .t 110], none⟩, ⟨some 107, .mv (.t 111), none⟩, ⟨some 112, .ext 0 (.t 107), none⟩, ⟨some 113, .ext 1 (.t 107), none⟩, ⟨some 11, .mv (.t 112), none⟩, ⟨some 12, .mv (.t 113), none⟩]
def p5_15 : List Vm.Op := [⟨some 115, .mv (.t 7), none⟩, ⟨some 116, .faddr 1 (.t 9), none⟩, ⟨some 117, .load false 1 (.t 116), none⟩, ⟨some 118, .call 26 [.t 115, .t 117], none⟩, ⟨some 114, .mv (.t 118), none⟩, ⟨some 119, .ext 0 (.t 114), none⟩, ⟨some 120, .ext 1 (.t 114), none⟩, ⟨some 13, .mv (.t 119), none⟩, ⟨some 14, .mv (.t 120), none⟩]
def p5_16 : List Vm.Op := [⟨some 121, .mv (.t 12), none⟩, ⟨some 122, .mv (.t 14), none⟩, ⟨some 123, .bin .eql (.t 121) (.t 122), none⟩, ⟨some 124, .mv (.t 123), none⟩, ⟨some 125, .mv (.t 11), some (124, true)⟩, ⟨some 126, .mv (.t 13), some (124, true)⟩, ⟨some 127, .call 24 [.t 125, .t 126], some (124, true)⟩, ⟨some 128, .pick (.t 124) (.t 127) (.c (.bool false)), none⟩, ⟨some 10, .mv (.t 128), none⟩]
def p5_17 : List Vm.Op := [⟨some 129, .mv (.t 11), none⟩, ⟨some 130, .call 27 [.t 129], none⟩]
def p5_18 : List Vm.Op := [⟨some 132, .bin .eql (.t 70) (.c (.int .i64 2)), none⟩, ⟨some 131, .mv (.t 132), none⟩]
def p5_19 : List Vm.Op := [⟨some 133, .mv (.t 5), none⟩, ⟨some 134, .call 19 [.t 133], none⟩, ⟨some 135, .mv (.t 7), none⟩, ⟨some 136, .call 28 [.t 135], none⟩, ⟨some 137, .bin .eql (.t 134) (.t 136), none⟩, ⟨some 10, .mv (.t 137), none⟩]
def p5_20 : List Vm.Op := [⟨some 139, .bin .eql (.t 70) (.c (.int .i64 3)), none⟩, ⟨some 138, .mv (.t 139), none⟩]
def p5_21 : List Vm.Op := [⟨some 140, .mv (.t 7), none⟩, ⟨some 141, .faddr 1 (.t 9), none⟩, ⟨some 142, .load false 1 (.t 141), none⟩, ⟨some 143, .minmax true [.c (.int .i64 0), .t 142], none⟩, ⟨some 144, .nilCk (.t 140), none⟩, ⟨some 145, .faddr 2 (.t 144), none⟩, ⟨none, .store 1 (.t 145) (.t 143), none⟩]
def p5_22 : List Vm.Op := [⟨some 146, .mv (.t 5), none⟩, ⟨some 147, .faddr 1 (.t 9), none⟩, ⟨some 148, .load false 1 (.t 147), none⟩, ⟨some 149, .call 29 [.t 146, .t 148], none⟩, ⟨some 150, .bin .eql (.t 149) (.c (.int .i64 0)), none⟩, ⟨some 10, .mv (.t 150), none⟩]
def p5_23 : List Vm.Op := [⟨some 152, .bin .eql (.t 70) (.c (.int .i64 4)), none⟩, ⟨some 151, .mv (.t 152), none⟩]
def p5_24 : List Vm.Op := [⟨some 153, .faddr 3 (.t 9), none⟩, ⟨some 154, .load false 1 (.t 153), none⟩, ⟨some 155, .call 30 [.t 154, .c (.int .i64 71)], none⟩, ⟨some 15, .mv (.t 155), none⟩]
def p5_25 : List Vm.Op := [⟨some 156, .mv (.t 7), none⟩, ⟨some 157, .faddr 3 (.t 9), none⟩, ⟨some 158, .load false 1 (.t 157), none⟩, ⟨some 159, .call 31 [.t 156, .t 158], none⟩]
def p5_26 : List Vm.Op := [⟨some 160, .mv (.t 5), none⟩, ⟨some 161, .mv (.t 15), none⟩, ⟨some 162, .call 21 [.t 160, .t 161], none⟩, ⟨some 163, .bin .eql (.t 162) (.c (.int .i64 0)), none⟩, ⟨some 164, .mv (.t 163), none⟩, ⟨some 165, .mv (.t 15), some (164, true)⟩, ⟨some 166, .faddr 3 (.t 9), some (164, true)⟩, ⟨some 167, .load false 1 (.t 166), some (164, true)⟩, ⟨some 168, .call 32 [.t 165, .t 167, .c (.int .i64 71)], some (164, true)⟩, ⟨some 169, .pick (.t 164) (.t 168) (.c (.bool false)), none⟩, ⟨some 10, .mv (.t 169), none⟩]
def p5_27 : List Vm.Op := [⟨some 171, .bin .eql (.t 70) (.c (.int .i64 5)), none⟩, ⟨some 170, .mv (.t 171), none⟩]
def p5_28 : List Vm.Op := [⟨some 172, .mv (.t 7), none⟩, ⟨some 173, .call 33 [.t 172], none⟩]
def p5_29 : List Vm.Op := [⟨some 174, .mv (.t 5), none⟩, ⟨some 175, .call 22 [.t 174], none⟩, ⟨some 176, .bin .eql (.t 175) (.c (.int .i64 0)), none⟩, ⟨some 10, .mv (.t 176), none⟩]
def p5_30 : List Vm.Op := [⟨some 178, .bin .eql (.t 70) (.c (.int .i64 6)), none⟩, ⟨some 177, .mv (.t 178), none⟩]
def p5_31 : List Vm.Op := [⟨some 179, .mv (.t 5), none⟩, ⟨some 180, .call 34 [.t 179], none⟩, ⟨some 16, .mv (.t 180), none⟩]
def p5_32 : List Vm.Op := [⟨some 181, .mv (.t 5), none⟩, ⟨some 182, .buildSl 1 1 [.int .u8 0] [(0, (1, .c (.int .u8 9)))], none⟩, ⟨some 183, .call 18 [.t 182], none⟩, ⟨some 184, .call 17 [.t 181, .c (.int .i64 0), .t 183], none⟩]
def p5_33 : List Vm.Op := [⟨some 185, .mv (.t 5), none⟩, ⟨some 186, .call 19 [.t 185], none⟩]
def p5_34 : List Vm.Op := [⟨some 187, .mv (.t 16), none⟩, ⟨some 188, .eq false (.nil .p) (.t 187) (.c .nilp), none⟩]
def p5_35 : List Vm.Op := [⟨some 4, .mv (.c (.bool false)), none⟩]
def p5_36 : List Vm.Op := [⟨some 189, .mv (.t 16), none⟩, ⟨some 5, .mv (.t 189), none⟩]
def p5_37 : List Vm.Op := [⟨some 71, .faddr 2 (.t 9), none⟩, ⟨some 72, .load false 1 (.t 71), none⟩, ⟨some 73, .call 18 [.t 72], none⟩, ⟨some 17, .mv (.t 73), none⟩]
def p5_38 : List Vm.Op := [⟨some 74, .faddr 0 (.t 9), none⟩, ⟨some 75, .load false 1 (.t 74), none⟩, ⟨some 76, .bin .eql (.t 75) (.c (.int .i64 7)), none⟩, ⟨some 77, .mv (.t 76), none⟩, ⟨some 78, .faddr 2 (.t 9), some (77, true)⟩, ⟨some 79, .load false 1 (.t 78), some (77, true)⟩, ⟨some 80, .len .sl (.t 79), some (77, true)⟩, ⟨some 81, .bin .lss (.t 80) (.c (.int .i64 200)), some (77, true)⟩, ⟨some 82, .pick (.t 77) (.t 81) (.c (.bool false)), none⟩]
def p5_39 : List Vm.Op := [⟨some 83, .faddr 2 (.t 9), none⟩, ⟨some 84, .load false 1 (.t 83), none⟩, ⟨some 17, .mv (.t 84), none⟩]
def p5_40 : List Vm.Op := [⟨some 85, .mv (.t 17), none⟩, ⟨some 86, .call 35 [.t 85, .c (.int .u8 71)], none⟩, ⟨some 18, .mv (.t 86), none⟩]
def d5_41 : List Vm.DOp := [⟨⟨some 87, .mv (.t 5), none⟩, []⟩, ⟨⟨some 88, .faddr 1 (.t 9), none⟩, []⟩, ⟨⟨some 89, .load false 1 (.t 88), none⟩, [1]⟩, ⟨⟨some 90, .mv (.t 18), none⟩, []⟩, ⟨⟨some 91, .call 17 [.t 87, .t 89, .t 90], none⟩, [3, 1, 2, 0]⟩, ⟨⟨some 92, .mv (.t 7), none⟩, []⟩, ⟨⟨some 93, .faddr 1 (.t 9), none⟩, []⟩, ⟨⟨some 94, .load false 1 (.t 93), none⟩, [6]⟩, ⟨⟨some 95, .mv (.t 17), none⟩, []⟩, ⟨⟨some 96, .call 36 [.t 92, .t 94, .t 95], none⟩, [0, 2, 1, 3, 4, 8, 6, 7, 5]⟩, ⟨⟨some 97, .bin .eql (.t 91) (.t 96), none⟩, [5, 7, 6, 8, 9, 0, 2, 1, 3, 4]⟩, ⟨⟨some 98, .mv (.t 97), none⟩, [4, 3, 1, 2, 0, 9, 8, 6, 7, 5, 10]⟩, ⟨⟨some 99, .mv (.t 18), some (98, true)⟩, [10, 5, 7, 6, 8, 9, 0, 2, 1, 3, 4, 11]⟩, ⟨⟨some 100, .mv (.t 17), some (98, true)⟩, [10, 5, 7, 6, 8, 9, 0, 2, 1, 3, 4, 11]⟩, ⟨⟨some 101, .call 37 [.t 99, .t 100, .c (.int .u8 71)], some (98, true)⟩, [13, 11, 4, 3, 1, 2, 0, 9, 8, 6, 7, 5, 10, 12]⟩, ⟨⟨some 102, .pick (.t 98) (.t 101) (.c (.bool false)), none⟩, [12, 13, 14, 10, 5, 7, 6, 8, 9, 0, 2, 1, 3, 4, 11]⟩, ⟨⟨some 10, .mv (.t 102), none⟩, [11, 4, 3, 1, 2, 0, 9, 8, 6, 7, 5, 10, 14, 13, 12, 15]⟩]
def p5_42 : List Vm.Op := [⟨some 103, .mv (.t 18), none⟩, ⟨some 104, .call 27 [.t 103], none⟩]
def d5_43 : List Vm.DOp := [⟨⟨some 190, .mv (.t 10), none⟩, []⟩, ⟨⟨some 191, .un .not (.t 190), none⟩, [0]⟩, ⟨⟨some 192, .mv (.t 191), none⟩, [0, 1]⟩, ⟨⟨some 193, .mv (.t 5), some (192, false)⟩, [1, 0, 2]⟩, ⟨⟨some 194, .call 38 [.t 193], some (192, false)⟩, [2, 0, 1, 3]⟩, ⟨⟨some 195, .mv (.t 7), some (192, false)⟩, [1, 0, 2]⟩, ⟨⟨some 196, .nilCk (.t 195), some (192, false)⟩, [2, 0, 1, 5]⟩, ⟨⟨some 197, .faddr 3 (.t 196), some (192, false)⟩, [5, 1, 0, 2, 6]⟩, ⟨⟨some 198, .load false 1 (.t 197), some (192, false)⟩, [6, 2, 0, 1, 5, 7]⟩, ⟨⟨some 199, .eq true .bool (.t 194) (.t 198), some (192, false)⟩, [7, 5, 6, 8, 3, 1, 0, 2, 4]⟩, ⟨⟨some 200, .pick (.t 192) (.c (.bool true)) (.t 199), none⟩, [4, 3, 8, 6, 5, 7, 9, 1, 0, 2]⟩, ⟨⟨some 201, .mv (.t 200), none⟩, [2, 0, 1, 9, 7, 5, 6, 8, 3, 4, 10]⟩, ⟨⟨some 202, .mv (.t 5), some (201, false)⟩, [10, 4, 3, 8, 6, 5, 7, 9, 1, 0, 2, 11]⟩, ⟨⟨some 203, .call 20 [.t 202], some (201, false)⟩, [11, 2, 0, 1, 9, 7, 5, 6, 8, 3, 4, 10, 12]⟩, ⟨⟨some 204, .mv (.t 7), some (201, false)⟩, [10, 4, 3, 8, 6, 5, 7, 9, 1, 0, 2, 11]⟩, ⟨⟨some 205, .nilCk (.t 204), some (201, false)⟩, [11, 2, 0, 1, 9, 7, 5, 6, 8, 3, 4, 10, 14]⟩, ⟨⟨some 206, .faddr 1 (.t 205), some (201, false)⟩, [14, 10, 4, 3, 8, 6, 5, 7, 9, 1, 0, 2, 11, 15]⟩, ⟨⟨some 207, .load false 1 (.t 206), some (201, false)⟩, [15, 11, 2, 0, 1, 9, 7, 5, 6, 8, 3, 4, 10, 14, 16]⟩, ⟨⟨some 208, .len .sl (.t 207), some (201, false)⟩, [16, 14, 10, 4, 3, 8, 6, 5, 7, 9, 1, 0, 2, 11, 15, 17]⟩, ⟨⟨some 209, .bin .neq (.t 203) (.t 208), some (201, false)⟩, [17, 15, 14, 16, 18, 12, 10, 4, 3, 8, 6, 5, 7, 9, 1, 0, 2, 11, 13]⟩, ⟨⟨some 210, .pick (.t 201) (.c (.bool true)) (.t 209), none⟩, [13, 12, 18, 16, 14, 15, 17, 19, 10, 4, 3, 8, 6, 5, 7, 9, 1, 0, 2, 11]⟩, ⟨⟨some 211, .mv (.t 210), none⟩, [11, 2, 0, 1, 9, 7, 5, 6, 8, 3, 4, 10, 19, 17, 15, 14, 16, 18, 12, 13, 20]⟩, ⟨⟨some 212, .mv (.t 5), some (211, false)⟩, [20, 13, 12, 18, 16, 14, 15, 17, 19, 10, 4, 3, 8, 6, 5, 7, 9, 1, 0, 2, 11, 21]⟩, ⟨⟨some 213, .call 39 [.t 212], some (211, false)⟩, [21, 11, 2, 0, 1, 9, 7, 5, 6, 8, 3, 4, 10, 19, 17, 15, 14, 16, 18, 12, 13, 20, 22]⟩, ⟨⟨some 214, .mv (.t 0), some (211, false)⟩, [20, 13, 12, 18, 16, 14, 15, 17, 19, 10, 4, 3, 8, 6, 5, 7, 9, 1, 0, 2, 11, 21]⟩, ⟨⟨some 215, .bin .neq (.t 213) (.t 214), some (211, false)⟩, [24, 22, 20, 13, 12, 18, 16, 14, 15, 17, 19, 10, 4, 3, 8, 6, 5, 7, 9, 1, 0, 2, 11, 21, 23]⟩, ⟨⟨some 216, .pick (.t 211) (.c (.bool true)) (.t 215), none⟩, [23, 22, 24, 25, 20, 13, 12, 18, 16, 14, 15, 17, 19, 10, 4, 3, 8, 6, 5, 7, 9, 1, 0, 2, 11, 21]⟩]
def p5_44 : List Vm.Op := [⟨some 4, .mv (.c (.bool false)), none⟩]
def p5_45 : List Vm.Op := [⟨some 63, .mv (.t 8), none⟩, ⟨some 64, .bin .add (.t 63) (.c (.int .i64 1)), none⟩, ⟨some 8, .mv (.t 64), none⟩]
def l5_46 : C := .seq (.seq (.ops p5_9) (.cond (.t 62) .skip (.exit 0))) (.seq (.block 1 (.seq (.ops p5_10) (.seq (.ops p5_11) (.seq (.seq (.ops p5_12) (.block 2 (.seq (.ops p5_13) (.cond (.t 105) (.seq (.ops p5_14) (.seq (.ops p5_15) (.seq (.ops p5_16) (.ops p5_17)))) (.seq (.ops p5_18) (.cond (.t 131) (.ops p5_19) (.seq (.ops p5_20) (.cond (.t 138) (.seq (.ops p5_21) (.ops p5_22)) (.seq (.ops p5_23) (.cond (.t 151) (.seq (.ops p5_24) (.seq (.ops p5_25) (.ops p5_26))) (.seq (.ops p5_27) (.cond (.t 170) (.seq (.ops p5_28) (.ops p5_29)) (.seq (.ops p5_30) (.cond (.t 177) (.seq (.ops p5_31) (.seq (.ops p5_32) (.seq (.ops p5_33) (.seq (.seq (.ops p5_34) (.cond (.t 188) (.seq (.ops p5_35) .ret) .skip)) (.ops p5_36))))) (.seq (.ops p5_37) (.seq (.seq (.ops p5_38) (.cond (.t 82) (.ops p5_39) .skip)) (.seq (.ops p5_40) (.seq (.draw d5_41) (.ops p5_42))))))))))))))))))) (.seq (.draw d5_43) (.cond (.t 216) (.seq (.ops p5_44) .ret) .skip)))))) (.ops p5_45))
def p5_47 : List Vm.Op := [⟨some 217, .mv (.t 5), none⟩, ⟨some 218, .call 22 [.t 217], none⟩]
def p5_48 : List Vm.Op := [⟨some 219, .mv (.t 7), none⟩, ⟨some 220, .call 33 [.t 219], none⟩]
def p5_49 : List Vm.Op := [⟨some 19, .mv (.c (.int .i64 0)), none⟩]
def p5_50 : List Vm.Op := [⟨some 221, .mv (.t 19), none⟩, ⟨some 222, .mv (.t 0), none⟩, ⟨some 223, .bin .lss (.t 221) (.t 222), none⟩, ⟨some 224, .mv (.t 223), none⟩, ⟨some 225, .mv (.t 19), some (224, true)⟩, ⟨some 226, .bin .lss (.t 225) (.c (.int .i64 40)), some (224, true)⟩, ⟨some 227, .pick (.t 224) (.t 226) (.c (.bool false)), none⟩]
def p5_51 : List Vm.Op := [⟨some 231, .mv (.t 5), none⟩, ⟨some 232, .mv (.t 19), none⟩, ⟨some 233, .call 23 [.t 231, .t 232], none⟩, ⟨some 230, .mv (.t 233), none⟩, ⟨some 234, .ext 0 (.t 230), none⟩, ⟨some 235, .ext 1 (.t 230), none⟩, ⟨some 20, .mv (.t 234), none⟩, ⟨some 21, .mv (.t 235), none⟩]
def p5_52 : List Vm.Op := [⟨some 237, .mv (.t 7), none⟩, ⟨some 238, .mv (.t 19), none⟩, ⟨some 239, .call 26 [.t 237, .t 238], none⟩, ⟨some 236, .mv (.t 239), none⟩, ⟨some 240, .ext 0 (.t 236), none⟩, ⟨some 241, .ext 1 (.t 236), none⟩, ⟨some 22, .mv (.t 240), none⟩, ⟨some 23, .mv (.t 241), none⟩]
def p5_53 : List Vm.Op := [⟨some 242, .mv (.t 21), none⟩, ⟨some 243, .mv (.t 23), none⟩, ⟨some 244, .bin .neq (.t 242) (.t 243), none⟩, ⟨some 245, .mv (.t 244), none⟩, ⟨some 246, .mv (.t 20), some (245, false)⟩, ⟨some 247, .mv (.t 22), some (245, false)⟩, ⟨some 248, .call 24 [.t 246, .t 247], some (245, false)⟩, ⟨some 249, .un .not (.t 248), some (245, false)⟩, ⟨some 250, .pick (.t 245) (.c (.bool true)) (.t 249), none⟩]
def p5_54 : List Vm.Op := [⟨some 4, .mv (.c (.bool false)), none⟩]
def p5_55 : List Vm.Op := [⟨some 228, .mv (.t 19), none⟩, ⟨some 229, .bin .add (.t 228) (.c (.int .i64 1)), none⟩, ⟨some 19, .mv (.t 229), none⟩]
def l5_56 : C := .seq (.seq (.ops p5_50) (.cond (.t 227) .skip (.exit 3))) (.seq (.block 4 (.seq (.ops p5_51) (.seq (.ops p5_52) (.seq (.ops p5_53) (.cond (.t 250) (.seq (.ops p5_54) .ret) .skip))))) (.ops p5_55))
def p5_57 : List Vm.Op := [⟨some 4, .mv (.c (.bool true)), none⟩]
def code5 : C := .seq (.ops p5_1) (.seq (.ops p5_2) (.seq (.seq (.ops p5_3) (.cond (.t 48) (.seq (.ops p5_4) .ret) .skip)) (.seq (.seq (.ops p5_5) (.cond (.t 50) (.seq (.ops p5_6) .ret) .skip)) (.seq (.ops p5_7) (.seq (.seq (.ops p5_8) (.block 0 (.loop l5_46))) (.seq (.ops p5_47) (.seq (.ops p5_48) (.seq (.seq (.ops p5_49) (.block 3 (.loop l5_56))) (.seq (.ops p5_57) .ret)))))))))
def base5 : FnI := ⟨251, 2, code5, [.tmp 4], .raw⟩
/-! cubby/cubbylaw02.DiskNil -/
def p6_1 : List Vm.Op := [⟨some 6, .mv (.c (.bool false)), none⟩]
def p6_2 : List Vm.Op := [⟨some 7, .mv (.c .nilp), none⟩]
def p6_3 : List Vm.Op := [⟨some 11, .mv (.t 7), none⟩, ⟨some 12, .mv (.t 0), none⟩, ⟨some 13, .call 23 [.t 11, .t 12], none⟩, ⟨some 10, .mv (.t 13), none⟩, ⟨some 14, .ext 0 (.t 10), none⟩, ⟨some 15, .ext 1 (.t 10), none⟩, ⟨some 8, .mv (.t 14), none⟩, ⟨some 9, .mv (.t 15), none⟩]
def p6_4 : List Vm.Op := [⟨some 16, .call 16 [], none⟩, ⟨some 17, .mv (.t 16), none⟩, ⟨some 18, .mv (.t 8), some (17, true)⟩, ⟨some 19, .len .sl (.t 18), some (17, true)⟩, ⟨some 20, .bin .eql (.t 19) (.c (.int .i64 0)), some (17, true)⟩, ⟨some 21, .pick (.t 17) (.t 20) (.c (.bool false)), none⟩, ⟨some 22, .mv (.t 21), none⟩, ⟨some 23, .mv (.t 9), some (22, true)⟩, ⟨some 24, .bin .eql (.t 23) (.c (.int .i64 2)), some (22, true)⟩, ⟨some 25, .pick (.t 22) (.t 24) (.c (.bool false)), none⟩, ⟨some 26, .mv (.t 25), none⟩, ⟨some 27, .mv (.t 7), some (26, true)⟩, ⟨some 28, .mv (.t 0), some (26, true)⟩, ⟨some 29, .mv (.t 1), some (26, true)⟩, ⟨some 30, .call 17 [.t 27, .t 28, .t 29], some (26, true)⟩, ⟨some 31, .bin .eql (.t 30) (.c (.int .i64 2)), some (26, true)⟩, ⟨some 32, .pick (.t 26) (.t 31) (.c (.bool false)), none⟩, ⟨some 33, .mv (.t 32), none⟩, ⟨some 34, .mv (.t 7), some (33, true)⟩, ⟨some 35, .call 19 [.t 34], some (33, true)⟩, ⟨some 36, .bin .eql (.t 35) (.c (.int .i64 2)), some (33, true)⟩, ⟨some 37, .pick (.t 33) (.t 36) (.c (.bool false)), none⟩, ⟨some 38, .mv (.t 37), none⟩, ⟨some 39, .mv (.t 7), some (38, true)⟩, ⟨some 40, .mv (.t 0), some (38, true)⟩, ⟨some 41, .call 29 [.t 39, .t 40], some (38, true)⟩, ⟨some 42, .bin .eql (.t 41) (.c (.int .i64 2)), some (38, true)⟩, ⟨some 43, .pick (.t 38) (.t 42) (.c (.bool false)), none⟩, ⟨some 44, .mv (.t 43), none⟩, ⟨some 45, .mv (.t 7), some (44, true)⟩, ⟨some 46, .mv (.t 2), some (44, true)⟩, ⟨some 47, .call 21 [.t 45, .t 46], some (44, true)⟩, ⟨some 48, .bin .eql (.t 47) (.c (.int .i64 2)), some (44, true)⟩, ⟨some 49, .pick (.t 44) (.t 48) (.c (.bool false)), none⟩, ⟨some 50, .mv (.t 49), none⟩, ⟨some 51, .mv (.t 7), some (50, true)⟩, ⟨some 52, .call 22 [.t 51], some (50, true)⟩, ⟨some 53, .bin .eql (.t 52) (.c (.int .i64 2)), some (50, true)⟩, ⟨some 54, .pick (.t 50) (.t 53) (.c (.bool false)), none⟩, ⟨some 55, .mv (.t 54), none⟩, ⟨some 56, .mv (.t 7), some (55, true)⟩, ⟨some 57, .call 38 [.t 56], some (55, true)⟩, ⟨some 58, .un .not (.t 57), some (55, true)⟩, ⟨some 59, .pick (.t 55) (.t 58) (.c (.bool false)), none⟩, ⟨some 60, .mv (.t 59), none⟩, ⟨some 61, .mv (.t 7), some (60, true)⟩, ⟨some 62, .call 20 [.t 61], some (60, true)⟩, ⟨some 63, .bin .eql (.t 62) (.c (.int .i64 0)), some (60, true)⟩, ⟨some 64, .pick (.t 60) (.t 63) (.c (.bool false)), none⟩, ⟨some 65, .mv (.t 64), none⟩, ⟨some 66, .mv (.t 7), some (65, true)⟩, ⟨some 67, .call 39 [.t 66], some (65, true)⟩, ⟨some 68, .bin .eql (.t 67) (.c (.int .i64 0)), some (65, true)⟩, ⟨some 69, .pick (.t 65) (.t 68) (.c (.bool false)), none⟩, ⟨some 70, .mv (.t 69), none⟩, ⟨some 71, .mv (.t 7), some (70, true)⟩, ⟨some 72, .call 34 [.t 71], some (70, true)⟩, ⟨some 73, .eq false (.nil .p) (.t 72) (.c .nilp), some (70, true)⟩, ⟨some 74, .pick (.t 70) (.t 73) (.c (.bool false)), none⟩, ⟨some 6, .mv (.t 74), none⟩]
def code6 : C := .seq (.ops p6_1) (.seq (.ops p6_2) (.seq (.ops p6_3) (.seq (.ops p6_4) .ret)))
def base6 : FnI := ⟨75, 3, code6, [.tmp 6], .raw⟩
/-! cubby/disk.New -/
def p15_1 : List Vm.Op := [⟨some 2, .mv (.c .nilp), none⟩, ⟨some 3, .mv (.c (.int .i64 0)), none⟩]
def p15_2 : List Vm.Op := [⟨some 4, .mv (.t 0), none⟩, ⟨some 5, .bin .lss (.t 4) (.c (.int .i64 1)), none⟩, ⟨some 6, .mv (.t 5), none⟩, ⟨some 7, .mv (.t 0), some (6, false)⟩, ⟨some 8, .bin .gtr (.t 7) (.c (.int .i64 65536)), some (6, false)⟩, ⟨some 9, .pick (.t 6) (.c (.bool true)) (.t 8), none⟩]
def p15_3 : List Vm.Op := [⟨some 2, .mv (.c .nilp), none⟩, ⟨some 3, .mv (.c (.int .i64 1)), none⟩]
def p15_4 : List Vm.Op := [⟨some 10, .mv (.t 0), none⟩, ⟨some 11, .makeSl 64 64 (List.replicate 64 (.int .u8 0)) (.t 10) (.t 10), none⟩, ⟨some 12, .build [.nilsl, .nilsl, .bool false, .int .i64 0] [(0, (1, .t 11))], none⟩, ⟨some 13, .box (.t 12), none⟩, ⟨some 2, .mv (.t 13), none⟩, ⟨some 3, .mv (.c (.int .i64 0)), none⟩]
def code15 : C := .seq (.ops p15_1) (.seq (.seq (.ops p15_2) (.cond (.t 9) (.seq (.ops p15_3) .ret) .skip)) (.seq (.ops p15_4) .ret))
def base15 : FnI := ⟨14, 1, code15, [.tmp 2, .tmp 3], .raw⟩
/-! cubby/cubbylaw02.awake -/
def p16_1 : List Vm.Op := [⟨some 0, .mv (.c (.bool false)), none⟩]
def p16_2 : List Vm.Op := [⟨some 6, .call 15 [.c (.int .i64 2)], none⟩, ⟨some 5, .mv (.t 6), none⟩, ⟨some 7, .ext 0 (.t 5), none⟩, ⟨some 8, .ext 1 (.t 5), none⟩, ⟨some 1, .mv (.t 7), none⟩, ⟨some 2, .mv (.t 8), none⟩]
def p16_3 : List Vm.Op := [⟨some 9, .mv (.t 2), none⟩, ⟨some 10, .bin .neq (.t 9) (.c (.int .i64 0)), none⟩, ⟨some 11, .mv (.t 10), none⟩, ⟨some 12, .mv (.t 1), some (11, false)⟩, ⟨some 13, .eq false (.nil .p) (.t 12) (.c .nilp), some (11, false)⟩, ⟨some 14, .pick (.t 11) (.c (.bool true)) (.t 13), none⟩, ⟨some 15, .mv (.t 14), none⟩, ⟨some 16, .mv (.t 1), some (15, false)⟩, ⟨some 17, .buildSl 1 1 [.int .u8 0] [(0, (1, .c (.int .u8 7)))], some (15, false)⟩, ⟨some 18, .call 18 [.t 17], some (15, false)⟩, ⟨some 19, .call 17 [.t 16, .c (.int .i64 0), .t 18], some (15, false)⟩, ⟨some 20, .bin .neq (.t 19) (.c (.int .i64 0)), some (15, false)⟩, ⟨some 21, .pick (.t 15) (.c (.bool true)) (.t 20), none⟩, ⟨some 22, .mv (.t 21), none⟩, ⟨some 23, .mv (.t 1), some (22, false)⟩, ⟨some 24, .buildSl 1 1 [.int .i64 0] [(0, (1, .c (.int .i64 3)))], some (22, false)⟩, ⟨some 25, .call 21 [.t 23, .t 24], some (22, false)⟩, ⟨some 26, .bin .neq (.t 25) (.c (.int .i64 0)), some (22, false)⟩, ⟨some 27, .pick (.t 22) (.c (.bool true)) (.t 26), none⟩, ⟨some 28, .mv (.t 27), none⟩, ⟨some 29, .mv (.t 1), some (28, false)⟩, ⟨some 30, .call 22 [.t 29], some (28, false)⟩, ⟨some 31, .bin .neq (.t 30) (.c (.int .i64 0)), some (28, false)⟩, ⟨some 32, .pick (.t 28) (.c (.bool true)) (.t 31), none⟩]
def p16_4 : List Vm.Op := [⟨some 0, .mv (.c (.bool false)), none⟩]
def p16_5 : List Vm.Op := [⟨some 34, .mv (.t 1), none⟩, ⟨some 35, .call 23 [.t 34, .c (.int .i64 0)], none⟩, ⟨some 33, .mv (.t 35), none⟩, ⟨some 36, .ext 0 (.t 33), none⟩, ⟨some 37, .ext 1 (.t 33), none⟩, ⟨some 3, .mv (.t 36), none⟩, ⟨some 4, .mv (.t 37), none⟩]
def p16_6 : List Vm.Op := [⟨some 38, .mv (.t 4), none⟩, ⟨some 39, .bin .eql (.t 38) (.c (.int .i64 0)), none⟩, ⟨some 40, .mv (.t 39), none⟩, ⟨some 41, .mv (.t 3), some (40, true)⟩, ⟨some 42, .len .sl (.t 41), some (40, true)⟩, ⟨some 43, .bin .eql (.t 42) (.c (.int .i64 64)), some (40, true)⟩, ⟨some 44, .pick (.t 40) (.t 43) (.c (.bool false)), none⟩, ⟨some 45, .mv (.t 44), none⟩, ⟨some 46, .mv (.t 3), some (45, true)⟩, ⟨some 47, .iaSl 1 (.t 46) (.c (.int .i64 2)), some (45, true)⟩, ⟨some 48, .load false 1 (.t 47), some (45, true)⟩, ⟨some 49, .bin .eql (.t 48) (.c (.int .u8 7)), some (45, true)⟩, ⟨some 50, .pick (.t 45) (.t 49) (.c (.bool false)), none⟩, ⟨some 51, .mv (.t 50), none⟩, ⟨some 52, .mv (.t 3), some (51, true)⟩, ⟨some 53, .iaSl 1 (.t 52) (.c (.int .i64 3)), some (51, true)⟩, ⟨some 54, .load false 1 (.t 53), some (51, true)⟩, ⟨some 55, .bin .eql (.t 54) (.c (.int .u8 0)), some (51, true)⟩, ⟨some 56, .pick (.t 51) (.t 55) (.c (.bool false)), none⟩, ⟨some 0, .mv (.t 56), none⟩]
def code16 : C := .seq (.ops p16_1) (.seq (.ops p16_2) (.seq (.seq (.ops p16_3) (.cond (.t 32) (.seq (.ops p16_4) .ret) .skip)) (.seq (.ops p16_5) (.seq (.ops p16_6) .ret))))
def base16 : FnI := ⟨57, 0, code16, [.tmp 0], .raw⟩
/-! (*cubby/disk.Disk).Write -/
def p17_1 : List Vm.Op := [⟨some 6, .mv (.c (.int .i64 0)), none⟩]
def p17_2 : List Vm.Op := [⟨some 8, .mv (.t 0), none⟩, ⟨some 9, .call 68 [.t 8], none⟩, ⟨some 7, .mv (.t 9), none⟩]
def p17_3 : List Vm.Op := [⟨some 10, .mv (.t 7), none⟩, ⟨some 11, .bin .neq (.t 10) (.c (.int .i64 0)), none⟩]
def p17_4 : List Vm.Op := [⟨some 12, .mv (.t 7), none⟩, ⟨some 6, .mv (.t 12), none⟩]
def p17_5 : List Vm.Op := [⟨some 13, .mv (.t 1), none⟩, ⟨some 14, .bin .lss (.t 13) (.c (.int .i64 0)), none⟩, ⟨some 15, .mv (.t 14), none⟩, ⟨some 16, .mv (.t 1), some (15, false)⟩, ⟨some 17, .mv (.t 0), some (15, false)⟩, ⟨some 18, .nilCk (.t 17), some (15, false)⟩, ⟨some 19, .faddr 0 (.t 18), some (15, false)⟩, ⟨some 20, .load false 1 (.t 19), some (15, false)⟩, ⟨some 21, .len .sl (.t 20), some (15, false)⟩, ⟨some 22, .bin .geq (.t 16) (.t 21), some (15, false)⟩, ⟨some 23, .pick (.t 15) (.c (.bool true)) (.t 22), none⟩, ⟨some 24, .mv (.t 23), none⟩, ⟨some 25, .mv (.t 2), some (24, false)⟩, ⟨some 26, .len .sl (.t 25), some (24, false)⟩, ⟨some 27, .bin .neq (.t 26) (.c (.int .i64 64)), some (24, false)⟩, ⟨some 28, .pick (.t 24) (.c (.bool true)) (.t 27), none⟩]
def p17_6 : List Vm.Op := [⟨some 6, .mv (.c (.int .i64 1)), none⟩]
def d17_7 : List Vm.DOp := [⟨⟨some 29, .mv (.t 0), none⟩, []⟩, ⟨⟨some 30, .mv (.t 0), none⟩, []⟩, ⟨⟨some 31, .nilCk (.t 30), none⟩, [1]⟩, ⟨⟨some 32, .faddr 1 (.t 31), none⟩, [1, 2]⟩, ⟨⟨some 33, .load false 1 (.t 32), none⟩, [2, 1, 3]⟩, ⟨⟨some 34, .mv (.t 1), none⟩, []⟩, ⟨⟨some 35, .mv (.t 2), none⟩, []⟩, ⟨⟨some 36, .arrOf 64 1 (.t 35), none⟩, [6]⟩, ⟨⟨some 37, .load true 64 (.t 36), none⟩, [6, 7]⟩, ⟨⟨some 38, .build ([.int .i64 0] ++ List.replicate 64 (.int .u8 0)) [(0, (1, .t 34)), (1, (64, .t 37))], none⟩, [7, 6, 8, 5]⟩, ⟨⟨some 39, .buildSl 1 65 ([.int .i64 0] ++ List.replicate 64 (.int .u8 0)) [(0, (65, .t 38))], none⟩, [5, 8, 6, 7, 9]⟩, ⟨⟨some 40, .append 65 72 (.t 33) (.t 39), none⟩, [9, 7, 6, 8, 5, 10, 3, 1, 2, 4]⟩, ⟨⟨some 41, .nilCk (.t 29), none⟩, [11, 10, 9, 8, 7, 6, 5, 4, 3, 2, 1, 0]⟩, ⟨⟨some 42, .faddr 1 (.t 41), none⟩, [0, 1, 2, 3, 4, 5, 6, 7, 8, 9, 10, 11, 12]⟩, ⟨⟨none, .store 1 (.t 42) (.t 40), none⟩, [12, 11, 10, 9, 8, 7, 6, 5, 4, 3, 2, 1, 0, 13]⟩]
def p17_8 : List Vm.Op := [⟨some 43, .mv (.t 0), none⟩, ⟨some 44, .call 69 [.t 43], none⟩]
def p17_9 : List Vm.Op := [⟨some 6, .mv (.c (.int .i64 3)), none⟩]
def p17_10 : List Vm.Op := [⟨some 6, .mv (.c (.int .i64 0)), none⟩]
theorem okd_d17_7 (T : Table) : drawOk T d17_7 = true := rfl
theorem str_d17_7 (T : Table) : strays T d17_7 = [(4, 11)] := rfl
def code17 : C := .seq (.ops p17_1) (.seq (.seq (.ops p17_2) (.seq (.ops p17_3) (.cond (.t 11) (.seq (.ops p17_4) .ret) .skip))) (.seq (.seq (.ops p17_5) (.cond (.t 28) (.seq (.ops p17_6) .ret) .skip)) (.seq (.draw d17_7) (.seq (.seq (.ops p17_8) (.cond (.t 44) (.seq (.ops p17_9) .ret) .skip)) (.seq (.ops p17_10) .ret)))))
def base17 : FnI := ⟨45, 3, code17, [.tmp 6], .raw⟩
/-! cubby/cubbylaw02.Sector -/
def p18_1 : List Vm.Op := [⟨some 2, .mv (.c .nilsl), none⟩]
def p18_2 : List Vm.Op := [⟨some 5, .makeSl 1 1 [.int .u8 0] (.c (.int .i64 64)) (.c (.int .i64 64)), none⟩, ⟨some 3, .mv (.t 5), none⟩]
def p18_3 : List Vm.Op := [⟨some 4, .mv (.c (.int .i64 0)), none⟩]
def p18_4 : List Vm.Op := [⟨some 6, .mv (.t 4), none⟩, ⟨some 7, .mv (.t 3), none⟩, ⟨some 8, .len .sl (.t 7), none⟩, ⟨some 9, .bin .lss (.t 6) (.t 8), none⟩, ⟨some 10, .mv (.t 9), none⟩, ⟨some 11, .mv (.t 0), some (10, true)⟩, ⟨some 12, .len .sl (.t 11), some (10, true)⟩, ⟨some 13, .bin .gtr (.t 12) (.c (.int .i64 0)), some (10, true)⟩, ⟨some 14, .pick (.t 10) (.t 13) (.c (.bool false)), none⟩]
def p18_5 : List Vm.Op := [⟨some 17, .mv (.t 3), none⟩, ⟨some 18, .mv (.t 4), none⟩, ⟨some 19, .mv (.t 0), none⟩, ⟨some 20, .mv (.t 4), none⟩, ⟨some 21, .mv (.t 0), none⟩, ⟨some 22, .len .sl (.t 21), none⟩, ⟨some 23, .bin .rem (.t 20) (.t 22), none⟩, ⟨some 24, .iaSl 1 (.t 19) (.t 23), none⟩, ⟨some 25, .load false 1 (.t 24), none⟩, ⟨some 26, .iaSl 1 (.t 17) (.t 18), none⟩, ⟨none, .store 1 (.t 26) (.t 25), none⟩]
def p18_6 : List Vm.Op := [⟨some 15, .mv (.t 4), none⟩, ⟨some 16, .bin .add (.t 15) (.c (.int .i64 1)), none⟩, ⟨some 4, .mv (.t 16), none⟩]
def l18_7 : C := .seq (.seq (.ops p18_4) (.cond (.t 14) .skip (.exit 0))) (.seq (.block 1 (.ops p18_5)) (.ops p18_6))
def p18_8 : List Vm.Op := [⟨some 27, .mv (.t 3), none⟩, ⟨some 2, .mv (.t 27), none⟩]
def code18 : C := .seq (.ops p18_1) (.seq (.ops p18_2) (.seq (.seq (.ops p18_3) (.block 0 (.loop l18_7))) (.seq (.ops p18_8) .ret)))
def base18 : FnI := ⟨28, 1, code18, [.tmp 2], .raw⟩
/-! (*cubby/disk.Disk).Flush -/
def p19_1 : List Vm.Op := [⟨some 2, .mv (.c (.int .i64 0)), none⟩]
def p19_2 : List Vm.Op := [⟨some 6, .mv (.t 0), none⟩, ⟨some 7, .call 68 [.t 6], none⟩, ⟨some 3, .mv (.t 7), none⟩]
def p19_3 : List Vm.Op := [⟨some 8, .mv (.t 3), none⟩, ⟨some 9, .bin .neq (.t 8) (.c (.int .i64 0)), none⟩]
def p19_4 : List Vm.Op := [⟨some 10, .mv (.t 3), none⟩, ⟨some 2, .mv (.t 10), none⟩]
def p19_5 : List Vm.Op := [⟨some 11, .mv (.t 0), none⟩, ⟨some 12, .call 69 [.t 11], none⟩]
def p19_6 : List Vm.Op := [⟨some 2, .mv (.c (.int .i64 3)), none⟩]
def p19_7 : List Vm.Op := [⟨some 13, .mv (.t 0), none⟩, ⟨some 14, .nilCk (.t 13), none⟩, ⟨some 15, .faddr 1 (.t 14), none⟩, ⟨some 16, .load false 1 (.t 15), none⟩, ⟨some 17, .len .sl (.t 16), none⟩, ⟨some 18, .mv (.c (.int .i64 0)), none⟩]
def p19_8 : List Vm.Op := [⟨some 19, .bin .lss (.t 18) (.t 17), none⟩]
def p19_9 : List Vm.Op := [⟨some 20, .iaSl 65 (.t 16) (.t 18), none⟩, ⟨some 21, .load true 65 (.t 20), none⟩, ⟨some 5, .alloc ([.int .i64 0] ++ List.replicate 64 (.int .u8 0)), none⟩, ⟨none, .store 65 (.t 5) (.t 21), none⟩]
def d19_10 : List Vm.DOp := [⟨⟨some 22, .mv (.t 0), none⟩, []⟩, ⟨⟨some 23, .nilCk (.t 22), none⟩, [0]⟩, ⟨⟨some 24, .faddr 0 (.t 23), none⟩, [0, 1]⟩, ⟨⟨some 25, .load false 1 (.t 24), none⟩, [1, 0, 2]⟩, ⟨⟨some 26, .faddr 0 (.t 5), none⟩, []⟩, ⟨⟨some 27, .load false 1 (.t 26), none⟩, [4]⟩, ⟨⟨some 28, .faddr 1 (.t 5), none⟩, []⟩, ⟨⟨some 29, .load true 64 (.t 28), none⟩, [6]⟩, ⟨⟨some 30, .iaSl 64 (.t 25) (.t 27), none⟩, [7, 6, 4, 5, 2, 0, 1, 3]⟩, ⟨⟨none, .store 64 (.t 30) (.t 29), none⟩, [3, 1, 0, 2, 5, 4, 6, 7, 8]⟩]
def p19_11 : List Vm.Op := [⟨some 31, .bin .add (.t 18) (.c (.int .i64 1)), none⟩, ⟨some 18, .mv (.t 31), none⟩]
def l19_12 : C := .seq (.ops p19_8) (.seq (.cond (.t 19) .skip (.exit 0)) (.seq (.block 1 (.seq (.ops p19_9) (.draw d19_10))) (.ops p19_11)))
def p19_13 : List Vm.Op := [⟨some 32, .mv (.t 0), none⟩, ⟨some 33, .nilCk (.t 32), none⟩, ⟨some 34, .faddr 1 (.t 33), none⟩, ⟨none, .store 1 (.t 34) (.c .nilsl), none⟩]
def p19_14 : List Vm.Op := [⟨some 2, .mv (.c (.int .i64 0)), none⟩]
theorem seq_d19_10 (T : Table) : drawSeq T d19_10 = true := rfl
def e19_10 : List Vm.Op := [⟨some 22, .mv (.t 0), none⟩, ⟨some 23, .nilCk (.t 22), none⟩, ⟨some 24, .faddr 0 (.t 23), none⟩, ⟨some 25, .load false 1 (.t 24), none⟩, ⟨some 26, .faddr 0 (.t 5), none⟩, ⟨some 27, .load false 1 (.t 26), none⟩, ⟨some 28, .faddr 1 (.t 5), none⟩, ⟨some 29, .load true 64 (.t 28), none⟩, ⟨some 30, .iaSl 64 (.t 25) (.t 27), none⟩, ⟨none, .store 64 (.t 30) (.t 29), none⟩]
theorem go_d19_10 (T : Table) (ρ : Env) (σ : St) : run T (.draw d19_10) ρ σ = drawOut T d19_10 ρ σ (opsEv (ev T) e19_10 ρ σ) := drawn (seq_d19_10 T) ρ σ
def code19 : C := .seq (.ops p19_1) (.seq (.seq (.ops p19_2) (.seq (.ops p19_3) (.cond (.t 9) (.seq (.ops p19_4) .ret) .skip))) (.seq (.seq (.ops p19_5) (.cond (.t 12) (.seq (.ops p19_6) .ret) .skip)) (.seq (.seq (.ops p19_7) (.block 0 (.loop l19_12))) (.seq (.ops p19_13) (.seq (.ops p19_14) .ret)))))
def base19 : FnI := ⟨35, 1, code19, [.tmp 2], .raw⟩
/-! (*cubby/disk.Disk).Waiting -/
def p20_1 : List Vm.Op := [⟨some 2, .mv (.c (.int .i64 0)), none⟩]
def p20_2 : List Vm.Op := [⟨some 3, .mv (.t 0), none⟩, ⟨some 4, .eq false (.nil .p) (.t 3) (.c .nilp), none⟩]
def p20_3 : List Vm.Op := [⟨some 2, .mv (.c (.int .i64 0)), none⟩]
def p20_4 : List Vm.Op := [⟨some 5, .mv (.t 0), none⟩, ⟨some 6, .nilCk (.t 5), none⟩, ⟨some 7, .faddr 1 (.t 6), none⟩, ⟨some 8, .load false 1 (.t 7), none⟩, ⟨some 9, .len .sl (.t 8), none⟩, ⟨some 2, .mv (.t 9), none⟩]
def code20 : C := .seq (.ops p20_1) (.seq (.seq (.ops p20_2) (.cond (.t 4) (.seq (.ops p20_3) .ret) .skip)) (.seq (.ops p20_4) .ret))
def base20 : FnI := ⟨10, 1, code20, [.tmp 2], .raw⟩
/-! (*cubby/disk.Disk).Crash -/
def p21_1 : List Vm.Op := [⟨some 4, .mv (.c (.int .i64 0)), none⟩]
def p21_2 : List Vm.Op := [⟨some 8, .mv (.t 0), none⟩, ⟨some 9, .eq false (.nil .p) (.t 8) (.c .nilp), none⟩]
def p21_3 : List Vm.Op := [⟨some 4, .mv (.c (.int .i64 2)), none⟩]
def p21_4 : List Vm.Op := [⟨some 10, .mv (.t 0), none⟩, ⟨some 11, .nilCk (.t 10), none⟩, ⟨some 12, .faddr 2 (.t 11), none⟩, ⟨none, .store 1 (.t 12) (.c (.bool true)), none⟩]
def p21_5 : List Vm.Op := [⟨some 13, .mv (.t 0), none⟩, ⟨some 14, .nilCk (.t 13), none⟩, ⟨some 15, .faddr 1 (.t 14), none⟩, ⟨some 16, .load false 1 (.t 15), none⟩, ⟨some 17, .len .sl (.t 16), none⟩, ⟨some 18, .mv (.c (.int .i64 0)), none⟩]
def p21_6 : List Vm.Op := [⟨some 19, .bin .lss (.t 18) (.t 17), none⟩]
def p21_7 : List Vm.Op := [⟨some 20, .mv (.t 18), none⟩, ⟨some 21, .iaSl 65 (.t 16) (.t 18), none⟩, ⟨some 22, .load true 65 (.t 21), none⟩, ⟨some 6, .alloc ([.int .i64 0] ++ List.replicate 64 (.int .u8 0)), none⟩, ⟨some 5, .mv (.t 20), none⟩, ⟨none, .store 65 (.t 6) (.t 22), none⟩]
def p21_8 : List Vm.Op := [⟨some 7, .mv (.c (.int .i64 0)), none⟩]
def p21_9 : List Vm.Op := [⟨some 23, .mv (.t 5), none⟩, ⟨some 24, .mv (.t 1), none⟩, ⟨some 25, .len .sl (.t 24), none⟩, ⟨some 26, .bin .lss (.t 23) (.t 25), none⟩]
def p21_10 : List Vm.Op := [⟨some 27, .mv (.t 1), none⟩, ⟨some 28, .mv (.t 5), none⟩, ⟨some 29, .iaSl 1 (.t 27) (.t 28), none⟩, ⟨some 30, .load false 1 (.t 29), none⟩, ⟨some 31, .minmax true [.t 30, .c (.int .i64 0)], none⟩, ⟨some 32, .minmax false [.t 31, .c (.int .i64 64)], none⟩, ⟨some 7, .mv (.t 32), none⟩]
def d21_11 : List Vm.DOp := [⟨⟨some 33, .mv (.t 0), none⟩, []⟩, ⟨⟨some 34, .nilCk (.t 33), none⟩, [0]⟩, ⟨⟨some 35, .faddr 0 (.t 34), none⟩, [0, 1]⟩, ⟨⟨some 36, .load false 1 (.t 35), none⟩, [1, 0, 2]⟩, ⟨⟨some 37, .faddr 0 (.t 6), none⟩, []⟩, ⟨⟨some 38, .load false 1 (.t 37), none⟩, [4]⟩, ⟨⟨some 39, .iaSl 64 (.t 36) (.t 38), none⟩, [4, 5, 2, 0, 1, 3]⟩, ⟨⟨some 40, .mv (.t 7), none⟩, []⟩, ⟨⟨some 41, .slArr 64 1 (.t 39) none (some (.t 40)) none, none⟩, [7, 3, 1, 0, 2, 5, 4, 6]⟩, ⟨⟨some 42, .faddr 1 (.t 6), none⟩, []⟩, ⟨⟨some 43, .mv (.t 7), none⟩, []⟩, ⟨⟨some 44, .slArr 64 1 (.t 42) none (some (.t 43)) none, none⟩, [10, 9]⟩, ⟨⟨some 45, .copy 1 (.t 41) (.t 44), none⟩, [9, 10, 11, 6, 4, 5, 2, 0, 1, 3, 7, 8]⟩]
def p21_12 : List Vm.Op := [⟨some 46, .bin .add (.t 18) (.c (.int .i64 1)), none⟩, ⟨some 18, .mv (.t 46), none⟩]
def l21_13 : C := .seq (.ops p21_6) (.seq (.cond (.t 19) .skip (.exit 0)) (.seq (.block 1 (.seq (.ops p21_7) (.seq (.ops p21_8) (.seq (.seq (.ops p21_9) (.cond (.t 26) (.ops p21_10) .skip)) (.draw d21_11))))) (.ops p21_12)))
def p21_14 : List Vm.Op := [⟨some 47, .mv (.t 0), none⟩, ⟨some 48, .nilCk (.t 47), none⟩, ⟨some 49, .faddr 1 (.t 48), none⟩, ⟨none, .store 1 (.t 49) (.c .nilsl), none⟩]
def p21_15 : List Vm.Op := [⟨some 4, .mv (.c (.int .i64 0)), none⟩]
theorem seq_d21_11 (T : Table) : drawSeq T d21_11 = true := rfl
def e21_11 : List Vm.Op := [⟨some 33, .mv (.t 0), none⟩, ⟨some 34, .nilCk (.t 33), none⟩, ⟨some 35, .faddr 0 (.t 34), none⟩, ⟨some 36, .load false 1 (.t 35), none⟩, ⟨some 37, .faddr 0 (.t 6), none⟩, ⟨some 38, .load false 1 (.t 37), none⟩, ⟨some 39, .iaSl 64 (.t 36) (.t 38), none⟩, ⟨some 40, .mv (.t 7), none⟩, ⟨some 41, .slArr 64 1 (.t 39) none (some (.t 40)) none, none⟩, ⟨some 42, .faddr 1 (.t 6), none⟩, ⟨some 43, .mv (.t 7), none⟩, ⟨some 44, .slArr 64 1 (.t 42) none (some (.t 43)) none, none⟩, ⟨some 45, .copy 1 (.t 41) (.t 44), none⟩]
theorem go_d21_11 (T : Table) (ρ : Env) (σ : St) : run T (.draw d21_11) ρ σ = drawOut T d21_11 ρ σ (opsEv (ev T) e21_11 ρ σ) := drawn (seq_d21_11 T) ρ σ
def code21 : C := .seq (.ops p21_1) (.seq (.seq (.ops p21_2) (.cond (.t 9) (.seq (.ops p21_3) .ret) .skip)) (.seq (.ops p21_4) (.seq (.seq (.ops p21_5) (.block 0 (.loop l21_13))) (.seq (.ops p21_14) (.seq (.ops p21_15) .ret)))))
def base21 : FnI := ⟨50, 2, code21, [.tmp 4], .raw⟩
/-! (*cubby/disk.Disk).Start -/
def p22_1 : List Vm.Op := [⟨some 2, .mv (.c (.int .i64 0)), none⟩]
def p22_2 : List Vm.Op := [⟨some 3, .mv (.t 0), none⟩, ⟨some 4, .eq false (.nil .p) (.t 3) (.c .nilp), none⟩]
def p22_3 : List Vm.Op := [⟨some 2, .mv (.c (.int .i64 2)), none⟩]
def p22_4 : List Vm.Op := [⟨some 5, .mv (.t 0), none⟩, ⟨some 6, .nilCk (.t 5), none⟩, ⟨some 7, .faddr 3 (.t 6), none⟩, ⟨none, .store 1 (.t 7) (.c (.int .i64 0)), none⟩]
def p22_5 : List Vm.Op := [⟨some 8, .mv (.t 0), none⟩, ⟨some 9, .nilCk (.t 8), none⟩, ⟨some 10, .faddr 2 (.t 9), none⟩, ⟨some 11, .load false 1 (.t 10), none⟩]
def p22_6 : List Vm.Op := [⟨some 12, .mv (.t 0), none⟩, ⟨some 13, .mv (.t 0), none⟩, ⟨some 14, .nilCk (.t 12), none⟩, ⟨some 15, .faddr 2 (.t 14), none⟩, ⟨none, .store 1 (.t 15) (.c (.bool false)), none⟩, ⟨some 16, .nilCk (.t 13), none⟩, ⟨some 17, .faddr 1 (.t 16), none⟩, ⟨none, .store 1 (.t 17) (.c .nilsl), none⟩]
def p22_7 : List Vm.Op := [⟨some 2, .mv (.c (.int .i64 0)), none⟩]
def code22 : C := .seq (.ops p22_1) (.seq (.seq (.ops p22_2) (.cond (.t 4) (.seq (.ops p22_3) .ret) .skip)) (.seq (.ops p22_4) (.seq (.seq (.ops p22_5) (.cond (.t 11) (.ops p22_6) .skip)) (.seq (.ops p22_7) .ret))))
def base22 : FnI := ⟨18, 1, code22, [.tmp 2], .raw⟩
/-! (*cubby/disk.Disk).Read -/
def p23_1 : List Vm.Op := [⟨some 4, .mv (.c .nilsl), none⟩, ⟨some 5, .mv (.c (.int .i64 0)), none⟩]
def p23_2 : List Vm.Op := [⟨some 10, .mv (.t 0), none⟩, ⟨some 11, .call 68 [.t 10], none⟩, ⟨some 6, .mv (.t 11), none⟩]
def p23_3 : List Vm.Op := [⟨some 12, .mv (.t 6), none⟩, ⟨some 13, .bin .neq (.t 12) (.c (.int .i64 0)), none⟩]
def p23_4 : List Vm.Op := [⟨some 14, .mv (.t 6), none⟩, ⟨some 4, .mv (.c .nilsl), none⟩, ⟨some 5, .mv (.t 14), none⟩]
def p23_5 : List Vm.Op := [⟨some 15, .mv (.t 1), none⟩, ⟨some 16, .bin .lss (.t 15) (.c (.int .i64 0)), none⟩, ⟨some 17, .mv (.t 16), none⟩, ⟨some 18, .mv (.t 1), some (17, false)⟩, ⟨some 19, .mv (.t 0), some (17, false)⟩, ⟨some 20, .nilCk (.t 19), some (17, false)⟩, ⟨some 21, .faddr 0 (.t 20), some (17, false)⟩, ⟨some 22, .load false 1 (.t 21), some (17, false)⟩, ⟨some 23, .len .sl (.t 22), some (17, false)⟩, ⟨some 24, .bin .geq (.t 18) (.t 23), some (17, false)⟩, ⟨some 25, .pick (.t 17) (.c (.bool true)) (.t 24), none⟩]
def p23_6 : List Vm.Op := [⟨some 4, .mv (.c .nilsl), none⟩, ⟨some 5, .mv (.c (.int .i64 1)), none⟩]
def p23_7 : List Vm.Op := [⟨some 26, .mv (.t 0), none⟩, ⟨some 27, .nilCk (.t 26), none⟩, ⟨some 28, .faddr 0 (.t 27), none⟩, ⟨some 29, .load false 1 (.t 28), none⟩, ⟨some 30, .mv (.t 1), none⟩, ⟨some 31, .iaSl 64 (.t 29) (.t 30), none⟩, ⟨some 32, .load true 64 (.t 31), none⟩, ⟨some 7, .alloc (List.replicate 64 (.int .u8 0)), none⟩, ⟨none, .store 64 (.t 7) (.t 32), none⟩]
def p23_8 : List Vm.Op := [⟨some 33, .mv (.t 0), none⟩, ⟨some 34, .nilCk (.t 33), none⟩, ⟨some 35, .faddr 1 (.t 34), none⟩, ⟨some 36, .load false 1 (.t 35), none⟩, ⟨some 37, .len .sl (.t 36), none⟩, ⟨some 38, .mv (.c (.int .i64 0)), none⟩]
def p23_9 : List Vm.Op := [⟨some 39, .bin .lss (.t 38) (.t 37), none⟩]
def p23_10 : List Vm.Op := [⟨some 40, .iaSl 65 (.t 36) (.t 38), none⟩, ⟨some 41, .load true 65 (.t 40), none⟩, ⟨some 9, .alloc ([.int .i64 0] ++ List.replicate 64 (.int .u8 0)), none⟩, ⟨none, .store 65 (.t 9) (.t 41), none⟩]
def p23_11 : List Vm.Op := [⟨some 42, .faddr 0 (.t 9), none⟩, ⟨some 43, .load false 1 (.t 42), none⟩, ⟨some 44, .mv (.t 1), none⟩, ⟨some 45, .bin .eql (.t 43) (.t 44), none⟩]
def p23_12 : List Vm.Op := [⟨some 46, .faddr 1 (.t 9), none⟩, ⟨some 47, .load true 64 (.t 46), none⟩, ⟨none, .store 64 (.t 7) (.t 47), none⟩]
def p23_13 : List Vm.Op := [⟨some 48, .bin .add (.t 38) (.c (.int .i64 1)), none⟩, ⟨some 38, .mv (.t 48), none⟩]
def l23_14 : C := .seq (.ops p23_9) (.seq (.cond (.t 39) .skip (.exit 0)) (.seq (.block 1 (.seq (.ops p23_10) (.seq (.ops p23_11) (.cond (.t 45) (.ops p23_12) .skip)))) (.ops p23_13)))
def p23_15 : List Vm.Op := [⟨some 49, .slArr 64 1 (.t 7) none none none, none⟩, ⟨some 4, .mv (.t 49), none⟩, ⟨some 5, .mv (.c (.int .i64 0)), none⟩]
def code23 : C := .seq (.ops p23_1) (.seq (.seq (.ops p23_2) (.seq (.ops p23_3) (.cond (.t 13) (.seq (.ops p23_4) .ret) .skip))) (.seq (.seq (.ops p23_5) (.cond (.t 25) (.seq (.ops p23_6) .ret) .skip)) (.seq (.ops p23_7) (.seq (.seq (.ops p23_8) (.block 0 (.loop l23_14))) (.seq (.ops p23_15) .ret)))))
def base23 : FnI := ⟨50, 2, code23, [.tmp 4, .tmp 5], .raw⟩
/-! cubby/cubbyhelp.Bytes -/
def p24_1 : List Vm.Op := [⟨some 4, .mv (.c (.bool false)), none⟩]
def p24_2 : List Vm.Op := [⟨some 5, .mv (.t 0), none⟩, ⟨some 6, .strOf (.t 5), none⟩, ⟨some 7, .mv (.t 1), none⟩, ⟨some 8, .strOf (.t 7), none⟩, ⟨some 9, .bin .eql (.t 6) (.t 8), none⟩, ⟨some 4, .mv (.t 9), none⟩]
def code24 : C := .seq (.ops p24_1) (.seq (.ops p24_2) .ret)
def base24 : FnI := ⟨10, 2, code24, [.tmp 4], .raw⟩
/-! cubby/cubbyref02.New -/
def p25_1 : List Vm.Op := [⟨some 2, .mv (.c .nilp), none⟩]
def p25_2 : List Vm.Op := [⟨some 3, .mv (.t 0), none⟩, ⟨some 4, .makeSl 64 64 (List.replicate 64 (.int .u8 0)) (.t 3) (.t 3), none⟩, ⟨some 5, .build [.nilsl, .nilsl, .int .i64 0, .bool false] [(0, (1, .t 4))], none⟩, ⟨some 6, .box (.t 5), none⟩, ⟨some 2, .mv (.t 6), none⟩]
def code25 : C := .seq (.ops p25_1) (.seq (.ops p25_2) .ret)
def base25 : FnI := ⟨7, 1, code25, [.tmp 2], .raw⟩
/-! (*cubby/cubbyref02.Disk).Read -/
def p26_1 : List Vm.Op := [⟨some 4, .mv (.c .nilsl), none⟩, ⟨some 5, .mv (.c (.int .i64 0)), none⟩]
def p26_2 : List Vm.Op := [⟨some 7, .mv (.t 0), none⟩, ⟨some 8, .nilCk (.t 7), none⟩, ⟨some 9, .faddr 3 (.t 8), none⟩, ⟨some 10, .load false 1 (.t 9), none⟩]
def p26_3 : List Vm.Op := [⟨some 4, .mv (.c .nilsl), none⟩, ⟨some 5, .mv (.c (.int .i64 3)), none⟩]
def p26_4 : List Vm.Op := [⟨some 11, .mv (.t 1), none⟩, ⟨some 12, .bin .lss (.t 11) (.c (.int .i64 0)), none⟩, ⟨some 13, .mv (.t 12), none⟩, ⟨some 14, .mv (.t 1), some (13, false)⟩, ⟨some 15, .mv (.t 0), some (13, false)⟩, ⟨some 16, .nilCk (.t 15), some (13, false)⟩, ⟨some 17, .faddr 0 (.t 16), some (13, false)⟩, ⟨some 18, .load false 1 (.t 17), some (13, false)⟩, ⟨some 19, .len .sl (.t 18), some (13, false)⟩, ⟨some 20, .bin .geq (.t 14) (.t 19), some (13, false)⟩, ⟨some 21, .pick (.t 13) (.c (.bool true)) (.t 20), none⟩]
def p26_5 : List Vm.Op := [⟨some 4, .mv (.c .nilsl), none⟩, ⟨some 5, .mv (.c (.int .i64 1)), none⟩]
def p26_6 : List Vm.Op := [⟨some 22, .mv (.t 0), none⟩, ⟨some 23, .mv (.t 1), none⟩, ⟨some 24, .call 70 [.t 22, .t 23], none⟩, ⟨some 6, .alloc (List.replicate 64 (.int .u8 0)), none⟩, ⟨none, .store 64 (.t 6) (.t 24), none⟩]
def p26_7 : List Vm.Op := [⟨some 25, .slArr 64 1 (.t 6) none none none, none⟩, ⟨some 26, .append 1 1 (.c .nilsl) (.t 25), none⟩, ⟨some 4, .mv (.t 26), none⟩, ⟨some 5, .mv (.c (.int .i64 0)), none⟩]
def code26 : C := .seq (.ops p26_1) (.seq (.seq (.ops p26_2) (.cond (.t 10) (.seq (.ops p26_3) .ret) .skip)) (.seq (.seq (.ops p26_4) (.cond (.t 21) (.seq (.ops p26_5) .ret) .skip)) (.seq (.ops p26_6) (.seq (.ops p26_7) .ret))))
def base26 : FnI := ⟨27, 2, code26, [.tmp 4, .tmp 5], .raw⟩
/-! cubby/cubbyhelp.Spoil -/
def p27_1 : List Vm.Op := [⟨some 2, .mv (.c (.int .i64 0)), none⟩]
def p27_2 : List Vm.Op := [⟨some 3, .mv (.t 2), none⟩, ⟨some 4, .mv (.t 0), none⟩, ⟨some 5, .len .sl (.t 4), none⟩, ⟨some 6, .bin .lss (.t 3) (.t 5), none⟩]
def p27_3 : List Vm.Op := [⟨some 9, .mv (.t 0), none⟩, ⟨some 10, .mv (.t 2), none⟩, ⟨some 11, .mv (.t 0), none⟩, ⟨some 12, .mv (.t 2), none⟩, ⟨some 13, .iaSl 1 (.t 11) (.t 12), none⟩, ⟨some 14, .load false 1 (.t 13), none⟩, ⟨some 15, .bin .xor (.t 14) (.c (.int .u8 85)), none⟩, ⟨some 16, .iaSl 1 (.t 9) (.t 10), none⟩, ⟨none, .store 1 (.t 16) (.t 15), none⟩]
def p27_4 : List Vm.Op := [⟨some 7, .mv (.t 2), none⟩, ⟨some 8, .bin .add (.t 7) (.c (.int .i64 1)), none⟩, ⟨some 2, .mv (.t 8), none⟩]
def l27_5 : C := .seq (.seq (.ops p27_2) (.cond (.t 6) .skip (.exit 0))) (.seq (.block 1 (.ops p27_3)) (.ops p27_4))
def code27 : C := .seq (.ops p27_1) (.block 0 (.loop l27_5))
def base27 : FnI := ⟨17, 1, code27, [], .raw⟩
/-! (*cubby/cubbyref02.Disk).Flush -/
def p28_1 : List Vm.Op := [⟨some 2, .mv (.c (.int .i64 0)), none⟩]
def p28_2 : List Vm.Op := [⟨some 4, .mv (.t 0), none⟩, ⟨some 5, .nilCk (.t 4), none⟩, ⟨some 6, .faddr 3 (.t 5), none⟩, ⟨some 7, .load false 1 (.t 6), none⟩, ⟨some 8, .mv (.t 7), none⟩, ⟨some 9, .mv (.t 0), some (8, false)⟩, ⟨some 10, .call 71 [.t 9], some (8, false)⟩, ⟨some 11, .pick (.t 8) (.c (.bool true)) (.t 10), none⟩]
def p28_3 : List Vm.Op := [⟨some 2, .mv (.c (.int .i64 3)), none⟩]
def p28_4 : List Vm.Op := [⟨some 3, .mv (.c (.int .i64 0)), none⟩]
def p28_5 : List Vm.Op := [⟨some 12, .mv (.t 3), none⟩, ⟨some 13, .mv (.t 0), none⟩, ⟨some 14, .nilCk (.t 13), none⟩, ⟨some 15, .faddr 1 (.t 14), none⟩, ⟨some 16, .load false 1 (.t 15), none⟩, ⟨some 17, .len .sl (.t 16), none⟩, ⟨some 18, .bin .lss (.t 12) (.t 17), none⟩]
def d28_6 : List Vm.DOp := [⟨⟨some 21, .mv (.t 0), none⟩, []⟩, ⟨⟨some 22, .nilCk (.t 21), none⟩, [0]⟩, ⟨⟨some 23, .faddr 0 (.t 22), none⟩, [0, 1]⟩, ⟨⟨some 24, .load false 1 (.t 23), none⟩, [1, 0, 2]⟩, ⟨⟨some 25, .mv (.t 0), none⟩, []⟩, ⟨⟨some 26, .nilCk (.t 25), none⟩, [4]⟩, ⟨⟨some 27, .faddr 1 (.t 26), none⟩, [4, 5]⟩, ⟨⟨some 28, .load false 1 (.t 27), none⟩, [5, 4, 6]⟩, ⟨⟨some 29, .mv (.t 3), none⟩, []⟩, ⟨⟨some 30, .iaSl 65 (.t 28) (.t 29), none⟩, [8, 6, 4, 5, 7]⟩, ⟨⟨some 31, .faddr 0 (.t 30), none⟩, [7, 5, 4, 6, 8, 9]⟩, ⟨⟨some 32, .load false 1 (.t 31), none⟩, [9, 8, 6, 4, 5, 7, 10]⟩, ⟨⟨some 33, .mv (.t 0), none⟩, []⟩, ⟨⟨some 34, .nilCk (.t 33), none⟩, [12]⟩, ⟨⟨some 35, .faddr 1 (.t 34), none⟩, [12, 13]⟩, ⟨⟨some 36, .load false 1 (.t 35), none⟩, [13, 12, 14]⟩, ⟨⟨some 37, .mv (.t 3), none⟩, []⟩, ⟨⟨some 38, .iaSl 65 (.t 36) (.t 37), none⟩, [16, 14, 12, 13, 15]⟩, ⟨⟨some 39, .faddr 1 (.t 38), none⟩, [15, 13, 12, 14, 16, 17]⟩, ⟨⟨some 40, .load true 64 (.t 39), none⟩, [17, 16, 14, 12, 13, 15, 18]⟩, ⟨⟨some 41, .iaSl 64 (.t 24) (.t 32), none⟩, [19, 18, 17, 16, 15, 14, 13, 12, 10, 7, 5, 4, 6, 8, 9, 11, 2, 0, 1, 3]⟩, ⟨⟨none, .store 64 (.t 41) (.t 40), none⟩, [3, 1, 0, 2, 11, 9, 8, 6, 4, 5, 7, 10, 12, 13, 14, 15, 16, 17, 18, 19, 20]⟩]
def p28_7 : List Vm.Op := [⟨some 19, .mv (.t 3), none⟩, ⟨some 20, .bin .add (.t 19) (.c (.int .i64 1)), none⟩, ⟨some 3, .mv (.t 20), none⟩]
def l28_8 : C := .seq (.seq (.ops p28_5) (.cond (.t 18) .skip (.exit 0))) (.seq (.block 1 (.draw d28_6)) (.ops p28_7))
def p28_9 : List Vm.Op := [⟨some 42, .mv (.t 0), none⟩, ⟨some 43, .nilCk (.t 42), none⟩, ⟨some 44, .faddr 1 (.t 43), none⟩, ⟨none, .store 1 (.t 44) (.c .nilsl), none⟩]
def p28_10 : List Vm.Op := [⟨some 2, .mv (.c (.int .i64 0)), none⟩]
theorem seq_d28_6 (T : Table) : drawSeq T d28_6 = true := rfl
def e28_6 : List Vm.Op := [⟨some 21, .mv (.t 0), none⟩, ⟨some 22, .nilCk (.t 21), none⟩, ⟨some 23, .faddr 0 (.t 22), none⟩, ⟨some 24, .load false 1 (.t 23), none⟩, ⟨some 25, .mv (.t 0), none⟩, ⟨some 26, .nilCk (.t 25), none⟩, ⟨some 27, .faddr 1 (.t 26), none⟩, ⟨some 28, .load false 1 (.t 27), none⟩, ⟨some 29, .mv (.t 3), none⟩, ⟨some 30, .iaSl 65 (.t 28) (.t 29), none⟩, ⟨some 31, .faddr 0 (.t 30), none⟩, ⟨some 32, .load false 1 (.t 31), none⟩, ⟨some 33, .mv (.t 0), none⟩, ⟨some 34, .nilCk (.t 33), none⟩, ⟨some 35, .faddr 1 (.t 34), none⟩, ⟨some 36, .load false 1 (.t 35), none⟩, ⟨some 37, .mv (.t 3), none⟩, ⟨some 38, .iaSl 65 (.t 36) (.t 37), none⟩, ⟨some 39, .faddr 1 (.t 38), none⟩, ⟨some 40, .load true 64 (.t 39), none⟩, ⟨some 41, .iaSl 64 (.t 24) (.t 32), none⟩, ⟨none, .store 64 (.t 41) (.t 40), none⟩]
theorem go_d28_6 (T : Table) (ρ : Env) (σ : St) : run T (.draw d28_6) ρ σ = drawOut T d28_6 ρ σ (opsEv (ev T) e28_6 ρ σ) := drawn (seq_d28_6 T) ρ σ
def code28 : C := .seq (.ops p28_1) (.seq (.seq (.ops p28_2) (.cond (.t 11) (.seq (.ops p28_3) .ret) .skip)) (.seq (.seq (.ops p28_4) (.block 0 (.loop l28_8))) (.seq (.ops p28_9) (.seq (.ops p28_10) .ret))))
def base28 : FnI := ⟨45, 1, code28, [.tmp 2], .raw⟩
/-! (*cubby/disk.Disk).Arm -/
def p29_1 : List Vm.Op := [⟨some 4, .mv (.c (.int .i64 0)), none⟩]
def p29_2 : List Vm.Op := [⟨some 5, .mv (.t 0), none⟩, ⟨some 6, .eq false (.nil .p) (.t 5) (.c .nilp), none⟩]
def p29_3 : List Vm.Op := [⟨some 4, .mv (.c (.int .i64 2)), none⟩]
def p29_4 : List Vm.Op := [⟨some 7, .mv (.t 0), none⟩, ⟨some 8, .mv (.t 1), none⟩, ⟨some 9, .minmax true [.t 8, .c (.int .i64 0)], none⟩, ⟨some 10, .nilCk (.t 7), none⟩, ⟨some 11, .faddr 3 (.t 10), none⟩, ⟨none, .store 1 (.t 11) (.t 9), none⟩]
def p29_5 : List Vm.Op := [⟨some 4, .mv (.c (.int .i64 0)), none⟩]
def code29 : C := .seq (.ops p29_1) (.seq (.seq (.ops p29_2) (.cond (.t 6) (.seq (.ops p29_3) .ret) .skip)) (.seq (.ops p29_4) (.seq (.ops p29_5) .ret)))
def base29 : FnI := ⟨12, 2, code29, [.tmp 4], .raw⟩
/-! cubby/cubbyhelp.Own[int] -/
def p30_1 : List Vm.Op := [⟨some 4, .mv (.c .nilsl), none⟩]
def p30_2 : List Vm.Op := [⟨some 8, .mv (.t 0), none⟩, ⟨some 9, .len .sl (.t 8), none⟩, ⟨some 10, .bin .add (.t 9) (.c (.int .i64 3)), none⟩, ⟨some 11, .makeSl 1 8 [.int .i64 0] (.c (.int .i64 0)) (.t 10), none⟩, ⟨some 5, .mv (.t 11), none⟩]
def p30_3 : List Vm.Op := [⟨some 12, .mv (.t 5), none⟩, ⟨some 13, .mv (.t 0), none⟩, ⟨some 14, .append 1 8 (.t 12) (.t 13), none⟩, ⟨some 5, .mv (.t 14), none⟩]
def p30_4 : List Vm.Op := [⟨some 15, .mv (.t 5), none⟩, ⟨some 16, .mv (.t 0), none⟩, ⟨some 17, .len .sl (.t 16), none⟩, ⟨some 18, .bin .add (.t 17) (.c (.int .i64 3)), none⟩, ⟨some 19, .slSl 1 (.t 15) none (some (.t 18)) none, none⟩, ⟨some 6, .mv (.t 19), none⟩]
def p30_5 : List Vm.Op := [⟨some 20, .mv (.t 0), none⟩, ⟨some 21, .len .sl (.t 20), none⟩, ⟨some 7, .mv (.t 21), none⟩]
def p30_6 : List Vm.Op := [⟨some 22, .mv (.t 7), none⟩, ⟨some 23, .mv (.t 6), none⟩, ⟨some 24, .len .sl (.t 23), none⟩, ⟨some 25, .bin .lss (.t 22) (.t 24), none⟩]
def p30_7 : List Vm.Op := [⟨some 28, .mv (.t 6), none⟩, ⟨some 29, .mv (.t 7), none⟩, ⟨some 30, .mv (.t 1), none⟩, ⟨some 31, .iaSl 1 (.t 28) (.t 29), none⟩, ⟨none, .store 1 (.t 31) (.t 30), none⟩]
def p30_8 : List Vm.Op := [⟨some 26, .mv (.t 7), none⟩, ⟨some 27, .bin .add (.t 26) (.c (.int .i64 1)), none⟩, ⟨some 7, .mv (.t 27), none⟩]
def l30_9 : C := .seq (.seq (.ops p30_6) (.cond (.t 25) .skip (.exit 0))) (.seq (.block 1 (.ops p30_7)) (.ops p30_8))
def p30_10 : List Vm.Op := [⟨some 32, .mv (.t 5), none⟩, ⟨some 4, .mv (.t 32), none⟩]
def code30 : C := .seq (.ops p30_1) (.seq (.ops p30_2) (.seq (.ops p30_3) (.seq (.ops p30_4) (.seq (.seq (.ops p30_5) (.block 0 (.loop l30_9))) (.seq (.ops p30_10) .ret)))))
def base30 : FnI := ⟨33, 2, code30, [.tmp 4], .raw⟩
/-! (*cubby/cubbyref02.Disk).Crash -/
def p31_1 : List Vm.Op := [⟨some 7, .mv (.t 0), none⟩, ⟨some 8, .nilCk (.t 7), none⟩, ⟨some 9, .faddr 3 (.t 8), none⟩, ⟨none, .store 1 (.t 9) (.c (.bool true)), none⟩]
def p31_2 : List Vm.Op := [⟨some 4, .mv (.c (.int .i64 0)), none⟩]
def p31_3 : List Vm.Op := [⟨some 10, .mv (.t 4), none⟩, ⟨some 11, .mv (.t 0), none⟩, ⟨some 12, .nilCk (.t 11), none⟩, ⟨some 13, .faddr 1 (.t 12), none⟩, ⟨some 14, .load false 1 (.t 13), none⟩, ⟨some 15, .len .sl (.t 14), none⟩, ⟨some 16, .bin .lss (.t 10) (.t 15), none⟩]
def p31_4 : List Vm.Op := [⟨some 5, .mv (.c (.int .i64 0)), none⟩]
def p31_5 : List Vm.Op := [⟨some 19, .mv (.t 4), none⟩, ⟨some 20, .mv (.t 1), none⟩, ⟨some 21, .len .sl (.t 20), none⟩, ⟨some 22, .bin .lss (.t 19) (.t 21), none⟩]
def p31_6 : List Vm.Op := [⟨some 23, .mv (.t 1), none⟩, ⟨some 24, .mv (.t 4), none⟩, ⟨some 25, .iaSl 1 (.t 23) (.t 24), none⟩, ⟨some 26, .load false 1 (.t 25), none⟩, ⟨some 27, .minmax false [.t 26, .c (.int .i64 64)], none⟩, ⟨some 28, .minmax true [.c (.int .i64 0), .t 27], none⟩, ⟨some 5, .mv (.t 28), none⟩]
def p31_7 : List Vm.Op := [⟨some 6, .mv (.c (.int .i64 0)), none⟩]
def p31_8 : List Vm.Op := [⟨some 29, .mv (.t 6), none⟩, ⟨some 30, .mv (.t 5), none⟩, ⟨some 31, .bin .lss (.t 29) (.t 30), none⟩]
def d31_9 : List Vm.DOp := [⟨⟨some 34, .mv (.t 0), none⟩, []⟩, ⟨⟨some 35, .nilCk (.t 34), none⟩, [0]⟩, ⟨⟨some 36, .faddr 0 (.t 35), none⟩, [0, 1]⟩, ⟨⟨some 37, .load false 1 (.t 36), none⟩, [1, 0, 2]⟩, ⟨⟨some 38, .mv (.t 0), none⟩, []⟩, ⟨⟨some 39, .nilCk (.t 38), none⟩, [4]⟩, ⟨⟨some 40, .faddr 1 (.t 39), none⟩, [4, 5]⟩, ⟨⟨some 41, .load false 1 (.t 40), none⟩, [5, 4, 6]⟩, ⟨⟨some 42, .mv (.t 4), none⟩, []⟩, ⟨⟨some 43, .iaSl 65 (.t 41) (.t 42), none⟩, [8, 6, 4, 5, 7]⟩, ⟨⟨some 44, .faddr 0 (.t 43), none⟩, [7, 5, 4, 6, 8, 9]⟩, ⟨⟨some 45, .load false 1 (.t 44), none⟩, [9, 8, 6, 4, 5, 7, 10]⟩, ⟨⟨some 46, .mv (.t 6), none⟩, []⟩, ⟨⟨some 47, .mv (.t 0), none⟩, []⟩, ⟨⟨some 48, .nilCk (.t 47), none⟩, [13]⟩, ⟨⟨some 49, .faddr 1 (.t 48), none⟩, [13, 14]⟩, ⟨⟨some 50, .load false 1 (.t 49), none⟩, [14, 13, 15]⟩, ⟨⟨some 51, .mv (.t 4), none⟩, []⟩, ⟨⟨some 52, .mv (.t 6), none⟩, []⟩, ⟨⟨some 53, .iaSl 65 (.t 50) (.t 51), none⟩, [17, 15, 13, 14, 16]⟩, ⟨⟨some 54, .faddr 1 (.t 53), none⟩, [16, 14, 13, 15, 17, 19]⟩, ⟨⟨some 55, .iaArr 64 1 (.t 54) (.t 52), none⟩, [18, 19, 17, 15, 13, 14, 16, 20]⟩, ⟨⟨some 56, .load false 1 (.t 55), none⟩, [20, 16, 14, 13, 15, 17, 19, 18, 21]⟩, ⟨⟨some 57, .iaSl 64 (.t 37) (.t 45), none⟩, [10, 7, 5, 4, 6, 8, 9, 11, 2, 0, 1, 3]⟩, ⟨⟨some 58, .iaArr 64 1 (.t 57) (.t 46), none⟩, [22, 21, 20, 19, 18, 17, 16, 15, 14, 13, 12, 3, 1, 0, 2, 11, 9, 8, 6, 4, 5, 7, 10, 23]⟩, ⟨⟨none, .store 1 (.t 58) (.t 56), none⟩, [23, 10, 7, 5, 4, 6, 8, 9, 11, 2, 0, 1, 3, 12, 13, 14, 15, 16, 17, 18, 19, 20, 21, 22, 24]⟩]
def p31_10 : List Vm.Op := [⟨some 32, .mv (.t 6), none⟩, ⟨some 33, .bin .add (.t 32) (.c (.int .i64 1)), none⟩, ⟨some 6, .mv (.t 33), none⟩]
def l31_11 : C := .seq (.seq (.ops p31_8) (.cond (.t 31) .skip (.exit 2))) (.seq (.block 3 (.draw d31_9)) (.ops p31_10))
def p31_12 : List Vm.Op := [⟨some 17, .mv (.t 4), none⟩, ⟨some 18, .bin .add (.t 17) (.c (.int .i64 1)), none⟩, ⟨some 4, .mv (.t 18), none⟩]
def l31_13 : C := .seq (.seq (.ops p31_3) (.cond (.t 16) .skip (.exit 0))) (.seq (.block 1 (.seq (.ops p31_4) (.seq (.seq (.ops p31_5) (.cond (.t 22) (.ops p31_6) .skip)) (.seq (.ops p31_7) (.block 2 (.loop l31_11)))))) (.ops p31_12))
def p31_14 : List Vm.Op := [⟨some 59, .mv (.t 0), none⟩, ⟨some 60, .nilCk (.t 59), none⟩, ⟨some 61, .faddr 1 (.t 60), none⟩, ⟨none, .store 1 (.t 61) (.c .nilsl), none⟩]
theorem seq_d31_9 (T : Table) : drawSeq T d31_9 = true := rfl
def e31_9 : List Vm.Op := [⟨some 34, .mv (.t 0), none⟩, ⟨some 35, .nilCk (.t 34), none⟩, ⟨some 36, .faddr 0 (.t 35), none⟩, ⟨some 37, .load false 1 (.t 36), none⟩, ⟨some 38, .mv (.t 0), none⟩, ⟨some 39, .nilCk (.t 38), none⟩, ⟨some 40, .faddr 1 (.t 39), none⟩, ⟨some 41, .load false 1 (.t 40), none⟩, ⟨some 42, .mv (.t 4), none⟩, ⟨some 43, .iaSl 65 (.t 41) (.t 42), none⟩, ⟨some 44, .faddr 0 (.t 43), none⟩, ⟨some 45, .load false 1 (.t 44), none⟩, ⟨some 46, .mv (.t 6), none⟩, ⟨some 47, .mv (.t 0), none⟩, ⟨some 48, .nilCk (.t 47), none⟩, ⟨some 49, .faddr 1 (.t 48), none⟩, ⟨some 50, .load false 1 (.t 49), none⟩, ⟨some 51, .mv (.t 4), none⟩, ⟨some 52, .mv (.t 6), none⟩, ⟨some 53, .iaSl 65 (.t 50) (.t 51), none⟩, ⟨some 54, .faddr 1 (.t 53), none⟩, ⟨some 55, .iaArr 64 1 (.t 54) (.t 52), none⟩, ⟨some 56, .load false 1 (.t 55), none⟩, ⟨some 57, .iaSl 64 (.t 37) (.t 45), none⟩, ⟨some 58, .iaArr 64 1 (.t 57) (.t 46), none⟩, ⟨none, .store 1 (.t 58) (.t 56), none⟩]
theorem go_d31_9 (T : Table) (ρ : Env) (σ : St) : run T (.draw d31_9) ρ σ = drawOut T d31_9 ρ σ (opsEv (ev T) e31_9 ρ σ) := drawn (seq_d31_9 T) ρ σ
def code31 : C := .seq (.ops p31_1) (.seq (.seq (.ops p31_2) (.block 0 (.loop l31_13))) (.ops p31_14))
def base31 : FnI := ⟨62, 2, code31, [], .raw⟩
/-! cubby/cubbyhelp.Kept[int] -/
def p32_1 : List Vm.Op := [⟨some 6, .mv (.c (.bool false)), none⟩]
def p32_2 : List Vm.Op := [⟨some 9, .mv (.t 0), none⟩, ⟨some 10, .mv (.t 1), none⟩, ⟨some 11, .call 72 [.t 9, .t 10], none⟩, ⟨some 12, .un .not (.t 11), none⟩, ⟨some 13, .mv (.t 12), none⟩, ⟨some 14, .mv (.t 0), some (13, false)⟩, ⟨some 15, .capOf (.t 14), some (13, false)⟩, ⟨some 16, .mv (.t 1), some (13, false)⟩, ⟨some 17, .len .sl (.t 16), some (13, false)⟩, ⟨some 18, .bin .add (.t 17) (.c (.int .i64 3)), some (13, false)⟩, ⟨some 19, .bin .lss (.t 15) (.t 18), some (13, false)⟩, ⟨some 20, .pick (.t 13) (.c (.bool true)) (.t 19), none⟩]
def p32_3 : List Vm.Op := [⟨some 6, .mv (.c (.bool false)), none⟩]
def p32_4 : List Vm.Op := [⟨some 21, .mv (.t 0), none⟩, ⟨some 22, .mv (.t 1), none⟩, ⟨some 23, .len .sl (.t 22), none⟩, ⟨some 24, .bin .add (.t 23) (.c (.int .i64 3)), none⟩, ⟨some 25, .slSl 1 (.t 21) none (some (.t 24)) none, none⟩, ⟨some 7, .mv (.t 25), none⟩]
def p32_5 : List Vm.Op := [⟨some 26, .mv (.t 1), none⟩, ⟨some 27, .len .sl (.t 26), none⟩, ⟨some 8, .mv (.t 27), none⟩]
def p32_6 : List Vm.Op := [⟨some 28, .mv (.t 8), none⟩, ⟨some 29, .mv (.t 7), none⟩, ⟨some 30, .len .sl (.t 29), none⟩, ⟨some 31, .bin .lss (.t 28) (.t 30), none⟩]
def p32_7 : List Vm.Op := [⟨some 34, .mv (.t 7), none⟩, ⟨some 35, .mv (.t 8), none⟩, ⟨some 36, .iaSl 1 (.t 34) (.t 35), none⟩, ⟨some 37, .load false 1 (.t 36), none⟩, ⟨some 38, .mv (.t 2), none⟩, ⟨some 39, .bin .neq (.t 37) (.t 38), none⟩]
def p32_8 : List Vm.Op := [⟨some 6, .mv (.c (.bool false)), none⟩]
def p32_9 : List Vm.Op := [⟨some 32, .mv (.t 8), none⟩, ⟨some 33, .bin .add (.t 32) (.c (.int .i64 1)), none⟩, ⟨some 8, .mv (.t 33), none⟩]
def l32_10 : C := .seq (.seq (.ops p32_6) (.cond (.t 31) .skip (.exit 0))) (.seq (.block 1 (.seq (.ops p32_7) (.cond (.t 39) (.seq (.ops p32_8) .ret) .skip))) (.ops p32_9))
def p32_11 : List Vm.Op := [⟨some 6, .mv (.c (.bool true)), none⟩]
def code32 : C := .seq (.ops p32_1) (.seq (.seq (.ops p32_2) (.cond (.t 20) (.seq (.ops p32_3) .ret) .skip)) (.seq (.ops p32_4) (.seq (.seq (.ops p32_5) (.block 0 (.loop l32_10))) (.seq (.ops p32_11) .ret))))
def base32 : FnI := ⟨40, 3, code32, [.tmp 6], .raw⟩
/-! (*cubby/cubbyref02.Disk).Start -/
def p33_1 : List Vm.Op := [⟨some 2, .mv (.t 0), none⟩, ⟨some 3, .nilCk (.t 2), none⟩, ⟨some 4, .faddr 2 (.t 3), none⟩, ⟨none, .store 1 (.t 4) (.c (.int .i64 0)), none⟩]
def p33_2 : List Vm.Op := [⟨some 5, .mv (.t 0), none⟩, ⟨some 6, .nilCk (.t 5), none⟩, ⟨some 7, .faddr 3 (.t 6), none⟩, ⟨some 8, .load false 1 (.t 7), none⟩]
def p33_3 : List Vm.Op := [⟨some 9, .mv (.t 0), none⟩, ⟨some 10, .nilCk (.t 9), none⟩, ⟨some 11, .faddr 1 (.t 10), none⟩, ⟨none, .store 1 (.t 11) (.c .nilsl), none⟩]
def p33_4 : List Vm.Op := [⟨some 12, .mv (.t 0), none⟩, ⟨some 13, .nilCk (.t 12), none⟩, ⟨some 14, .faddr 3 (.t 13), none⟩, ⟨none, .store 1 (.t 14) (.c (.bool false)), none⟩]
def code33 : C := .seq (.ops p33_1) (.seq (.seq (.ops p33_2) (.cond (.t 8) (.ops p33_3) .skip)) (.ops p33_4))
def base33 : FnI := ⟨15, 1, code33, [], .raw⟩
/-! (*cubby/disk.Disk).Fork -/
def p34_1 : List Vm.Op := [⟨some 2, .mv (.c .nilp), none⟩]
def p34_2 : List Vm.Op := [⟨some 4, .mv (.t 0), none⟩, ⟨some 5, .eq false (.nil .p) (.t 4) (.c .nilp), none⟩]
def p34_3 : List Vm.Op := [⟨some 2, .mv (.c .nilp), none⟩]
def p34_4 : List Vm.Op := [⟨some 6, .mv (.t 0), none⟩, ⟨some 7, .nilCk (.t 6), none⟩, ⟨some 8, .load true 4 (.t 7), none⟩, ⟨some 3, .alloc [.nilsl, .nilsl, .bool false, .int .i64 0], none⟩, ⟨none, .store 4 (.t 3) (.t 8), none⟩]
def d34_5 : List Vm.DOp := [⟨⟨some 9, .mv (.t 0), none⟩, []⟩, ⟨⟨some 10, .nilCk (.t 9), none⟩, [0]⟩, ⟨⟨some 11, .faddr 0 (.t 10), none⟩, [0, 1]⟩, ⟨⟨some 12, .load false 1 (.t 11), none⟩, [1, 0, 2]⟩, ⟨⟨some 13, .call 73 [.t 12], none⟩, [2, 0, 1, 3]⟩, ⟨⟨some 14, .mv (.t 0), none⟩, []⟩, ⟨⟨some 15, .nilCk (.t 14), none⟩, [5]⟩, ⟨⟨some 16, .faddr 1 (.t 15), none⟩, [5, 6]⟩, ⟨⟨some 17, .load false 1 (.t 16), none⟩, [6, 5, 7]⟩, ⟨⟨some 18, .call 74 [.t 17], none⟩, [3, 1, 0, 2, 4, 7, 5, 6, 8]⟩, ⟨⟨some 19, .faddr 0 (.t 3), none⟩, [9, 7, 5, 6, 8, 4, 3, 2, 1, 0]⟩, ⟨⟨none, .store 1 (.t 19) (.t 13), none⟩, [0, 1, 2, 3, 4, 8, 6, 5, 7, 9, 10]⟩, ⟨⟨some 20, .faddr 1 (.t 3), none⟩, [11, 10, 9, 8, 7, 6, 5, 4, 3, 2, 1, 0]⟩, ⟨⟨none, .store 1 (.t 20) (.t 18), none⟩, [0, 1, 2, 3, 4, 5, 6, 7, 8, 9, 10, 11, 12]⟩]
def p34_6 : List Vm.Op := [⟨some 2, .mv (.t 3), none⟩]
def code34 : C := .seq (.ops p34_1) (.seq (.seq (.ops p34_2) (.cond (.t 5) (.seq (.ops p34_3) .ret) .skip)) (.seq (.ops p34_4) (.seq (.draw d34_5) (.seq (.ops p34_6) .ret))))
def base34 : FnI := ⟨21, 1, code34, [.tmp 2], .raw⟩
/-! cubby/cubbyhelp.Own[byte] -/
def p35_1 : List Vm.Op := [⟨some 4, .mv (.c .nilsl), none⟩]
def p35_2 : List Vm.Op := [⟨some 8, .mv (.t 0), none⟩, ⟨some 9, .len .sl (.t 8), none⟩, ⟨some 10, .bin .add (.t 9) (.c (.int .i64 3)), none⟩, ⟨some 11, .makeSl 1 1 [.int .u8 0] (.c (.int .i64 0)) (.t 10), none⟩, ⟨some 5, .mv (.t 11), none⟩]
def p35_3 : List Vm.Op := [⟨some 12, .mv (.t 5), none⟩, ⟨some 13, .mv (.t 0), none⟩, ⟨some 14, .append 1 1 (.t 12) (.t 13), none⟩, ⟨some 5, .mv (.t 14), none⟩]
def p35_4 : List Vm.Op := [⟨some 15, .mv (.t 5), none⟩, ⟨some 16, .mv (.t 0), none⟩, ⟨some 17, .len .sl (.t 16), none⟩, ⟨some 18, .bin .add (.t 17) (.c (.int .i64 3)), none⟩, ⟨some 19, .slSl 1 (.t 15) none (some (.t 18)) none, none⟩, ⟨some 6, .mv (.t 19), none⟩]
def p35_5 : List Vm.Op := [⟨some 20, .mv (.t 0), none⟩, ⟨some 21, .len .sl (.t 20), none⟩, ⟨some 7, .mv (.t 21), none⟩]
def p35_6 : List Vm.Op := [⟨some 22, .mv (.t 7), none⟩, ⟨some 23, .mv (.t 6), none⟩, ⟨some 24, .len .sl (.t 23), none⟩, ⟨some 25, .bin .lss (.t 22) (.t 24), none⟩]
def p35_7 : List Vm.Op := [⟨some 28, .mv (.t 6), none⟩, ⟨some 29, .mv (.t 7), none⟩, ⟨some 30, .mv (.t 1), none⟩, ⟨some 31, .iaSl 1 (.t 28) (.t 29), none⟩, ⟨none, .store 1 (.t 31) (.t 30), none⟩]
def p35_8 : List Vm.Op := [⟨some 26, .mv (.t 7), none⟩, ⟨some 27, .bin .add (.t 26) (.c (.int .i64 1)), none⟩, ⟨some 7, .mv (.t 27), none⟩]
def l35_9 : C := .seq (.seq (.ops p35_6) (.cond (.t 25) .skip (.exit 0))) (.seq (.block 1 (.ops p35_7)) (.ops p35_8))
def p35_10 : List Vm.Op := [⟨some 32, .mv (.t 5), none⟩, ⟨some 4, .mv (.t 32), none⟩]
def code35 : C := .seq (.ops p35_1) (.seq (.ops p35_2) (.seq (.ops p35_3) (.seq (.ops p35_4) (.seq (.seq (.ops p35_5) (.block 0 (.loop l35_9))) (.seq (.ops p35_10) .ret)))))
def base35 : FnI := ⟨33, 2, code35, [.tmp 4], .raw⟩
/-! (*cubby/cubbyref02.Disk).Write -/
def p36_1 : List Vm.Op := [⟨some 6, .mv (.c (.int .i64 0)), none⟩]
def p36_2 : List Vm.Op := [⟨some 9, .mv (.t 0), none⟩, ⟨some 10, .nilCk (.t 9), none⟩, ⟨some 11, .faddr 3 (.t 10), none⟩, ⟨some 12, .load false 1 (.t 11), none⟩]
def p36_3 : List Vm.Op := [⟨some 6, .mv (.c (.int .i64 3)), none⟩]
def p36_4 : List Vm.Op := [⟨some 13, .mv (.t 1), none⟩, ⟨some 14, .bin .lss (.t 13) (.c (.int .i64 0)), none⟩, ⟨some 15, .mv (.t 14), none⟩, ⟨some 16, .mv (.t 1), some (15, false)⟩, ⟨some 17, .mv (.t 0), some (15, false)⟩, ⟨some 18, .nilCk (.t 17), some (15, false)⟩, ⟨some 19, .faddr 0 (.t 18), some (15, false)⟩, ⟨some 20, .load false 1 (.t 19), some (15, false)⟩, ⟨some 21, .len .sl (.t 20), some (15, false)⟩, ⟨some 22, .bin .geq (.t 16) (.t 21), some (15, false)⟩, ⟨some 23, .pick (.t 15) (.c (.bool true)) (.t 22), none⟩, ⟨some 24, .mv (.t 23), none⟩, ⟨some 25, .mv (.t 2), some (24, false)⟩, ⟨some 26, .len .sl (.t 25), some (24, false)⟩, ⟨some 27, .bin .neq (.t 26) (.c (.int .i64 64)), some (24, false)⟩, ⟨some 28, .pick (.t 24) (.c (.bool true)) (.t 27), none⟩]
def p36_5 : List Vm.Op := [⟨some 6, .mv (.c (.int .i64 1)), none⟩]
def p36_6 : List Vm.Op := [⟨some 7, .alloc (List.replicate 64 (.int .u8 0)), none⟩]
def p36_7 : List Vm.Op := [⟨some 29, .slArr 64 1 (.t 7) none none none, none⟩, ⟨some 30, .mv (.t 2), none⟩, ⟨some 31, .copy 1 (.t 29) (.t 30), none⟩]
def p36_8 : List Vm.Op := [⟨some 32, .mv (.t 0), none⟩, ⟨some 33, .call 71 [.t 32], none⟩, ⟨some 8, .mv (.t 33), none⟩]
def d36_9 : List Vm.DOp := [⟨⟨some 34, .mv (.t 0), none⟩, []⟩, ⟨⟨some 35, .mv (.t 0), none⟩, []⟩, ⟨⟨some 36, .nilCk (.t 35), none⟩, [1]⟩, ⟨⟨some 37, .faddr 1 (.t 36), none⟩, [1, 2]⟩, ⟨⟨some 38, .load false 1 (.t 37), none⟩, [2, 1, 3]⟩, ⟨⟨some 39, .mv (.t 1), none⟩, []⟩, ⟨⟨some 40, .load true 64 (.t 7), none⟩, []⟩, ⟨⟨some 41, .build ([.int .i64 0] ++ List.replicate 64 (.int .u8 0)) [(0, (1, .t 39)), (1, (64, .t 40))], none⟩, [6, 5]⟩, ⟨⟨some 42, .buildSl 1 65 ([.int .i64 0] ++ List.replicate 64 (.int .u8 0)) [(0, (65, .t 41))], none⟩, [5, 6, 7]⟩, ⟨⟨some 43, .append 65 72 (.t 38) (.t 42), none⟩, [7, 6, 5, 8, 3, 1, 2, 4]⟩, ⟨⟨some 44, .nilCk (.t 34), none⟩, [9, 8, 7, 6, 5, 4, 3, 2, 1, 0]⟩, ⟨⟨some 45, .faddr 1 (.t 44), none⟩, [0, 1, 2, 3, 4, 5, 6, 7, 8, 9, 10]⟩, ⟨⟨none, .store 1 (.t 45) (.t 43), none⟩, [10, 9, 8, 7, 6, 5, 4, 3, 2, 1, 0, 11]⟩]
def p36_10 : List Vm.Op := [⟨some 46, .mv (.t 8), none⟩]
def p36_11 : List Vm.Op := [⟨some 6, .mv (.c (.int .i64 3)), none⟩]
def p36_12 : List Vm.Op := [⟨some 6, .mv (.c (.int .i64 0)), none⟩]
theorem okd_d36_9 (T : Table) : drawOk T d36_9 = true := rfl
theorem str_d36_9 (T : Table) : strays T d36_9 = [(4, 9)] := rfl
def code36 : C := .seq (.ops p36_1) (.seq (.seq (.ops p36_2) (.cond (.t 12) (.seq (.ops p36_3) .ret) .skip)) (.seq (.seq (.ops p36_4) (.cond (.t 28) (.seq (.ops p36_5) .ret) .skip)) (.seq (.ops p36_6) (.seq (.ops p36_7) (.seq (.ops p36_8) (.seq (.draw d36_9) (.seq (.seq (.ops p36_10) (.cond (.t 46) (.seq (.ops p36_11) .ret) .skip)) (.seq (.ops p36_12) .ret))))))))
def base36 : FnI := ⟨47, 3, code36, [.tmp 6], .raw⟩
/-! cubby/cubbyhelp.Kept[byte] -/
def p37_1 : List Vm.Op := [⟨some 6, .mv (.c (.bool false)), none⟩]
def p37_2 : List Vm.Op := [⟨some 9, .mv (.t 0), none⟩, ⟨some 10, .mv (.t 1), none⟩, ⟨some 11, .call 75 [.t 9, .t 10], none⟩, ⟨some 12, .un .not (.t 11), none⟩, ⟨some 13, .mv (.t 12), none⟩, ⟨some 14, .mv (.t 0), some (13, false)⟩, ⟨some 15, .capOf (.t 14), some (13, false)⟩, ⟨some 16, .mv (.t 1), some (13, false)⟩, ⟨some 17, .len .sl (.t 16), some (13, false)⟩, ⟨some 18, .bin .add (.t 17) (.c (.int .i64 3)), some (13, false)⟩, ⟨some 19, .bin .lss (.t 15) (.t 18), some (13, false)⟩, ⟨some 20, .pick (.t 13) (.c (.bool true)) (.t 19), none⟩]
def p37_3 : List Vm.Op := [⟨some 6, .mv (.c (.bool false)), none⟩]
def p37_4 : List Vm.Op := [⟨some 21, .mv (.t 0), none⟩, ⟨some 22, .mv (.t 1), none⟩, ⟨some 23, .len .sl (.t 22), none⟩, ⟨some 24, .bin .add (.t 23) (.c (.int .i64 3)), none⟩, ⟨some 25, .slSl 1 (.t 21) none (some (.t 24)) none, none⟩, ⟨some 7, .mv (.t 25), none⟩]
def p37_5 : List Vm.Op := [⟨some 26, .mv (.t 1), none⟩, ⟨some 27, .len .sl (.t 26), none⟩, ⟨some 8, .mv (.t 27), none⟩]
def p37_6 : List Vm.Op := [⟨some 28, .mv (.t 8), none⟩, ⟨some 29, .mv (.t 7), none⟩, ⟨some 30, .len .sl (.t 29), none⟩, ⟨some 31, .bin .lss (.t 28) (.t 30), none⟩]
def p37_7 : List Vm.Op := [⟨some 34, .mv (.t 7), none⟩, ⟨some 35, .mv (.t 8), none⟩, ⟨some 36, .iaSl 1 (.t 34) (.t 35), none⟩, ⟨some 37, .load false 1 (.t 36), none⟩, ⟨some 38, .mv (.t 2), none⟩, ⟨some 39, .bin .neq (.t 37) (.t 38), none⟩]
def p37_8 : List Vm.Op := [⟨some 6, .mv (.c (.bool false)), none⟩]
def p37_9 : List Vm.Op := [⟨some 32, .mv (.t 8), none⟩, ⟨some 33, .bin .add (.t 32) (.c (.int .i64 1)), none⟩, ⟨some 8, .mv (.t 33), none⟩]
def l37_10 : C := .seq (.seq (.ops p37_6) (.cond (.t 31) .skip (.exit 0))) (.seq (.block 1 (.seq (.ops p37_7) (.cond (.t 39) (.seq (.ops p37_8) .ret) .skip))) (.ops p37_9))
def p37_11 : List Vm.Op := [⟨some 6, .mv (.c (.bool true)), none⟩]
def code37 : C := .seq (.ops p37_1) (.seq (.seq (.ops p37_2) (.cond (.t 20) (.seq (.ops p37_3) .ret) .skip)) (.seq (.ops p37_4) (.seq (.seq (.ops p37_5) (.block 0 (.loop l37_10))) (.seq (.ops p37_11) .ret))))
def base37 : FnI := ⟨40, 3, code37, [.tmp 6], .raw⟩
/-! (*cubby/disk.Disk).Down -/
def p38_1 : List Vm.Op := [⟨some 2, .mv (.c (.bool false)), none⟩]
def p38_2 : List Vm.Op := [⟨some 3, .mv (.t 0), none⟩, ⟨some 4, .eq true (.nil .p) (.t 3) (.c .nilp), none⟩, ⟨some 5, .mv (.t 4), none⟩, ⟨some 6, .mv (.t 0), some (5, true)⟩, ⟨some 7, .nilCk (.t 6), some (5, true)⟩, ⟨some 8, .faddr 2 (.t 7), some (5, true)⟩, ⟨some 9, .load false 1 (.t 8), some (5, true)⟩, ⟨some 10, .pick (.t 5) (.t 9) (.c (.bool false)), none⟩, ⟨some 2, .mv (.t 10), none⟩]
def code38 : C := .seq (.ops p38_1) (.seq (.ops p38_2) .ret)
def base38 : FnI := ⟨11, 1, code38, [.tmp 2], .raw⟩
/-! (*cubby/disk.Disk).Size -/
def p39_1 : List Vm.Op := [⟨some 2, .mv (.c (.int .i64 0)), none⟩]
def p39_2 : List Vm.Op := [⟨some 3, .mv (.t 0), none⟩, ⟨some 4, .eq false (.nil .p) (.t 3) (.c .nilp), none⟩]
def p39_3 : List Vm.Op := [⟨some 2, .mv (.c (.int .i64 0)), none⟩]
def p39_4 : List Vm.Op := [⟨some 5, .mv (.t 0), none⟩, ⟨some 6, .nilCk (.t 5), none⟩, ⟨some 7, .faddr 0 (.t 6), none⟩, ⟨some 8, .load false 1 (.t 7), none⟩, ⟨some 9, .len .sl (.t 8), none⟩, ⟨some 2, .mv (.t 9), none⟩]
def code39 : C := .seq (.ops p39_1) (.seq (.seq (.ops p39_2) (.cond (.t 4) (.seq (.ops p39_3) .ret) .skip)) (.seq (.ops p39_4) .ret))
def base39 : FnI := ⟨10, 1, code39, [.tmp 2], .raw⟩
/-! (*cubby/disk.Disk).up -/
def p68_1 : List Vm.Op := [⟨some 2, .mv (.c (.int .i64 0)), none⟩]
def p68_2 : List Vm.Op := [⟨some 4, .mv (.t 0), none⟩, ⟨some 5, .eq false (.nil .p) (.t 4) (.c .nilp), none⟩, ⟨some 3, .mv (.t 5), none⟩]
def p68_3 : List Vm.Op := [⟨some 2, .mv (.c (.int .i64 2)), none⟩]
def p68_4 : List Vm.Op := [⟨some 7, .mv (.t 0), none⟩, ⟨some 8, .nilCk (.t 7), none⟩, ⟨some 9, .faddr 2 (.t 8), none⟩, ⟨some 10, .load false 1 (.t 9), none⟩, ⟨some 6, .mv (.t 10), none⟩]
def p68_5 : List Vm.Op := [⟨some 2, .mv (.c (.int .i64 3)), none⟩]
def p68_6 : List Vm.Op := [⟨some 2, .mv (.c (.int .i64 0)), none⟩]
def code68 : C := .seq (.ops p68_1) (.seq (.block 0 (.seq (.ops p68_2) (.cond (.t 3) (.seq (.ops p68_3) .ret) (.seq (.ops p68_4) (.cond (.t 6) (.seq (.ops p68_5) .ret) .skip))))) (.seq (.ops p68_6) .ret))
def base68 : FnI := ⟨11, 1, code68, [.tmp 2], .raw⟩
/-! (*cubby/disk.Disk).hit -/
def p69_1 : List Vm.Op := [⟨some 2, .mv (.c (.bool false)), none⟩]
def p69_2 : List Vm.Op := [⟨some 3, .mv (.t 0), none⟩, ⟨some 4, .nilCk (.t 3), none⟩, ⟨some 5, .faddr 3 (.t 4), none⟩, ⟨some 6, .load false 1 (.t 5), none⟩, ⟨some 7, .bin .eql (.t 6) (.c (.int .i64 0)), none⟩]
def p69_3 : List Vm.Op := [⟨some 2, .mv (.c (.bool false)), none⟩]
def p69_4 : List Vm.Op := [⟨some 8, .mv (.t 0), none⟩, ⟨some 9, .nilCk (.t 8), none⟩, ⟨some 10, .faddr 3 (.t 9), none⟩, ⟨some 11, .load false 1 (.t 10), none⟩, ⟨some 12, .bin .sub (.t 11) (.c (.int .i64 1)), none⟩, ⟨some 13, .nilCk (.t 8), none⟩, ⟨some 14, .faddr 3 (.t 13), none⟩, ⟨none, .store 1 (.t 14) (.t 12), none⟩]
def p69_5 : List Vm.Op := [⟨some 15, .mv (.t 0), none⟩, ⟨some 16, .mv (.t 0), none⟩, ⟨some 17, .nilCk (.t 16), none⟩, ⟨some 18, .faddr 3 (.t 17), none⟩, ⟨some 19, .load false 1 (.t 18), none⟩, ⟨some 20, .bin .eql (.t 19) (.c (.int .i64 0)), none⟩, ⟨some 21, .nilCk (.t 15), none⟩, ⟨some 22, .faddr 2 (.t 21), none⟩, ⟨none, .store 1 (.t 22) (.t 20), none⟩]
def p69_6 : List Vm.Op := [⟨some 23, .mv (.t 0), none⟩, ⟨some 24, .nilCk (.t 23), none⟩, ⟨some 25, .faddr 2 (.t 24), none⟩, ⟨some 26, .load false 1 (.t 25), none⟩, ⟨some 2, .mv (.t 26), none⟩]
def code69 : C := .seq (.ops p69_1) (.seq (.seq (.ops p69_2) (.cond (.t 7) (.seq (.ops p69_3) .ret) .skip)) (.seq (.ops p69_4) (.seq (.ops p69_5) (.seq (.ops p69_6) .ret))))
def base69 : FnI := ⟨27, 1, code69, [.tmp 2], .raw⟩
/-! (*cubby/cubbyref02.Disk).Show -/
def p70_1 : List Vm.Op := [⟨some 4, .alloc (List.replicate 64 (.int .u8 0)), none⟩]
def p70_2 : List Vm.Op := [⟨some 6, .mv (.t 0), none⟩, ⟨some 7, .nilCk (.t 6), none⟩, ⟨some 8, .faddr 1 (.t 7), none⟩, ⟨some 9, .load false 1 (.t 8), none⟩, ⟨some 10, .len .sl (.t 9), none⟩, ⟨some 11, .bin .sub (.t 10) (.c (.int .i64 1)), none⟩, ⟨some 5, .mv (.t 11), none⟩]
def p70_3 : List Vm.Op := [⟨some 12, .mv (.t 5), none⟩, ⟨some 13, .bin .geq (.t 12) (.c (.int .i64 0)), none⟩]
def p70_4 : List Vm.Op := [⟨some 16, .mv (.t 0), none⟩, ⟨some 17, .nilCk (.t 16), none⟩, ⟨some 18, .faddr 1 (.t 17), none⟩, ⟨some 19, .load false 1 (.t 18), none⟩, ⟨some 20, .mv (.t 5), none⟩, ⟨some 21, .iaSl 65 (.t 19) (.t 20), none⟩, ⟨some 22, .faddr 0 (.t 21), none⟩, ⟨some 23, .load false 1 (.t 22), none⟩, ⟨some 24, .mv (.t 1), none⟩, ⟨some 25, .bin .eql (.t 23) (.t 24), none⟩]
def p70_5 : List Vm.Op := [⟨some 26, .mv (.t 0), none⟩, ⟨some 27, .nilCk (.t 26), none⟩, ⟨some 28, .faddr 1 (.t 27), none⟩, ⟨some 29, .load false 1 (.t 28), none⟩, ⟨some 30, .mv (.t 5), none⟩, ⟨some 31, .iaSl 65 (.t 29) (.t 30), none⟩, ⟨some 32, .faddr 1 (.t 31), none⟩, ⟨some 33, .load true 64 (.t 32), none⟩, ⟨none, .store 64 (.t 4) (.t 33), none⟩]
def p70_6 : List Vm.Op := [⟨some 14, .mv (.t 5), none⟩, ⟨some 15, .bin .sub (.t 14) (.c (.int .i64 1)), none⟩, ⟨some 5, .mv (.t 15), none⟩]
def l70_7 : C := .seq (.seq (.ops p70_3) (.cond (.t 13) .skip (.exit 0))) (.seq (.block 1 (.seq (.ops p70_4) (.cond (.t 25) (.seq (.ops p70_5) .ret) .skip))) (.ops p70_6))
def p70_8 : List Vm.Op := [⟨some 34, .mv (.t 0), none⟩, ⟨some 35, .nilCk (.t 34), none⟩, ⟨some 36, .faddr 0 (.t 35), none⟩, ⟨some 37, .load false 1 (.t 36), none⟩, ⟨some 38, .mv (.t 1), none⟩, ⟨some 39, .iaSl 64 (.t 37) (.t 38), none⟩, ⟨some 40, .load true 64 (.t 39), none⟩, ⟨none, .store 64 (.t 4) (.t 40), none⟩]
def code70 : C := .seq (.ops p70_1) (.seq (.seq (.ops p70_2) (.block 0 (.loop l70_7))) (.seq (.ops p70_8) .ret))
def base70 : FnI := ⟨41, 2, code70, [.cell 4 true 64], .raw⟩
/-! (*cubby/cubbyref02.Disk).hit -/
def p71_1 : List Vm.Op := [⟨some 2, .mv (.c (.bool false)), none⟩]
def p71_2 : List Vm.Op := [⟨some 3, .mv (.t 0), none⟩, ⟨some 4, .nilCk (.t 3), none⟩, ⟨some 5, .faddr 2 (.t 4), none⟩, ⟨some 6, .load false 1 (.t 5), none⟩, ⟨some 7, .bin .gtr (.t 6) (.c (.int .i64 0)), none⟩]
def p71_3 : List Vm.Op := [⟨some 8, .mv (.t 0), none⟩, ⟨some 9, .nilCk (.t 8), none⟩, ⟨some 10, .faddr 2 (.t 9), none⟩, ⟨some 11, .load false 1 (.t 10), none⟩, ⟨some 12, .bin .sub (.t 11) (.c (.int .i64 1)), none⟩, ⟨some 13, .nilCk (.t 8), none⟩, ⟨some 14, .faddr 2 (.t 13), none⟩, ⟨none, .store 1 (.t 14) (.t 12), none⟩]
def p71_4 : List Vm.Op := [⟨some 15, .mv (.t 0), none⟩, ⟨some 16, .nilCk (.t 15), none⟩, ⟨some 17, .faddr 2 (.t 16), none⟩, ⟨some 18, .load false 1 (.t 17), none⟩, ⟨some 19, .bin .eql (.t 18) (.c (.int .i64 0)), none⟩]
def p71_5 : List Vm.Op := [⟨some 20, .mv (.t 0), none⟩, ⟨some 21, .nilCk (.t 20), none⟩, ⟨some 22, .faddr 3 (.t 21), none⟩, ⟨none, .store 1 (.t 22) (.c (.bool true)), none⟩]
def p71_6 : List Vm.Op := [⟨some 2, .mv (.c (.bool true)), none⟩]
def p71_7 : List Vm.Op := [⟨some 2, .mv (.c (.bool false)), none⟩]
def code71 : C := .seq (.ops p71_1) (.seq (.seq (.ops p71_2) (.cond (.t 7) (.seq (.ops p71_3) (.seq (.ops p71_4) (.cond (.t 19) (.seq (.ops p71_5) (.seq (.ops p71_6) .ret)) .skip))) .skip)) (.seq (.ops p71_7) .ret))
def base71 : FnI := ⟨23, 1, code71, [.tmp 2], .raw⟩
/-! cubby/cubbyhelp.Plain[int] -/
def p72_1 : List Vm.Op := [⟨some 4, .mv (.c (.bool false)), none⟩]
def p72_2 : List Vm.Op := [⟨some 5, .mv (.t 0), none⟩, ⟨some 6, .mv (.t 1), none⟩, ⟨some 7, .call 97 [.t 5, .t 6, .c (.func (.func 98) [] [])], none⟩, ⟨some 4, .mv (.t 7), none⟩]
def code72 : C := .seq (.ops p72_1) (.seq (.ops p72_2) .ret)
def base72 : FnI := ⟨8, 2, code72, [.tmp 4], .raw⟩
/-! slices.Clone[[]cubby/disk.sector,cubby/disk.sector] -/
def p73_1 : List Vm.Op := [⟨some 2, .mv (.c .nilsl), none⟩]
def p73_2 : List Vm.Op := [⟨some 3, .mv (.t 0), none⟩, ⟨some 4, .eq false (.nil .s) (.t 3) (.c .nilsl), none⟩]
def p73_3 : List Vm.Op := [⟨some 2, .mv (.c .nilsl), none⟩]
def p73_4 : List Vm.Op := [⟨some 5, .buildSl 0 64 [] [], none⟩, ⟨some 6, .mv (.t 0), none⟩, ⟨some 7, .append 64 64 (.t 5) (.t 6), none⟩, ⟨some 2, .mv (.t 7), none⟩]
def code73 : C := .seq (.ops p73_1) (.seq (.seq (.ops p73_2) (.cond (.t 4) (.seq (.ops p73_3) .ret) .skip)) (.seq (.ops p73_4) .ret))
def base73 : FnI := ⟨8, 1, code73, [.tmp 2], .raw⟩
/-! slices.Clone[[]cubby/disk.write,cubby/disk.write] -/
def p74_1 : List Vm.Op := [⟨some 2, .mv (.c .nilsl), none⟩]
def p74_2 : List Vm.Op := [⟨some 3, .mv (.t 0), none⟩, ⟨some 4, .eq false (.nil .s) (.t 3) (.c .nilsl), none⟩]
def p74_3 : List Vm.Op := [⟨some 2, .mv (.c .nilsl), none⟩]
def p74_4 : List Vm.Op := [⟨some 5, .buildSl 0 65 [] [], none⟩, ⟨some 6, .mv (.t 0), none⟩, ⟨some 7, .append 65 72 (.t 5) (.t 6), none⟩, ⟨some 2, .mv (.t 7), none⟩]
def code74 : C := .seq (.ops p74_1) (.seq (.seq (.ops p74_2) (.cond (.t 4) (.seq (.ops p74_3) .ret) .skip)) (.seq (.ops p74_4) .ret))
def base74 : FnI := ⟨8, 1, code74, [.tmp 2], .raw⟩
/-! cubby/cubbyhelp.Plain[byte] -/
def p75_1 : List Vm.Op := [⟨some 4, .mv (.c (.bool false)), none⟩]
def p75_2 : List Vm.Op := [⟨some 5, .mv (.t 0), none⟩, ⟨some 6, .mv (.t 1), none⟩, ⟨some 7, .call 99 [.t 5, .t 6, .c (.func (.func 100) [] [])], none⟩, ⟨some 4, .mv (.t 7), none⟩]
def code75 : C := .seq (.ops p75_1) (.seq (.ops p75_2) .ret)
def base75 : FnI := ⟨8, 2, code75, [.tmp 4], .raw⟩
/-! cubby/cubbyhelp.Same[int] -/
def p97_1 : List Vm.Op := [⟨some 6, .mv (.c (.bool false)), none⟩]
def p97_2 : List Vm.Op := [⟨some 8, .mv (.t 0), none⟩, ⟨some 9, .len .sl (.t 8), none⟩, ⟨some 10, .mv (.t 1), none⟩, ⟨some 11, .len .sl (.t 10), none⟩, ⟨some 12, .bin .neq (.t 9) (.t 11), none⟩]
def p97_3 : List Vm.Op := [⟨some 6, .mv (.c (.bool false)), none⟩]
def p97_4 : List Vm.Op := [⟨some 7, .mv (.c (.int .i64 0)), none⟩]
def p97_5 : List Vm.Op := [⟨some 13, .mv (.t 7), none⟩, ⟨some 14, .mv (.t 0), none⟩, ⟨some 15, .len .sl (.t 14), none⟩, ⟨some 16, .bin .lss (.t 13) (.t 15), none⟩]
def d97_6 : List Vm.DOp := [⟨⟨some 19, .mv (.t 2), none⟩, []⟩, ⟨⟨some 20, .mv (.t 0), none⟩, []⟩, ⟨⟨some 21, .mv (.t 7), none⟩, []⟩, ⟨⟨some 22, .iaSl 1 (.t 20) (.t 21), none⟩, [2, 1]⟩, ⟨⟨some 23, .load false 1 (.t 22), none⟩, [1, 2, 3]⟩, ⟨⟨some 24, .mv (.t 1), none⟩, []⟩, ⟨⟨some 25, .mv (.t 7), none⟩, []⟩, ⟨⟨some 26, .iaSl 1 (.t 24) (.t 25), none⟩, [6, 5]⟩, ⟨⟨some 27, .load false 1 (.t 26), none⟩, [5, 6, 7]⟩, ⟨⟨some 28, .callV (.t 19) [.t 23, .t 27], none⟩, [7, 6, 5, 8, 3, 2, 1, 4, 0]⟩, ⟨⟨some 29, .un .not (.t 28), none⟩, [0, 4, 1, 2, 3, 8, 5, 6, 7, 9]⟩]
def p97_7 : List Vm.Op := [⟨some 6, .mv (.c (.bool false)), none⟩]
def p97_8 : List Vm.Op := [⟨some 17, .mv (.t 7), none⟩, ⟨some 18, .bin .add (.t 17) (.c (.int .i64 1)), none⟩, ⟨some 7, .mv (.t 18), none⟩]
def l97_9 : C := .seq (.seq (.ops p97_5) (.cond (.t 16) .skip (.exit 0))) (.seq (.block 1 (.seq (.draw d97_6) (.cond (.t 29) (.seq (.ops p97_7) .ret) .skip))) (.ops p97_8))
def p97_10 : List Vm.Op := [⟨some 6, .mv (.c (.bool true)), none⟩]
def code97 : C := .seq (.ops p97_1) (.seq (.seq (.ops p97_2) (.cond (.t 12) (.seq (.ops p97_3) .ret) .skip)) (.seq (.seq (.ops p97_4) (.block 0 (.loop l97_9))) (.seq (.ops p97_10) .ret)))
def base97 : FnI := ⟨30, 3, code97, [.tmp 6], .raw⟩
/-! cubby/cubbyhelp.Plain[int]$1 -/
def p98_1 : List Vm.Op := [⟨some 4, .mv (.c (.bool false)), none⟩]
def p98_2 : List Vm.Op := [⟨some 5, .mv (.t 0), none⟩, ⟨some 6, .mv (.t 1), none⟩, ⟨some 7, .bin .eql (.t 5) (.t 6), none⟩, ⟨some 4, .mv (.t 7), none⟩]
def code98 : C := .seq (.ops p98_1) (.seq (.ops p98_2) .ret)
def base98 : FnI := ⟨8, 2, code98, [.tmp 4], .raw⟩
/-! cubby/cubbyhelp.Same[byte] -/
def p99_1 : List Vm.Op := [⟨some 6, .mv (.c (.bool false)), none⟩]
def p99_2 : List Vm.Op := [⟨some 8, .mv (.t 0), none⟩, ⟨some 9, .len .sl (.t 8), none⟩, ⟨some 10, .mv (.t 1), none⟩, ⟨some 11, .len .sl (.t 10), none⟩, ⟨some 12, .bin .neq (.t 9) (.t 11), none⟩]
def p99_3 : List Vm.Op := [⟨some 6, .mv (.c (.bool false)), none⟩]
def p99_4 : List Vm.Op := [⟨some 7, .mv (.c (.int .i64 0)), none⟩]
def p99_5 : List Vm.Op := [⟨some 13, .mv (.t 7), none⟩, ⟨some 14, .mv (.t 0), none⟩, ⟨some 15, .len .sl (.t 14), none⟩, ⟨some 16, .bin .lss (.t 13) (.t 15), none⟩]
def d99_6 : List Vm.DOp := [⟨⟨some 19, .mv (.t 2), none⟩, []⟩, ⟨⟨some 20, .mv (.t 0), none⟩, []⟩, ⟨⟨some 21, .mv (.t 7), none⟩, []⟩, ⟨⟨some 22, .iaSl 1 (.t 20) (.t 21), none⟩, [2, 1]⟩, ⟨⟨some 23, .load false 1 (.t 22), none⟩, [1, 2, 3]⟩, ⟨⟨some 24, .mv (.t 1), none⟩, []⟩, ⟨⟨some 25, .mv (.t 7), none⟩, []⟩, ⟨⟨some 26, .iaSl 1 (.t 24) (.t 25), none⟩, [6, 5]⟩, ⟨⟨some 27, .load false 1 (.t 26), none⟩, [5, 6, 7]⟩, ⟨⟨some 28, .callV (.t 19) [.t 23, .t 27], none⟩, [7, 6, 5, 8, 3, 2, 1, 4, 0]⟩, ⟨⟨some 29, .un .not (.t 28), none⟩, [0, 4, 1, 2, 3, 8, 5, 6, 7, 9]⟩]
def p99_7 : List Vm.Op := [⟨some 6, .mv (.c (.bool false)), none⟩]
def p99_8 : List Vm.Op := [⟨some 17, .mv (.t 7), none⟩, ⟨some 18, .bin .add (.t 17) (.c (.int .i64 1)), none⟩, ⟨some 7, .mv (.t 18), none⟩]
def l99_9 : C := .seq (.seq (.ops p99_5) (.cond (.t 16) .skip (.exit 0))) (.seq (.block 1 (.seq (.draw d99_6) (.cond (.t 29) (.seq (.ops p99_7) .ret) .skip))) (.ops p99_8))
def p99_10 : List Vm.Op := [⟨some 6, .mv (.c (.bool true)), none⟩]
def code99 : C := .seq (.ops p99_1) (.seq (.seq (.ops p99_2) (.cond (.t 12) (.seq (.ops p99_3) .ret) .skip)) (.seq (.seq (.ops p99_4) (.block 0 (.loop l99_9))) (.seq (.ops p99_10) .ret)))
def base99 : FnI := ⟨30, 3, code99, [.tmp 6], .raw⟩
/-! cubby/cubbyhelp.Plain[byte]$1 -/
def p100_1 : List Vm.Op := [⟨some 4, .mv (.c (.bool false)), none⟩]
def p100_2 : List Vm.Op := [⟨some 5, .mv (.t 0), none⟩, ⟨some 6, .mv (.t 1), none⟩, ⟨some 7, .bin .eql (.t 5) (.t 6), none⟩, ⟨some 4, .mv (.t 7), none⟩]
def code100 : C := .seq (.ops p100_1) (.seq (.ops p100_2) .ret)
def base100 : FnI := ⟨8, 2, code100, [.tmp 4], .raw⟩

def base : FuncId → Option FnI
  | 3 => some base3
  | 4 => some base4
  | 5 => some base5
  | 6 => some base6
  | 15 => some base15
  | 16 => some base16
  | 17 => some base17
  | 18 => some base18
  | 19 => some base19
  | 20 => some base20
  | 21 => some base21
  | 22 => some base22
  | 23 => some base23
  | 24 => some base24
  | 25 => some base25
  | 26 => some base26
  | 27 => some base27
  | 28 => some base28
  | 29 => some base29
  | 30 => some base30
  | 31 => some base31
  | 32 => some base32
  | 33 => some base33
  | 34 => some base34
  | 35 => some base35
  | 36 => some base36
  | 37 => some base37
  | 38 => some base38
  | 39 => some base39
  | 68 => some base68
  | 69 => some base69
  | 70 => some base70
  | 71 => some base71
  | 72 => some base72
  | 73 => some base73
  | 74 => some base74
  | 75 => some base75
  | 97 => some base97
  | 98 => some base98
  | 99 => some base99
  | 100 => some base100
  | _ => none

def tab (h : FuncId → Hint) : Table := fun f => (base f).map fun b => { b with hint := h f }

theorem ok3 : FnOk Try.prog 3 base3 := ⟨fun _ h => (nomatch h), ⟨Try.f3, Try.f3.body.getD .skip, Try.func3, by decide, rfl, by kernel_rfl, rfl, by kernel_rfl, by decide⟩⟩
theorem tab3 (h : FuncId → Hint) : tab h 3 = some ⟨100, 4, code3, [.tmp 8], h 3⟩ := rfl
theorem ok4 : FnOk Try.prog 4 base4 := ⟨fun _ h => (nomatch h), ⟨Try.f4, Try.f4.body.getD .skip, Try.func4, by decide, rfl, by kernel_rfl, rfl, by kernel_rfl, by decide⟩⟩
theorem tab4 (h : FuncId → Hint) : tab h 4 = some ⟨116, 5, code4, [.tmp 10], h 4⟩ := rfl
theorem ok5 : FnOk Try.prog 5 base5 := ⟨fun _ h => (nomatch h), ⟨Try.f5, Try.f5.body.getD .skip, Try.func5, by decide, rfl, by kernel_rfl, rfl, by kernel_rfl, by decide⟩⟩
theorem tab5 (h : FuncId → Hint) : tab h 5 = some ⟨251, 2, code5, [.tmp 4], h 5⟩ := rfl
theorem ok6 : FnOk Try.prog 6 base6 := ⟨fun _ h => (nomatch h), ⟨Try.f6, Try.f6.body.getD .skip, Try.func6, by decide, rfl, by kernel_rfl, rfl, by kernel_rfl, by decide⟩⟩
theorem tab6 (h : FuncId → Hint) : tab h 6 = some ⟨75, 3, code6, [.tmp 6], h 6⟩ := rfl
theorem ok15 : FnOk Try.prog 15 base15 := ⟨fun _ h => (nomatch h), ⟨Try.f15, Try.f15.body.getD .skip, Try.func15, by decide, rfl, by kernel_rfl, rfl, by kernel_rfl, by decide⟩⟩
theorem tab15 (h : FuncId → Hint) : tab h 15 = some ⟨14, 1, code15, [.tmp 2, .tmp 3], h 15⟩ := rfl
theorem ok16 : FnOk Try.prog 16 base16 := ⟨fun _ h => (nomatch h), ⟨Try.f16, Try.f16.body.getD .skip, Try.func16, by decide, rfl, by kernel_rfl, rfl, by kernel_rfl, by decide⟩⟩
theorem tab16 (h : FuncId → Hint) : tab h 16 = some ⟨57, 0, code16, [.tmp 0], h 16⟩ := rfl
theorem ok17 : FnOk Try.prog 17 base17 := ⟨fun _ h => (nomatch h), ⟨Try.f17, Try.f17.body.getD .skip, Try.func17, by decide, rfl, by kernel_rfl, rfl, by kernel_rfl, by decide⟩⟩
theorem tab17 (h : FuncId → Hint) : tab h 17 = some ⟨45, 3, code17, [.tmp 6], h 17⟩ := rfl
theorem ok18 : FnOk Try.prog 18 base18 := ⟨fun _ h => (nomatch h), ⟨Try.f18, Try.f18.body.getD .skip, Try.func18, by decide, rfl, by kernel_rfl, rfl, by kernel_rfl, by decide⟩⟩
theorem tab18 (h : FuncId → Hint) : tab h 18 = some ⟨28, 1, code18, [.tmp 2], h 18⟩ := rfl
theorem ok19 : FnOk Try.prog 19 base19 := ⟨fun _ h => (nomatch h), ⟨Try.f19, Try.f19.body.getD .skip, Try.func19, by decide, rfl, by kernel_rfl, rfl, by kernel_rfl, by decide⟩⟩
theorem tab19 (h : FuncId → Hint) : tab h 19 = some ⟨35, 1, code19, [.tmp 2], h 19⟩ := rfl
theorem ok20 : FnOk Try.prog 20 base20 := ⟨fun _ h => (nomatch h), ⟨Try.f20, Try.f20.body.getD .skip, Try.func20, by decide, rfl, by kernel_rfl, rfl, by kernel_rfl, by decide⟩⟩
theorem tab20 (h : FuncId → Hint) : tab h 20 = some ⟨10, 1, code20, [.tmp 2], h 20⟩ := rfl
theorem ok21 : FnOk Try.prog 21 base21 := ⟨fun _ h => (nomatch h), ⟨Try.f21, Try.f21.body.getD .skip, Try.func21, by decide, rfl, by kernel_rfl, rfl, by kernel_rfl, by decide⟩⟩
theorem tab21 (h : FuncId → Hint) : tab h 21 = some ⟨50, 2, code21, [.tmp 4], h 21⟩ := rfl
theorem ok22 : FnOk Try.prog 22 base22 := ⟨fun _ h => (nomatch h), ⟨Try.f22, Try.f22.body.getD .skip, Try.func22, by decide, rfl, by kernel_rfl, rfl, by kernel_rfl, by decide⟩⟩
theorem tab22 (h : FuncId → Hint) : tab h 22 = some ⟨18, 1, code22, [.tmp 2], h 22⟩ := rfl
theorem ok23 : FnOk Try.prog 23 base23 := ⟨fun _ h => (nomatch h), ⟨Try.f23, Try.f23.body.getD .skip, Try.func23, by decide, rfl, by kernel_rfl, rfl, by kernel_rfl, by decide⟩⟩
theorem tab23 (h : FuncId → Hint) : tab h 23 = some ⟨50, 2, code23, [.tmp 4, .tmp 5], h 23⟩ := rfl
theorem ok24 : FnOk Try.prog 24 base24 := ⟨fun _ h => (nomatch h), ⟨Try.f24, Try.f24.body.getD .skip, Try.func24, by decide, rfl, by kernel_rfl, rfl, by kernel_rfl, by decide⟩⟩
theorem tab24 (h : FuncId → Hint) : tab h 24 = some ⟨10, 2, code24, [.tmp 4], h 24⟩ := rfl
theorem ok25 : FnOk Try.prog 25 base25 := ⟨fun _ h => (nomatch h), ⟨Try.f25, Try.f25.body.getD .skip, Try.func25, by decide, rfl, by kernel_rfl, rfl, by kernel_rfl, by decide⟩⟩
theorem tab25 (h : FuncId → Hint) : tab h 25 = some ⟨7, 1, code25, [.tmp 2], h 25⟩ := rfl
theorem ok26 : FnOk Try.prog 26 base26 := ⟨fun _ h => (nomatch h), ⟨Try.f26, Try.f26.body.getD .skip, Try.func26, by decide, rfl, by kernel_rfl, rfl, by kernel_rfl, by decide⟩⟩
theorem tab26 (h : FuncId → Hint) : tab h 26 = some ⟨27, 2, code26, [.tmp 4, .tmp 5], h 26⟩ := rfl
theorem ok27 : FnOk Try.prog 27 base27 := ⟨fun _ h => (nomatch h), ⟨Try.f27, Try.f27.body.getD .skip, Try.func27, by decide, rfl, by kernel_rfl, rfl, by kernel_rfl, by decide⟩⟩
theorem tab27 (h : FuncId → Hint) : tab h 27 = some ⟨17, 1, code27, [], h 27⟩ := rfl
theorem ok28 : FnOk Try.prog 28 base28 := ⟨fun _ h => (nomatch h), ⟨Try.f28, Try.f28.body.getD .skip, Try.func28, by decide, rfl, by kernel_rfl, rfl, by kernel_rfl, by decide⟩⟩
theorem tab28 (h : FuncId → Hint) : tab h 28 = some ⟨45, 1, code28, [.tmp 2], h 28⟩ := rfl
theorem ok29 : FnOk Try.prog 29 base29 := ⟨fun _ h => (nomatch h), ⟨Try.f29, Try.f29.body.getD .skip, Try.func29, by decide, rfl, by kernel_rfl, rfl, by kernel_rfl, by decide⟩⟩
theorem tab29 (h : FuncId → Hint) : tab h 29 = some ⟨12, 2, code29, [.tmp 4], h 29⟩ := rfl
theorem ok30 : FnOk Try.prog 30 base30 := ⟨fun _ h => (nomatch h), ⟨Try.f30, Try.f30.body.getD .skip, Try.func30, by decide, rfl, by kernel_rfl, rfl, by kernel_rfl, by decide⟩⟩
theorem tab30 (h : FuncId → Hint) : tab h 30 = some ⟨33, 2, code30, [.tmp 4], h 30⟩ := rfl
theorem ok31 : FnOk Try.prog 31 base31 := ⟨fun _ h => (nomatch h), ⟨Try.f31, Try.f31.body.getD .skip, Try.func31, by decide, rfl, by kernel_rfl, rfl, by kernel_rfl, by decide⟩⟩
theorem tab31 (h : FuncId → Hint) : tab h 31 = some ⟨62, 2, code31, [], h 31⟩ := rfl
theorem ok32 : FnOk Try.prog 32 base32 := ⟨fun _ h => (nomatch h), ⟨Try.f32, Try.f32.body.getD .skip, Try.func32, by decide, rfl, by kernel_rfl, rfl, by kernel_rfl, by decide⟩⟩
theorem tab32 (h : FuncId → Hint) : tab h 32 = some ⟨40, 3, code32, [.tmp 6], h 32⟩ := rfl
theorem ok33 : FnOk Try.prog 33 base33 := ⟨fun _ h => (nomatch h), ⟨Try.f33, Try.f33.body.getD .skip, Try.func33, by decide, rfl, by kernel_rfl, rfl, by kernel_rfl, by decide⟩⟩
theorem tab33 (h : FuncId → Hint) : tab h 33 = some ⟨15, 1, code33, [], h 33⟩ := rfl
theorem ok34 : FnOk Try.prog 34 base34 := ⟨fun _ h => (nomatch h), ⟨Try.f34, Try.f34.body.getD .skip, Try.func34, by decide, rfl, by kernel_rfl, rfl, by kernel_rfl, by decide⟩⟩
theorem tab34 (h : FuncId → Hint) : tab h 34 = some ⟨21, 1, code34, [.tmp 2], h 34⟩ := rfl
theorem ok35 : FnOk Try.prog 35 base35 := ⟨fun _ h => (nomatch h), ⟨Try.f35, Try.f35.body.getD .skip, Try.func35, by decide, rfl, by kernel_rfl, rfl, by kernel_rfl, by decide⟩⟩
theorem tab35 (h : FuncId → Hint) : tab h 35 = some ⟨33, 2, code35, [.tmp 4], h 35⟩ := rfl
theorem ok36 : FnOk Try.prog 36 base36 := ⟨fun _ h => (nomatch h), ⟨Try.f36, Try.f36.body.getD .skip, Try.func36, by decide, rfl, by kernel_rfl, rfl, by kernel_rfl, by decide⟩⟩
theorem tab36 (h : FuncId → Hint) : tab h 36 = some ⟨47, 3, code36, [.tmp 6], h 36⟩ := rfl
theorem ok37 : FnOk Try.prog 37 base37 := ⟨fun _ h => (nomatch h), ⟨Try.f37, Try.f37.body.getD .skip, Try.func37, by decide, rfl, by kernel_rfl, rfl, by kernel_rfl, by decide⟩⟩
theorem tab37 (h : FuncId → Hint) : tab h 37 = some ⟨40, 3, code37, [.tmp 6], h 37⟩ := rfl
theorem ok38 : FnOk Try.prog 38 base38 := ⟨fun _ h => (nomatch h), ⟨Try.f38, Try.f38.body.getD .skip, Try.func38, by decide, rfl, by kernel_rfl, rfl, by kernel_rfl, by decide⟩⟩
theorem tab38 (h : FuncId → Hint) : tab h 38 = some ⟨11, 1, code38, [.tmp 2], h 38⟩ := rfl
theorem ok39 : FnOk Try.prog 39 base39 := ⟨fun _ h => (nomatch h), ⟨Try.f39, Try.f39.body.getD .skip, Try.func39, by decide, rfl, by kernel_rfl, rfl, by kernel_rfl, by decide⟩⟩
theorem tab39 (h : FuncId → Hint) : tab h 39 = some ⟨10, 1, code39, [.tmp 2], h 39⟩ := rfl
theorem ok68 : FnOk Try.prog 68 base68 := ⟨fun _ h => (nomatch h), ⟨Try.f68, Try.f68.body.getD .skip, Try.func68, by decide, rfl, by kernel_rfl, rfl, by kernel_rfl, by decide⟩⟩
theorem tab68 (h : FuncId → Hint) : tab h 68 = some ⟨11, 1, code68, [.tmp 2], h 68⟩ := rfl
theorem ok69 : FnOk Try.prog 69 base69 := ⟨fun _ h => (nomatch h), ⟨Try.f69, Try.f69.body.getD .skip, Try.func69, by decide, rfl, by kernel_rfl, rfl, by kernel_rfl, by decide⟩⟩
theorem tab69 (h : FuncId → Hint) : tab h 69 = some ⟨27, 1, code69, [.tmp 2], h 69⟩ := rfl
theorem ok70 : FnOk Try.prog 70 base70 := ⟨fun _ h => (nomatch h), ⟨Try.f70, Try.f70.body.getD .skip, Try.func70, by decide, rfl, by kernel_rfl, rfl, by kernel_rfl, by decide⟩⟩
theorem tab70 (h : FuncId → Hint) : tab h 70 = some ⟨41, 2, code70, [.cell 4 true 64], h 70⟩ := rfl
theorem ok71 : FnOk Try.prog 71 base71 := ⟨fun _ h => (nomatch h), ⟨Try.f71, Try.f71.body.getD .skip, Try.func71, by decide, rfl, by kernel_rfl, rfl, by kernel_rfl, by decide⟩⟩
theorem tab71 (h : FuncId → Hint) : tab h 71 = some ⟨23, 1, code71, [.tmp 2], h 71⟩ := rfl
theorem ok72 : FnOk Try.prog 72 base72 := ⟨fun _ h => (nomatch h), ⟨Try.f72, Try.f72.body.getD .skip, Try.func72, by decide, rfl, by kernel_rfl, rfl, by kernel_rfl, by decide⟩⟩
theorem tab72 (h : FuncId → Hint) : tab h 72 = some ⟨8, 2, code72, [.tmp 4], h 72⟩ := rfl
theorem ok73 : FnOk Try.prog 73 base73 := ⟨fun _ h => (nomatch h), ⟨Try.f73, Try.f73.body.getD .skip, Try.func73, by decide, rfl, by kernel_rfl, rfl, by kernel_rfl, by decide⟩⟩
theorem tab73 (h : FuncId → Hint) : tab h 73 = some ⟨8, 1, code73, [.tmp 2], h 73⟩ := rfl
theorem ok74 : FnOk Try.prog 74 base74 := ⟨fun _ h => (nomatch h), ⟨Try.f74, Try.f74.body.getD .skip, Try.func74, by decide, rfl, by kernel_rfl, rfl, by kernel_rfl, by decide⟩⟩
theorem tab74 (h : FuncId → Hint) : tab h 74 = some ⟨8, 1, code74, [.tmp 2], h 74⟩ := rfl
theorem ok75 : FnOk Try.prog 75 base75 := ⟨fun _ h => (nomatch h), ⟨Try.f75, Try.f75.body.getD .skip, Try.func75, by decide, rfl, by kernel_rfl, rfl, by kernel_rfl, by decide⟩⟩
theorem tab75 (h : FuncId → Hint) : tab h 75 = some ⟨8, 2, code75, [.tmp 4], h 75⟩ := rfl
theorem ok97 : FnOk Try.prog 97 base97 := ⟨fun _ h => (nomatch h), ⟨Try.f97, Try.f97.body.getD .skip, Try.func97, by decide, rfl, by kernel_rfl, rfl, by kernel_rfl, by decide⟩⟩
theorem tab97 (h : FuncId → Hint) : tab h 97 = some ⟨30, 3, code97, [.tmp 6], h 97⟩ := rfl
theorem ok98 : FnOk Try.prog 98 base98 := ⟨fun _ h => (nomatch h), ⟨Try.f98, Try.f98.body.getD .skip, Try.func98, by decide, rfl, by kernel_rfl, rfl, by kernel_rfl, by decide⟩⟩
theorem tab98 (h : FuncId → Hint) : tab h 98 = some ⟨8, 2, code98, [.tmp 4], h 98⟩ := rfl
theorem ok99 : FnOk Try.prog 99 base99 := ⟨fun _ h => (nomatch h), ⟨Try.f99, Try.f99.body.getD .skip, Try.func99, by decide, rfl, by kernel_rfl, rfl, by kernel_rfl, by decide⟩⟩
theorem tab99 (h : FuncId → Hint) : tab h 99 = some ⟨30, 3, code99, [.tmp 6], h 99⟩ := rfl
theorem ok100 : FnOk Try.prog 100 base100 := ⟨fun _ h => (nomatch h), ⟨Try.f100, Try.f100.body.getD .skip, Try.func100, by decide, rfl, by kernel_rfl, rfl, by kernel_rfl, by decide⟩⟩
theorem tab100 (h : FuncId → Hint) : tab h 100 = some ⟨8, 2, code100, [.tmp 4], h 100⟩ := rfl

theorem base_ok : ∀ f b, base f = some b → FnOk Try.prog f b := by
  intro f b h
  unfold base at h
  split at h <;> simp only [Option.some.injEq, reduceCtorEq] at h <;> subst h
  · exact ok3
  · exact ok4
  · exact ok5
  · exact ok6
  · exact ok15
  · exact ok16
  · exact ok17
  · exact ok18
  · exact ok19
  · exact ok20
  · exact ok21
  · exact ok22
  · exact ok23
  · exact ok24
  · exact ok25
  · exact ok26
  · exact ok27
  · exact ok28
  · exact ok29
  · exact ok30
  · exact ok31
  · exact ok32
  · exact ok33
  · exact ok34
  · exact ok35
  · exact ok36
  · exact ok37
  · exact ok38
  · exact ok39
  · exact ok68
  · exact ok69
  · exact ok70
  · exact ok71
  · exact ok72
  · exact ok73
  · exact ok74
  · exact ok75
  · exact ok97
  · exact ok98
  · exact ok99
  · exact ok100

theorem tab_ok (h : FuncId → Hint) (hk : ∀ f g, h f = .known g → Known Try.prog f g) : ∀ f fi, tab h f = some fi → FnOk Try.prog f fi := by
  intro f fi hf
  simp only [tab, Option.map_eq_some_iff] at hf
  obtain ⟨b, hb, rfl⟩ := hf
  obtain ⟨fn, code, h1, h2, h3, h4, h5, h6, h7⟩ := (base_ok f b hb).is
  exact ⟨hk f, ⟨fn, code, h1, h2, h3, h4, h5, h6, h7⟩⟩

theorem tab_sound (h : FuncId → Hint) (hk : ∀ f g, h f = .known g → Known Try.prog f g) : SoundE Try.prog (ev (tab h)) := ev_sound Try.checked.mixed (tab_ok h hk)
end Go.Proofs.Ytkhalpmmdlppkaa
