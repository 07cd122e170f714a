/-
  THE FUNCTIONS' CODE AS THE LAYER 'Vm' READS IT (printed by wip/vm/gentab.py), each held against the program.
-/
import Derived.Test.YtkhalpmmdlppkaaRows
import Derived.Test.YtkhalpmmdlppkaaVmRk
namespace Go.Proofs.Ytkhalpmmdlppkaa
set_option linter.unusedSimpArgs false
set_option linter.unusedVariables false
open Go.Vm
set_option maxRecDepth 100000

/-! cubby/cubbylaw20.ShelfKeeps -/
def p7_1 : List Vm.Op := [⟨some 4, .mv (.c (.bool false)), none⟩]
def p7_2 : List Vm.Op := [⟨some 15, .mv (.t 0), none⟩, ⟨some 16, .convInt .u64 (.t 15), none⟩, ⟨some 17, .bin .rem (.t 16) (.c (.int .u64 2000)), none⟩, ⟨some 18, .convInt .i64 (.t 17), none⟩, ⟨some 0, .mv (.t 18), none⟩]
def p7_3 : List Vm.Op := [⟨some 20, .mv (.t 0), none⟩, ⟨some 21, .call 40 [.t 20], none⟩, ⟨some 19, .mv (.t 21), none⟩, ⟨some 22, .ext 0 (.t 19), none⟩, ⟨some 23, .ext 1 (.t 19), none⟩, ⟨some 5, .mv (.t 22), none⟩, ⟨some 6, .mv (.t 23), none⟩]
def p7_4 : List Vm.Op := [⟨some 24, .call 41 [], none⟩, ⟨some 25, .un .not (.t 24), none⟩, ⟨some 26, .mv (.t 25), none⟩, ⟨some 27, .mv (.t 6), some (26, false)⟩, ⟨some 28, .bin .neq (.t 27) (.c (.int .i64 0)), some (26, false)⟩, ⟨some 29, .pick (.t 26) (.c (.bool true)) (.t 28), none⟩, ⟨some 30, .mv (.t 29), none⟩, ⟨some 31, .mv (.t 5), some (30, false)⟩, ⟨some 32, .eq false (.nil .p) (.t 31) (.c .nilp), some (30, false)⟩, ⟨some 33, .pick (.t 30) (.c (.bool true)) (.t 32), none⟩]
def p7_5 : List Vm.Op := [⟨some 4, .mv (.c (.bool false)), none⟩]
def p7_6 : List Vm.Op := [⟨some 7, .mv (.c .nilsl), none⟩]
def p7_7 : List Vm.Op := [⟨some 8, .mv (.c (.int .i64 0)), none⟩]
def p7_8 : List Vm.Op := [⟨some 34, .mv (.t 8), none⟩, ⟨some 35, .mv (.t 1), none⟩, ⟨some 36, .len .sl (.t 35), none⟩, ⟨some 37, .bin .lss (.t 34) (.t 36), none⟩, ⟨some 38, .mv (.t 37), none⟩, ⟨some 39, .mv (.t 8), some (38, true)⟩, ⟨some 40, .bin .lss (.t 39) (.c (.int .i64 100)), some (38, true)⟩, ⟨some 41, .pick (.t 38) (.t 40) (.c (.bool false)), none⟩]
def p7_9 : List Vm.Op := [⟨some 44, .mv (.t 1), none⟩, ⟨some 45, .mv (.t 8), none⟩, ⟨some 46, .iaSl 6 (.t 44) (.t 45), none⟩, ⟨some 47, .load true 6 (.t 46), none⟩, ⟨some 9, .alloc [.int .i64 0, .int .u32 0, .int .u32 0, .int .i64 0, .int .i64 0, .bool false], none⟩, ⟨none, .store 6 (.t 9) (.t 47), none⟩]
def p7_10 : List Vm.Op := [⟨some 48, .faddr 3 (.t 9), none⟩, ⟨some 49, .load false 1 (.t 48), none⟩, ⟨some 50, .convInt .u64 (.t 49), none⟩, ⟨some 51, .bin .rem (.t 50) (.c (.int .u64 500)), none⟩, ⟨some 52, .convInt .i64 (.t 51), none⟩, ⟨some 10, .mv (.t 52), none⟩]
def p7_11 : List Vm.Op := [⟨some 53, .mv (.t 5), none⟩, ⟨some 54, .faddr 1 (.t 9), none⟩, ⟨some 55, .load true 2 (.t 54), none⟩, ⟨some 56, .mv (.t 10), none⟩, ⟨some 57, .faddr 4 (.t 9), none⟩, ⟨some 58, .load false 1 (.t 57), none⟩, ⟨some 59, .faddr 5 (.t 9), none⟩, ⟨some 60, .load false 1 (.t 59), none⟩, ⟨some 61, .call 42 [.t 53, .t 55, .t 56, .t 58, .t 60], none⟩, ⟨some 62, .bin .eql (.t 61) (.c (.int .i64 0)), none⟩]
def p7_12 : List Vm.Op := [⟨some 63, .mv (.t 7), none⟩, ⟨some 64, .faddr 1 (.t 9), none⟩, ⟨some 65, .load true 2 (.t 64), none⟩, ⟨some 66, .mv (.t 10), none⟩, ⟨some 67, .faddr 4 (.t 9), none⟩, ⟨some 68, .load false 1 (.t 67), none⟩, ⟨some 69, .faddr 5 (.t 9), none⟩, ⟨some 70, .load false 1 (.t 69), none⟩, ⟨some 71, .build [.int .u32 0, .int .u32 0, .int .i64 0, .int .i64 0, .bool false] [(0, (2, .t 65)), (2, (1, .t 66)), (3, (1, .t 68)), (4, (1, .t 70))], none⟩, ⟨some 72, .buildSl 1 5 [.int .u32 0, .int .u32 0, .int .i64 0, .int .i64 0, .bool false] [(0, (5, .t 71))], none⟩, ⟨some 73, .append 5 32 (.t 63) (.t 72), none⟩, ⟨some 7, .mv (.t 73), none⟩]
def p7_13 : List Vm.Op := [⟨some 42, .mv (.t 8), none⟩, ⟨some 43, .bin .add (.t 42) (.c (.int .i64 1)), none⟩, ⟨some 8, .mv (.t 43), none⟩]
def l7_14 : C := .seq (.seq (.ops p7_8) (.cond (.t 41) .skip (.exit 0))) (.seq (.block 1 (.seq (.ops p7_9) (.seq (.ops p7_10) (.seq (.ops p7_11) (.cond (.t 62) (.ops p7_12) .skip))))) (.ops p7_13))
def p7_15 : List Vm.Op := [⟨some 74, .mv (.t 5), none⟩, ⟨some 75, .call 43 [.t 74], none⟩, ⟨some 11, .mv (.t 75), none⟩]
def p7_16 : List Vm.Op := [⟨some 12, .mv (.c (.int .i64 0)), none⟩]
def p7_17 : List Vm.Op := [⟨some 13, .mv (.c (.int .i64 0)), none⟩]
def p7_18 : List Vm.Op := [⟨some 76, .mv (.t 13), none⟩, ⟨some 77, .mv (.t 7), none⟩, ⟨some 78, .len .sl (.t 77), none⟩, ⟨some 79, .bin .lss (.t 76) (.t 78), none⟩]
def p7_19 : List Vm.Op := [⟨some 82, .mv (.t 11), none⟩, ⟨some 83, .mv (.t 7), none⟩, ⟨some 84, .mv (.t 13), none⟩, ⟨some 85, .iaSl 5 (.t 83) (.t 84), none⟩, ⟨some 86, .faddr 0 (.t 85), none⟩, ⟨some 87, .load true 2 (.t 86), none⟩, ⟨some 88, .call 44 [.t 82, .t 87], none⟩, ⟨some 14, .mv (.t 88), none⟩]
def p7_20 : List Vm.Op := [⟨some 89, .mv (.t 14), none⟩, ⟨some 90, .mv (.t 89), none⟩, ⟨some 91, .mv (.t 7), some (90, true)⟩, ⟨some 92, .mv (.t 13), some (90, true)⟩, ⟨some 93, .iaSl 5 (.t 91) (.t 92), some (90, true)⟩, ⟨some 94, .faddr 4 (.t 93), some (90, true)⟩, ⟨some 95, .load false 1 (.t 94), some (90, true)⟩, ⟨some 96, .un .not (.t 95), some (90, true)⟩, ⟨some 97, .pick (.t 90) (.t 96) (.c (.bool false)), none⟩]
def p7_21 : List Vm.Op := [⟨some 4, .mv (.c (.bool false)), none⟩]
def p7_22 : List Vm.Op := [⟨some 98, .mv (.t 14), none⟩, ⟨some 99, .un .not (.t 98), none⟩, ⟨some 100, .mv (.t 99), none⟩, ⟨some 101, .mv (.t 7), some (100, true)⟩, ⟨some 102, .mv (.t 13), some (100, true)⟩, ⟨some 103, .iaSl 5 (.t 101) (.t 102), some (100, true)⟩, ⟨some 104, .faddr 4 (.t 103), some (100, true)⟩, ⟨some 105, .load false 1 (.t 104), some (100, true)⟩, ⟨some 106, .pick (.t 100) (.t 105) (.c (.bool false)), none⟩]
def p7_23 : List Vm.Op := [⟨some 107, .mv (.t 12), none⟩, ⟨some 108, .bin .add (.t 107) (.c (.int .i64 1)), none⟩, ⟨some 12, .mv (.t 108), none⟩]
def p7_24 : List Vm.Op := [⟨some 80, .mv (.t 13), none⟩, ⟨some 81, .bin .add (.t 80) (.c (.int .i64 1)), none⟩, ⟨some 13, .mv (.t 81), none⟩]
def l7_25 : C := .seq (.seq (.ops p7_18) (.cond (.t 79) .skip (.exit 2))) (.seq (.block 3 (.seq (.ops p7_19) (.seq (.seq (.ops p7_20) (.cond (.t 97) (.seq (.ops p7_21) .ret) .skip)) (.seq (.ops p7_22) (.cond (.t 106) (.ops p7_23) .skip))))) (.ops p7_24))
def p7_26 : List Vm.Op := [⟨some 109, .mv (.t 5), none⟩, ⟨some 110, .call 45 [.t 109], none⟩, ⟨some 111, .mv (.t 0), none⟩, ⟨some 112, .bin .leq (.t 110) (.t 111), none⟩, ⟨some 113, .mv (.t 112), none⟩, ⟨some 114, .mv (.t 12), some (113, false)⟩, ⟨some 115, .bin .eql (.t 114) (.c (.int .i64 0)), some (113, false)⟩, ⟨some 116, .pick (.t 113) (.c (.bool true)) (.t 115), none⟩, ⟨some 117, .mv (.t 116), none⟩, ⟨some 118, .mv (.t 5), some (117, true)⟩, ⟨some 119, .call 43 [.t 118], some (117, true)⟩, ⟨some 120, .len .sl (.t 119), some (117, true)⟩, ⟨some 121, .bin .eql (.t 120) (.c (.int .i64 0)), some (117, true)⟩, ⟨some 122, .pick (.t 117) (.t 121) (.c (.bool false)), none⟩, ⟨some 123, .mv (.t 122), none⟩, ⟨some 124, .mv (.t 5), some (123, true)⟩, ⟨some 125, .call 46 [.t 124], some (123, true)⟩, ⟨some 126, .mv (.t 7), some (123, true)⟩, ⟨some 127, .len .sl (.t 126), some (123, true)⟩, ⟨some 128, .mv (.t 11), some (123, true)⟩, ⟨some 129, .len .sl (.t 128), some (123, true)⟩, ⟨some 130, .bin .sub (.t 127) (.t 129), some (123, true)⟩, ⟨some 131, .bin .eql (.t 125) (.t 130), some (123, true)⟩, ⟨some 132, .pick (.t 123) (.t 131) (.c (.bool false)), none⟩, ⟨some 4, .mv (.t 132), none⟩]
def code7 : C := .seq (.ops p7_1) (.seq (.ops p7_2) (.seq (.ops p7_3) (.seq (.seq (.ops p7_4) (.cond (.t 33) (.seq (.ops p7_5) .ret) .skip)) (.seq (.ops p7_6) (.seq (.seq (.ops p7_7) (.block 0 (.loop l7_14))) (.seq (.ops p7_15) (.seq (.ops p7_16) (.seq (.seq (.ops p7_17) (.block 2 (.loop l7_25))) (.seq (.ops p7_26) .ret)))))))))
def base7 : FnI := ⟨133, 2, code7, [.tmp 4], .raw⟩
/-! cubby/cubbylaw20.ShelfOrder -/
def p8_1 : List Vm.Op := [⟨some 6, .mv (.c (.bool false)), none⟩]
def p8_2 : List Vm.Op := [⟨some 16, .mv (.t 0), none⟩, ⟨some 17, .convInt .u64 (.t 16), none⟩, ⟨some 18, .bin .rem (.t 17) (.c (.int .u64 500)), none⟩, ⟨some 19, .convInt .i64 (.t 18), none⟩, ⟨some 0, .mv (.t 19), none⟩]
def p8_3 : List Vm.Op := [⟨some 21, .mv (.t 0), none⟩, ⟨some 22, .call 40 [.t 21], none⟩, ⟨some 20, .mv (.t 22), none⟩, ⟨some 23, .ext 0 (.t 20), none⟩, ⟨some 24, .ext 1 (.t 20), none⟩, ⟨some 7, .mv (.t 23), none⟩, ⟨some 8, .mv (.t 24), none⟩]
def p8_4 : List Vm.Op := [⟨some 26, .mv (.t 0), none⟩, ⟨some 27, .call 40 [.t 26], none⟩, ⟨some 25, .mv (.t 27), none⟩, ⟨some 28, .ext 0 (.t 25), none⟩, ⟨some 29, .ext 1 (.t 25), none⟩, ⟨some 9, .mv (.t 28), none⟩, ⟨some 10, .mv (.t 29), none⟩]
def p8_5 : List Vm.Op := [⟨some 30, .call 41 [], none⟩, ⟨some 31, .un .not (.t 30), none⟩, ⟨some 32, .mv (.t 31), none⟩, ⟨some 33, .mv (.t 8), some (32, false)⟩, ⟨some 34, .bin .neq (.t 33) (.c (.int .i64 0)), some (32, false)⟩, ⟨some 35, .pick (.t 32) (.c (.bool true)) (.t 34), none⟩, ⟨some 36, .mv (.t 35), none⟩, ⟨some 37, .mv (.t 10), some (36, false)⟩, ⟨some 38, .bin .neq (.t 37) (.c (.int .i64 0)), some (36, false)⟩, ⟨some 39, .pick (.t 36) (.c (.bool true)) (.t 38), none⟩, ⟨some 40, .mv (.t 39), none⟩, ⟨some 41, .mv (.t 7), some (40, false)⟩, ⟨some 42, .eq false (.nil .p) (.t 41) (.c .nilp), some (40, false)⟩, ⟨some 43, .pick (.t 40) (.c (.bool true)) (.t 42), none⟩, ⟨some 44, .mv (.t 43), none⟩, ⟨some 45, .mv (.t 9), some (44, false)⟩, ⟨some 46, .eq false (.nil .p) (.t 45) (.c .nilp), some (44, false)⟩, ⟨some 47, .pick (.t 44) (.c (.bool true)) (.t 46), none⟩]
def p8_6 : List Vm.Op := [⟨some 6, .mv (.c (.bool false)), none⟩]
def p8_7 : List Vm.Op := [⟨some 11, .mv (.c .nilsl), none⟩]
def p8_8 : List Vm.Op := [⟨some 12, .mv (.c (.int .i64 0)), none⟩]
def p8_9 : List Vm.Op := [⟨some 48, .mv (.t 12), none⟩, ⟨some 49, .mv (.t 2), none⟩, ⟨some 50, .len .sl (.t 49), none⟩, ⟨some 51, .bin .lss (.t 48) (.t 50), none⟩, ⟨some 52, .mv (.t 51), none⟩, ⟨some 53, .mv (.t 12), some (52, true)⟩, ⟨some 54, .bin .lss (.t 53) (.c (.int .i64 60)), some (52, true)⟩, ⟨some 55, .pick (.t 52) (.t 54) (.c (.bool false)), none⟩]
def p8_10 : List Vm.Op := [⟨some 58, .mv (.t 2), none⟩, ⟨some 59, .mv (.t 12), none⟩, ⟨some 60, .iaSl 6 (.t 58) (.t 59), none⟩, ⟨some 61, .load true 6 (.t 60), none⟩, ⟨some 13, .alloc [.int .i64 0, .int .u32 0, .int .u32 0, .int .i64 0, .int .i64 0, .bool false], none⟩, ⟨none, .store 6 (.t 13) (.t 61), none⟩]
def p8_11 : List Vm.Op := [⟨some 62, .faddr 3 (.t 13), none⟩, ⟨some 63, .load false 1 (.t 62), none⟩, ⟨some 64, .convInt .u64 (.t 63), none⟩, ⟨some 65, .bin .rem (.t 64) (.c (.int .u64 200)), none⟩, ⟨some 66, .convInt .i64 (.t 65), none⟩, ⟨some 67, .faddr 3 (.t 13), none⟩, ⟨none, .store 1 (.t 67) (.t 66), none⟩]
def p8_12 : List Vm.Op := [⟨some 68, .mv (.t 7), none⟩, ⟨some 69, .faddr 1 (.t 13), none⟩, ⟨some 70, .load true 2 (.t 69), none⟩, ⟨some 71, .faddr 3 (.t 13), none⟩, ⟨some 72, .load false 1 (.t 71), none⟩, ⟨some 73, .faddr 4 (.t 13), none⟩, ⟨some 74, .load false 1 (.t 73), none⟩, ⟨some 75, .faddr 5 (.t 13), none⟩, ⟨some 76, .load false 1 (.t 75), none⟩, ⟨some 77, .call 42 [.t 68, .t 70, .t 72, .t 74, .t 76], none⟩, ⟨some 78, .bin .eql (.t 77) (.c (.int .i64 0)), none⟩]
def p8_13 : List Vm.Op := [⟨some 79, .mv (.t 11), none⟩, ⟨some 80, .load true 6 (.t 13), none⟩, ⟨some 81, .buildSl 1 6 [.int .i64 0, .int .u32 0, .int .u32 0, .int .i64 0, .int .i64 0, .bool false] [(0, (6, .t 80))], none⟩, ⟨some 82, .append 6 40 (.t 79) (.t 81), none⟩, ⟨some 11, .mv (.t 82), none⟩]
def p8_14 : List Vm.Op := [⟨some 56, .mv (.t 12), none⟩, ⟨some 57, .bin .add (.t 56) (.c (.int .i64 1)), none⟩, ⟨some 12, .mv (.t 57), none⟩]
def l8_15 : C := .seq (.seq (.ops p8_9) (.cond (.t 55) .skip (.exit 0))) (.seq (.block 1 (.seq (.ops p8_10) (.seq (.ops p8_11) (.seq (.ops p8_12) (.cond (.t 78) (.ops p8_13) .skip))))) (.ops p8_14))
def p8_16 : List Vm.Op := [⟨some 14, .mv (.c (.int .i64 0)), none⟩]
def p8_17 : List Vm.Op := [⟨some 83, .mv (.t 14), none⟩, ⟨some 84, .mv (.t 11), none⟩, ⟨some 85, .len .sl (.t 84), none⟩, ⟨some 86, .bin .lss (.t 83) (.t 85), none⟩]
def p8_18 : List Vm.Op := [⟨some 89, .mv (.t 11), none⟩, ⟨some 90, .mv (.t 14), none⟩, ⟨some 91, .mv (.t 1), none⟩, ⟨some 92, .convInt .u64 (.t 91), none⟩, ⟨some 93, .mv (.t 11), none⟩, ⟨some 94, .len .sl (.t 93), none⟩, ⟨some 95, .convInt .u64 (.t 94), none⟩, ⟨some 96, .bin .rem (.t 92) (.t 95), none⟩, ⟨some 97, .convInt .i64 (.t 96), none⟩, ⟨some 98, .bin .add (.t 90) (.t 97), none⟩, ⟨some 99, .mv (.t 11), none⟩, ⟨some 100, .len .sl (.t 99), none⟩, ⟨some 101, .bin .rem (.t 98) (.t 100), none⟩, ⟨some 102, .iaSl 6 (.t 89) (.t 101), none⟩, ⟨some 103, .load true 6 (.t 102), none⟩, ⟨some 15, .alloc [.int .i64 0, .int .u32 0, .int .u32 0, .int .i64 0, .int .i64 0, .bool false], none⟩, ⟨none, .store 6 (.t 15) (.t 103), none⟩]
def p8_19 : List Vm.Op := [⟨some 104, .mv (.t 9), none⟩, ⟨some 105, .faddr 1 (.t 15), none⟩, ⟨some 106, .load true 2 (.t 105), none⟩, ⟨some 107, .faddr 3 (.t 15), none⟩, ⟨some 108, .load false 1 (.t 107), none⟩, ⟨some 109, .faddr 4 (.t 15), none⟩, ⟨some 110, .load false 1 (.t 109), none⟩, ⟨some 111, .faddr 5 (.t 15), none⟩, ⟨some 112, .load false 1 (.t 111), none⟩, ⟨some 113, .call 42 [.t 104, .t 106, .t 108, .t 110, .t 112], none⟩, ⟨some 114, .bin .neq (.t 113) (.c (.int .i64 0)), none⟩]
def p8_20 : List Vm.Op := [⟨some 6, .mv (.c (.bool false)), none⟩]
def p8_21 : List Vm.Op := [⟨some 87, .mv (.t 14), none⟩, ⟨some 88, .bin .add (.t 87) (.c (.int .i64 1)), none⟩, ⟨some 14, .mv (.t 88), none⟩]
def l8_22 : C := .seq (.seq (.ops p8_17) (.cond (.t 86) .skip (.exit 2))) (.seq (.block 3 (.seq (.ops p8_18) (.seq (.ops p8_19) (.cond (.t 114) (.seq (.ops p8_20) .ret) .skip)))) (.ops p8_21))
def p8_23 : List Vm.Op := [⟨some 115, .mv (.t 7), none⟩, ⟨some 116, .call 43 [.t 115], none⟩, ⟨some 117, .mv (.t 9), none⟩, ⟨some 118, .call 43 [.t 117], none⟩, ⟨some 119, .call 47 [.t 116, .t 118], none⟩, ⟨some 120, .mv (.t 119), none⟩, ⟨some 121, .mv (.t 7), some (120, true)⟩, ⟨some 122, .call 45 [.t 121], some (120, true)⟩, ⟨some 123, .mv (.t 9), some (120, true)⟩, ⟨some 124, .call 45 [.t 123], some (120, true)⟩, ⟨some 125, .bin .eql (.t 122) (.t 124), some (120, true)⟩, ⟨some 126, .pick (.t 120) (.t 125) (.c (.bool false)), none⟩, ⟨some 127, .mv (.t 126), none⟩, ⟨some 128, .mv (.t 7), some (127, true)⟩, ⟨some 129, .call 46 [.t 128], some (127, true)⟩, ⟨some 130, .mv (.t 9), some (127, true)⟩, ⟨some 131, .call 46 [.t 130], some (127, true)⟩, ⟨some 132, .bin .eql (.t 129) (.t 131), some (127, true)⟩, ⟨some 133, .pick (.t 127) (.t 132) (.c (.bool false)), none⟩, ⟨some 6, .mv (.t 133), none⟩]
def code8 : C := .seq (.ops p8_1) (.seq (.ops p8_2) (.seq (.ops p8_3) (.seq (.ops p8_4) (.seq (.seq (.ops p8_5) (.cond (.t 47) (.seq (.ops p8_6) .ret) .skip)) (.seq (.ops p8_7) (.seq (.seq (.ops p8_8) (.block 0 (.loop l8_15))) (.seq (.seq (.ops p8_16) (.block 2 (.loop l8_22))) (.seq (.ops p8_23) .ret))))))))
def base8 : FnI := ⟨134, 3, code8, [.tmp 6], .raw⟩
/-! cubby/cubbylaw20.ShelfPlays -/
def p9_1 : List Vm.Op := [⟨some 4, .mv (.c (.bool false)), none⟩]
def p9_2 : List Vm.Op := [⟨some 17, .mv (.t 0), none⟩, ⟨some 18, .call 40 [.t 17], none⟩, ⟨some 16, .mv (.t 18), none⟩, ⟨some 19, .ext 0 (.t 16), none⟩, ⟨some 20, .ext 1 (.t 16), none⟩, ⟨some 5, .mv (.t 19), none⟩, ⟨some 6, .mv (.t 20), none⟩]
def p9_3 : List Vm.Op := [⟨some 21, .call 41 [], none⟩, ⟨some 22, .un .not (.t 21), none⟩, ⟨some 23, .mv (.t 22), none⟩, ⟨some 24, .mv (.t 6), some (23, false)⟩, ⟨some 25, .bin .eql (.t 24) (.c (.int .i64 0)), some (23, false)⟩, ⟨some 26, .mv (.t 0), some (23, false)⟩, ⟨some 27, .bin .geq (.t 26) (.c (.int .i64 0)), some (23, false)⟩, ⟨some 28, .mv (.t 27), some (23, false)⟩, ⟨some 29, .mv (.t 0), some (28, true)⟩, ⟨some 30, .bin .leq (.t 29) (.c (.int .i64 1073741824)), some (28, true)⟩, ⟨some 31, .pick (.t 28) (.t 30) (.c (.bool false)), some (23, false)⟩, ⟨some 32, .eq true .bool (.t 25) (.t 31), some (23, false)⟩, ⟨some 33, .pick (.t 23) (.c (.bool true)) (.t 32), none⟩, ⟨some 34, .mv (.t 33), none⟩, ⟨some 35, .mv (.t 5), some (34, false)⟩, ⟨some 36, .eq true (.nil .p) (.t 35) (.c .nilp), some (34, false)⟩, ⟨some 37, .mv (.t 6), some (34, false)⟩, ⟨some 38, .bin .eql (.t 37) (.c (.int .i64 0)), some (34, false)⟩, ⟨some 39, .eq true .bool (.t 36) (.t 38), some (34, false)⟩, ⟨some 40, .pick (.t 34) (.c (.bool true)) (.t 39), none⟩]
def p9_4 : List Vm.Op := [⟨some 4, .mv (.c (.bool false)), none⟩]
def p9_5 : List Vm.Op := [⟨some 41, .mv (.t 5), none⟩, ⟨some 42, .eq false (.nil .p) (.t 41) (.c .nilp), none⟩]
def p9_6 : List Vm.Op := [⟨some 43, .mv (.t 6), none⟩, ⟨some 44, .bin .eql (.t 43) (.c (.int .i64 1)), none⟩, ⟨some 4, .mv (.t 44), none⟩]
def p9_7 : List Vm.Op := [⟨some 7, .mv (.c .nilsl), none⟩]
def p9_8 : List Vm.Op := [⟨some 8, .mv (.c (.int .i64 0)), none⟩]
def p9_9 : List Vm.Op := [⟨some 45, .mv (.t 8), none⟩, ⟨some 46, .mv (.t 1), none⟩, ⟨some 47, .len .sl (.t 46), none⟩, ⟨some 48, .bin .lss (.t 45) (.t 47), none⟩, ⟨some 49, .mv (.t 48), none⟩, ⟨some 50, .mv (.t 8), some (49, true)⟩, ⟨some 51, .bin .lss (.t 50) (.c (.int .i64 200)), some (49, true)⟩, ⟨some 52, .pick (.t 49) (.t 51) (.c (.bool false)), none⟩]
def p9_10 : List Vm.Op := [⟨some 55, .mv (.t 1), none⟩, ⟨some 56, .mv (.t 8), none⟩, ⟨some 57, .iaSl 6 (.t 55) (.t 56), none⟩, ⟨some 58, .load true 6 (.t 57), none⟩, ⟨some 9, .alloc [.int .i64 0, .int .u32 0, .int .u32 0, .int .i64 0, .int .i64 0, .bool false], none⟩, ⟨none, .store 6 (.t 9) (.t 58), none⟩]
def p9_11 : List Vm.Op := [⟨some 59, .mv (.t 7), none⟩, ⟨some 60, .faddr 1 (.t 9), none⟩, ⟨some 61, .load true 2 (.t 60), none⟩, ⟨some 62, .call 48 [.t 59, .t 61], none⟩, ⟨some 10, .mv (.t 62), none⟩]
def p9_12 : List Vm.Op := [⟨some 63, .faddr 0 (.t 9), none⟩, ⟨some 64, .load false 1 (.t 63), none⟩]
def p9_13 : List Vm.Op := [⟨some 102, .bin .eql (.t 64) (.c (.int .i64 1)), none⟩, ⟨some 101, .mv (.t 102), none⟩]
def p9_14 : List Vm.Op := [⟨some 103, .mv (.t 5), none⟩, ⟨some 104, .faddr 1 (.t 9), none⟩, ⟨some 105, .load true 2 (.t 104), none⟩, ⟨some 106, .faddr 4 (.t 9), none⟩, ⟨some 107, .load false 1 (.t 106), none⟩, ⟨some 108, .call 49 [.t 103, .t 105, .t 107], none⟩, ⟨some 109, .mv (.t 10), none⟩, ⟨some 110, .bin .geq (.t 109) (.c (.int .i64 0)), none⟩, ⟨some 111, .eq true .bool (.t 108) (.t 110), none⟩]
def p9_15 : List Vm.Op := [⟨some 4, .mv (.c (.bool false)), none⟩]
def p9_16 : List Vm.Op := [⟨some 112, .mv (.t 10), none⟩, ⟨some 113, .bin .geq (.t 112) (.c (.int .i64 0)), none⟩]
def p9_17 : List Vm.Op := [⟨some 114, .mv (.t 7), none⟩, ⟨some 115, .mv (.t 10), none⟩, ⟨some 116, .faddr 4 (.t 9), none⟩, ⟨some 117, .load false 1 (.t 116), none⟩, ⟨some 118, .iaSl 5 (.t 114) (.t 115), none⟩, ⟨some 119, .faddr 3 (.t 118), none⟩, ⟨none, .store 1 (.t 119) (.t 117), none⟩]
def p9_18 : List Vm.Op := [⟨some 121, .bin .eql (.t 64) (.c (.int .i64 2)), none⟩, ⟨some 120, .mv (.t 121), none⟩]
def p9_19 : List Vm.Op := [⟨some 122, .mv (.t 5), none⟩, ⟨some 123, .faddr 1 (.t 9), none⟩, ⟨some 124, .load true 2 (.t 123), none⟩, ⟨some 125, .call 50 [.t 122, .t 124], none⟩, ⟨some 126, .mv (.t 10), none⟩, ⟨some 127, .bin .geq (.t 126) (.c (.int .i64 0)), none⟩, ⟨some 128, .eq true .bool (.t 125) (.t 127), none⟩]
def p9_20 : List Vm.Op := [⟨some 4, .mv (.c (.bool false)), none⟩]
def p9_21 : List Vm.Op := [⟨some 129, .mv (.t 10), none⟩, ⟨some 130, .bin .geq (.t 129) (.c (.int .i64 0)), none⟩]
def p9_22 : List Vm.Op := [⟨some 131, .mv (.t 7), none⟩, ⟨some 132, .mv (.t 10), none⟩, ⟨some 133, .iaSl 5 (.t 131) (.t 132), none⟩, ⟨some 134, .faddr 4 (.t 133), none⟩, ⟨none, .store 1 (.t 134) (.c (.bool true)), none⟩]
def p9_23 : List Vm.Op := [⟨some 136, .bin .eql (.t 64) (.c (.int .i64 3)), none⟩, ⟨some 135, .mv (.t 136), none⟩]
def p9_24 : List Vm.Op := [⟨some 137, .mv (.t 5), none⟩, ⟨some 138, .faddr 1 (.t 9), none⟩, ⟨some 139, .load true 2 (.t 138), none⟩, ⟨some 140, .call 51 [.t 137, .t 139], none⟩, ⟨some 141, .mv (.t 10), none⟩, ⟨some 142, .bin .geq (.t 141) (.c (.int .i64 0)), none⟩, ⟨some 143, .eq true .bool (.t 140) (.t 142), none⟩]
def p9_25 : List Vm.Op := [⟨some 4, .mv (.c (.bool false)), none⟩]
def p9_26 : List Vm.Op := [⟨some 144, .mv (.t 10), none⟩, ⟨some 145, .bin .geq (.t 144) (.c (.int .i64 0)), none⟩]
def d9_27 : List Vm.DOp := [⟨⟨some 146, .mv (.t 7), none⟩, []⟩, ⟨⟨some 147, .mv (.t 10), none⟩, []⟩, ⟨⟨some 148, .mv (.t 10), none⟩, []⟩, ⟨⟨some 149, .slSl 5 (.t 146) none (some (.t 147)) (some (.t 148)), none⟩, [2, 1, 0]⟩, ⟨⟨some 150, .mv (.t 7), none⟩, []⟩, ⟨⟨some 151, .mv (.t 10), none⟩, []⟩, ⟨⟨some 152, .bin .add (.t 151) (.c (.int .i64 1)), none⟩, [5]⟩, ⟨⟨some 153, .slSl 5 (.t 150) (some (.t 152)) none none, none⟩, [5, 6, 4]⟩, ⟨⟨some 154, .append 5 32 (.t 149) (.t 153), none⟩, [4, 6, 5, 7, 0, 1, 2, 3]⟩, ⟨⟨some 7, .mv (.t 154), none⟩, [3, 2, 1, 0, 7, 5, 6, 4, 8]⟩]
def p9_28 : List Vm.Op := [⟨some 156, .bin .eql (.t 64) (.c (.int .i64 4)), none⟩, ⟨some 155, .mv (.t 156), none⟩]
def p9_29 : List Vm.Op := [⟨some 158, .mv (.t 7), none⟩, ⟨some 159, .mv (.t 0), none⟩, ⟨some 160, .call 52 [.t 158, .t 159], none⟩, ⟨some 157, .mv (.t 160), none⟩, ⟨some 161, .ext 0 (.t 157), none⟩, ⟨some 162, .ext 1 (.t 157), none⟩, ⟨some 11, .mv (.t 161), none⟩, ⟨some 12, .mv (.t 162), none⟩]
def p9_30 : List Vm.Op := [⟨some 163, .mv (.t 5), none⟩, ⟨some 164, .call 43 [.t 163], none⟩, ⟨some 165, .mv (.t 11), none⟩, ⟨some 166, .call 47 [.t 164, .t 165], none⟩, ⟨some 167, .un .not (.t 166), none⟩]
def p9_31 : List Vm.Op := [⟨some 4, .mv (.c (.bool false)), none⟩]
def p9_32 : List Vm.Op := [⟨some 168, .mv (.t 12), none⟩, ⟨some 7, .mv (.t 168), none⟩]
def p9_33 : List Vm.Op := [⟨some 13, .mv (.c (.int .i64 0)), none⟩]
def p9_34 : List Vm.Op := [⟨some 78, .faddr 3 (.t 9), none⟩, ⟨some 79, .load false 1 (.t 78), none⟩, ⟨some 80, .bin .lss (.t 79) (.c (.int .i64 0)), none⟩, ⟨some 81, .mv (.t 80), none⟩, ⟨some 82, .faddr 3 (.t 9), some (81, false)⟩, ⟨some 83, .load false 1 (.t 82), some (81, false)⟩, ⟨some 84, .bin .gtr (.t 83) (.c (.int .i64 1048576)), some (81, false)⟩, ⟨some 85, .pick (.t 81) (.c (.bool true)) (.t 84), none⟩, ⟨some 77, .mv (.t 85), none⟩]
def p9_35 : List Vm.Op := [⟨some 13, .mv (.c (.int .i64 1)), none⟩]
def p9_36 : List Vm.Op := [⟨some 87, .mv (.t 10), none⟩, ⟨some 88, .bin .geq (.t 87) (.c (.int .i64 0)), none⟩, ⟨some 86, .mv (.t 88), none⟩]
def p9_37 : List Vm.Op := [⟨some 13, .mv (.c (.int .i64 6)), none⟩]
def p9_38 : List Vm.Op := [⟨some 65, .mv (.t 7), none⟩, ⟨some 66, .faddr 1 (.t 9), none⟩, ⟨some 67, .load true 2 (.t 66), none⟩, ⟨some 68, .faddr 3 (.t 9), none⟩, ⟨some 69, .load false 1 (.t 68), none⟩, ⟨some 70, .faddr 4 (.t 9), none⟩, ⟨some 71, .load false 1 (.t 70), none⟩, ⟨some 72, .faddr 5 (.t 9), none⟩, ⟨some 73, .load false 1 (.t 72), none⟩, ⟨some 74, .build [.int .u32 0, .int .u32 0, .int .i64 0, .int .i64 0, .bool false] [(0, (2, .t 67)), (2, (1, .t 69)), (3, (1, .t 71)), (4, (1, .t 73))], none⟩, ⟨some 75, .buildSl 1 5 [.int .u32 0, .int .u32 0, .int .i64 0, .int .i64 0, .bool false] [(0, (5, .t 74))], none⟩, ⟨some 76, .append 5 32 (.t 65) (.t 75), none⟩, ⟨some 7, .mv (.t 76), none⟩]
def p9_39 : List Vm.Op := [⟨some 89, .mv (.t 5), none⟩, ⟨some 90, .faddr 1 (.t 9), none⟩, ⟨some 91, .load true 2 (.t 90), none⟩, ⟨some 92, .faddr 3 (.t 9), none⟩, ⟨some 93, .load false 1 (.t 92), none⟩, ⟨some 94, .faddr 4 (.t 9), none⟩, ⟨some 95, .load false 1 (.t 94), none⟩, ⟨some 96, .faddr 5 (.t 9), none⟩, ⟨some 97, .load false 1 (.t 96), none⟩, ⟨some 98, .call 42 [.t 89, .t 91, .t 93, .t 95, .t 97], none⟩, ⟨some 99, .mv (.t 13), none⟩, ⟨some 100, .bin .neq (.t 98) (.t 99), none⟩]
def p9_40 : List Vm.Op := [⟨some 4, .mv (.c (.bool false)), none⟩]
def p9_41 : List Vm.Op := [⟨some 169, .mv (.t 5), none⟩, ⟨some 170, .call 46 [.t 169], none⟩, ⟨some 171, .mv (.t 7), none⟩, ⟨some 172, .len .sl (.t 171), none⟩, ⟨some 173, .bin .neq (.t 170) (.t 172), none⟩, ⟨some 174, .mv (.t 173), none⟩, ⟨some 175, .mv (.t 5), some (174, false)⟩, ⟨some 176, .call 45 [.t 175], some (174, false)⟩, ⟨some 177, .mv (.t 7), some (174, false)⟩, ⟨some 178, .call 53 [.t 177], some (174, false)⟩, ⟨some 179, .bin .neq (.t 176) (.t 178), some (174, false)⟩, ⟨some 180, .pick (.t 174) (.c (.bool true)) (.t 179), none⟩]
def p9_42 : List Vm.Op := [⟨some 4, .mv (.c (.bool false)), none⟩]
def p9_43 : List Vm.Op := [⟨some 53, .mv (.t 8), none⟩, ⟨some 54, .bin .add (.t 53) (.c (.int .i64 1)), none⟩, ⟨some 8, .mv (.t 54), none⟩]
def l9_44 : C := .seq (.seq (.ops p9_9) (.cond (.t 52) .skip (.exit 0))) (.seq (.block 1 (.seq (.ops p9_10) (.seq (.ops p9_11) (.seq (.seq (.ops p9_12) (.block 2 (.seq (.ops p9_13) (.cond (.t 101) (.seq (.seq (.ops p9_14) (.cond (.t 111) (.seq (.ops p9_15) .ret) .skip)) (.seq (.ops p9_16) (.cond (.t 113) (.ops p9_17) .skip))) (.seq (.ops p9_18) (.cond (.t 120) (.seq (.seq (.ops p9_19) (.cond (.t 128) (.seq (.ops p9_20) .ret) .skip)) (.seq (.ops p9_21) (.cond (.t 130) (.ops p9_22) .skip))) (.seq (.ops p9_23) (.cond (.t 135) (.seq (.seq (.ops p9_24) (.cond (.t 143) (.seq (.ops p9_25) .ret) .skip)) (.seq (.ops p9_26) (.cond (.t 145) (.draw d9_27) .skip))) (.seq (.ops p9_28) (.cond (.t 155) (.seq (.ops p9_29) (.seq (.seq (.ops p9_30) (.cond (.t 167) (.seq (.ops p9_31) .ret) .skip)) (.ops p9_32))) (.seq (.ops p9_33) (.seq (.block 3 (.seq (.ops p9_34) (.cond (.t 77) (.ops p9_35) (.seq (.ops p9_36) (.cond (.t 86) (.ops p9_37) (.ops p9_38)))))) (.seq (.ops p9_39) (.cond (.t 100) (.seq (.ops p9_40) .ret) .skip)))))))))))))) (.seq (.ops p9_41) (.cond (.t 180) (.seq (.ops p9_42) .ret) .skip)))))) (.ops p9_43))
def p9_45 : List Vm.Op := [⟨some 182, .mv (.t 7), none⟩, ⟨some 183, .mv (.t 0), none⟩, ⟨some 184, .call 52 [.t 182, .t 183], none⟩, ⟨some 181, .mv (.t 184), none⟩, ⟨some 185, .ext 0 (.t 181), none⟩, ⟨some 186, .ext 1 (.t 181), none⟩, ⟨some 14, .mv (.t 185), none⟩, ⟨some 15, .mv (.t 186), none⟩]
def p9_46 : List Vm.Op := [⟨some 187, .mv (.t 5), none⟩, ⟨some 188, .call 43 [.t 187], none⟩, ⟨some 189, .mv (.t 14), none⟩, ⟨some 190, .call 47 [.t 188, .t 189], none⟩, ⟨some 4, .mv (.t 190), none⟩]
theorem seq_d9_27 (T : Table) : drawSeq T d9_27 = true := rfl
def e9_27 : List Vm.Op := [⟨some 146, .mv (.t 7), none⟩, ⟨some 147, .mv (.t 10), none⟩, ⟨some 148, .mv (.t 10), none⟩, ⟨some 149, .slSl 5 (.t 146) none (some (.t 147)) (some (.t 148)), none⟩, ⟨some 150, .mv (.t 7), none⟩, ⟨some 151, .mv (.t 10), none⟩, ⟨some 152, .bin .add (.t 151) (.c (.int .i64 1)), none⟩, ⟨some 153, .slSl 5 (.t 150) (some (.t 152)) none none, none⟩, ⟨some 154, .append 5 32 (.t 149) (.t 153), none⟩, ⟨some 7, .mv (.t 154), none⟩]
theorem go_d9_27 (T : Table) (ρ : Env) (σ : St) : run T (.draw d9_27) ρ σ = drawOut T d9_27 ρ σ (opsEv (ev T) e9_27 ρ σ) := drawn (seq_d9_27 T) ρ σ
def code9 : C := .seq (.ops p9_1) (.seq (.ops p9_2) (.seq (.seq (.ops p9_3) (.cond (.t 40) (.seq (.ops p9_4) .ret) .skip)) (.seq (.seq (.ops p9_5) (.cond (.t 42) (.seq (.ops p9_6) .ret) .skip)) (.seq (.ops p9_7) (.seq (.seq (.ops p9_8) (.block 0 (.loop l9_44))) (.seq (.ops p9_45) (.seq (.ops p9_46) .ret)))))))
def base9 : FnI := ⟨191, 2, code9, [.tmp 4], .raw⟩
/-! cubby/shelf.New -/
def p40_1 : List Vm.Op := [⟨some 2, .mv (.c .nilp), none⟩, ⟨some 3, .mv (.c (.int .i64 0)), none⟩]
def p40_2 : List Vm.Op := [⟨some 4, .mv (.t 0), none⟩, ⟨some 5, .bin .lss (.t 4) (.c (.int .i64 0)), none⟩, ⟨some 6, .mv (.t 5), none⟩, ⟨some 7, .mv (.t 0), some (6, false)⟩, ⟨some 8, .bin .gtr (.t 7) (.c (.int .i64 1073741824)), some (6, false)⟩, ⟨some 9, .pick (.t 6) (.c (.bool true)) (.t 8), none⟩]
def p40_3 : List Vm.Op := [⟨some 2, .mv (.c .nilp), none⟩, ⟨some 3, .mv (.c (.int .i64 1)), none⟩]
def p40_4 : List Vm.Op := [⟨some 10, .mv (.t 0), none⟩, ⟨some 11, .makeMap, none⟩, ⟨some 12, .build [.int .i64 0, .int .i64 0, .nilm, .nilsl] [(0, (1, .t 10)), (2, (1, .t 11))], none⟩, ⟨some 13, .box (.t 12), none⟩, ⟨some 2, .mv (.t 13), none⟩, ⟨some 3, .mv (.c (.int .i64 0)), none⟩]
def code40 : C := .seq (.ops p40_1) (.seq (.seq (.ops p40_2) (.cond (.t 9) (.seq (.ops p40_3) .ret) .skip)) (.seq (.ops p40_4) .ret))
def base40 : FnI := ⟨14, 1, code40, [.tmp 2, .tmp 3], .raw⟩
/-! cubby/cubbylaw20.awake -/
def p41_1 : List Vm.Op := [⟨some 0, .mv (.c (.bool false)), none⟩]
def p41_2 : List Vm.Op := [⟨some 5, .call 40 [.c (.int .i64 10)], none⟩, ⟨some 4, .mv (.t 5), none⟩, ⟨some 6, .ext 0 (.t 4), none⟩, ⟨some 7, .ext 1 (.t 4), none⟩, ⟨some 1, .mv (.t 6), none⟩, ⟨some 2, .mv (.t 7), none⟩]
def p41_3 : List Vm.Op := [⟨some 8, .mv (.t 2), none⟩, ⟨some 9, .bin .neq (.t 8) (.c (.int .i64 0)), none⟩, ⟨some 10, .mv (.t 9), none⟩, ⟨some 11, .mv (.t 1), some (10, false)⟩, ⟨some 12, .eq false (.nil .p) (.t 11) (.c .nilp), some (10, false)⟩, ⟨some 13, .pick (.t 10) (.c (.bool true)) (.t 12), none⟩, ⟨some 14, .mv (.t 13), none⟩, ⟨some 15, .mv (.t 1), some (14, false)⟩, ⟨some 16, .build [.int .u32 0, .int .u32 0] [(0, (1, .c (.int .u32 1))), (1, (1, .c (.int .u32 1)))], some (14, false)⟩, ⟨some 17, .call 42 [.t 15, .t 16, .c (.int .i64 6), .c (.int .i64 2), .c (.bool true)], some (14, false)⟩, ⟨some 18, .bin .neq (.t 17) (.c (.int .i64 0)), some (14, false)⟩, ⟨some 19, .pick (.t 14) (.c (.bool true)) (.t 18), none⟩, ⟨some 20, .mv (.t 19), none⟩, ⟨some 21, .mv (.t 1), some (20, false)⟩, ⟨some 22, .build [.int .u32 0, .int .u32 0] [(0, (1, .c (.int .u32 1))), (1, (1, .c (.int .u32 2)))], some (20, false)⟩, ⟨some 23, .call 42 [.t 21, .t 22, .c (.int .i64 6), .c (.int .i64 1), .c (.bool false)], some (20, false)⟩, ⟨some 24, .bin .neq (.t 23) (.c (.int .i64 0)), some (20, false)⟩, ⟨some 25, .pick (.t 20) (.c (.bool true)) (.t 24), none⟩]
def p41_4 : List Vm.Op := [⟨some 0, .mv (.c (.bool false)), none⟩]
def p41_5 : List Vm.Op := [⟨some 26, .mv (.t 1), none⟩, ⟨some 27, .call 43 [.t 26], none⟩, ⟨some 3, .mv (.t 27), none⟩]
def p41_6 : List Vm.Op := [⟨some 28, .mv (.t 3), none⟩, ⟨some 29, .len .sl (.t 28), none⟩, ⟨some 30, .bin .eql (.t 29) (.c (.int .i64 1)), none⟩, ⟨some 31, .mv (.t 30), none⟩, ⟨some 32, .mv (.t 3), some (31, true)⟩, ⟨some 33, .iaSl 2 (.t 32) (.c (.int .i64 0)), some (31, true)⟩, ⟨some 34, .load true 2 (.t 33), some (31, true)⟩, ⟨some 35, .build [.int .u32 0, .int .u32 0] [(0, (1, .c (.int .u32 1))), (1, (1, .c (.int .u32 1)))], some (31, true)⟩, ⟨some 36, .eq false (.st [(0, (1, .int)), (1, (1, .int))]) (.t 34) (.t 35), some (31, true)⟩, ⟨some 37, .pick (.t 31) (.t 36) (.c (.bool false)), none⟩, ⟨some 0, .mv (.t 37), none⟩]
def code41 : C := .seq (.ops p41_1) (.seq (.ops p41_2) (.seq (.seq (.ops p41_3) (.cond (.t 25) (.seq (.ops p41_4) .ret) .skip)) (.seq (.ops p41_5) (.seq (.ops p41_6) .ret))))
def base41 : FnI := ⟨38, 0, code41, [.tmp 0], .raw⟩
/-! (*cubby/shelf.Shelf).Put -/
def p42_1 : List Vm.Op := [⟨some 6, .box (.t 1), none⟩, ⟨some 10, .mv (.c (.int .i64 0)), none⟩]
def p42_2 : List Vm.Op := [⟨some 13, .mv (.t 0), none⟩, ⟨some 14, .eq false (.nil .p) (.t 13) (.c .nilp), none⟩, ⟨some 12, .mv (.t 14), none⟩]
def p42_3 : List Vm.Op := [⟨some 10, .mv (.c (.int .i64 2)), none⟩]
def p42_4 : List Vm.Op := [⟨some 16, .mv (.t 2), none⟩, ⟨some 17, .bin .lss (.t 16) (.c (.int .i64 0)), none⟩, ⟨some 18, .mv (.t 17), none⟩, ⟨some 19, .mv (.t 2), some (18, false)⟩, ⟨some 20, .bin .gtr (.t 19) (.c (.int .i64 1048576)), some (18, false)⟩, ⟨some 21, .pick (.t 18) (.c (.bool true)) (.t 20), none⟩, ⟨some 15, .mv (.t 21), none⟩]
def p42_5 : List Vm.Op := [⟨some 10, .mv (.c (.int .i64 1)), none⟩]
def d42_6 : List Vm.DOp := [⟨⟨some 23, .mv (.t 0), none⟩, []⟩, ⟨⟨some 24, .nilCk (.t 23), none⟩, [0]⟩, ⟨⟨some 25, .faddr 2 (.t 24), none⟩, [0, 1]⟩, ⟨⟨some 26, .load false 1 (.t 25), none⟩, [1, 0, 2]⟩, ⟨⟨some 27, .load true 2 (.t 6), none⟩, []⟩, ⟨⟨some 28, .lookup (.st [(0, (1, .int)), (1, (1, .int))]) .nilp false (.t 26) (.t 27), none⟩, [4, 2, 0, 1, 3]⟩, ⟨⟨some 29, .eq true (.nil .p) (.t 28) (.c .nilp), none⟩, [3, 1, 0, 2, 4, 5]⟩, ⟨⟨some 22, .mv (.t 29), none⟩, [5, 4, 2, 0, 1, 3, 6]⟩]
def p42_7 : List Vm.Op := [⟨some 10, .mv (.c (.int .i64 6)), none⟩]
def p42_8 : List Vm.Op := [⟨some 31, .mv (.t 0), none⟩, ⟨some 32, .nilCk (.t 31), none⟩, ⟨some 33, .faddr 2 (.t 32), none⟩, ⟨some 34, .load false 1 (.t 33), none⟩, ⟨some 35, .len .map (.t 34), none⟩, ⟨some 36, .bin .geq (.t 35) (.c (.int .i64 65536)), none⟩, ⟨some 30, .mv (.t 36), none⟩]
def p42_9 : List Vm.Op := [⟨some 10, .mv (.c (.int .i64 4)), none⟩]
def p42_10 : List Vm.Op := [⟨some 37, .load true 2 (.t 6), none⟩, ⟨some 38, .mv (.t 2), none⟩, ⟨some 39, .mv (.t 3), none⟩, ⟨some 40, .build [.int .u32 0, .int .u32 0, .int .i64 0, .int .i64 0, .int .i64 0] [(0, (2, .t 37)), (2, (1, .t 38)), (3, (1, .t 39)), (4, (1, .c (.int .i64 (-1))))], none⟩, ⟨some 41, .box (.t 40), none⟩, ⟨some 11, .mv (.t 41), none⟩]
def d42_11 : List Vm.DOp := [⟨⟨some 42, .mv (.t 0), none⟩, []⟩, ⟨⟨some 43, .nilCk (.t 42), none⟩, [0]⟩, ⟨⟨some 44, .faddr 2 (.t 43), none⟩, [0, 1]⟩, ⟨⟨some 45, .load false 1 (.t 44), none⟩, [1, 0, 2]⟩, ⟨⟨some 46, .load true 2 (.t 6), none⟩, []⟩, ⟨⟨some 47, .mv (.t 11), none⟩, []⟩, ⟨⟨none, .mapUpd (.st [(0, (1, .int)), (1, (1, .int))]) (.t 45) (.t 46) (.t 47), none⟩, [5, 4, 2, 0, 1, 3]⟩]
def p42_12 : List Vm.Op := [⟨some 48, .mv (.t 0), none⟩, ⟨some 49, .nilCk (.t 48), none⟩, ⟨some 50, .faddr 1 (.t 49), none⟩, ⟨some 51, .load false 1 (.t 50), none⟩, ⟨some 52, .mv (.t 2), none⟩, ⟨some 53, .bin .add (.t 51) (.t 52), none⟩, ⟨some 54, .nilCk (.t 48), none⟩, ⟨some 55, .faddr 1 (.t 54), none⟩, ⟨none, .store 1 (.t 55) (.t 53), none⟩]
def p42_13 : List Vm.Op := [⟨some 56, .mv (.t 4), none⟩]
def p42_14 : List Vm.Op := [⟨some 57, .mv (.t 0), none⟩, ⟨some 58, .nilCk (.t 57), none⟩, ⟨some 59, .faddr 3 (.t 58), none⟩, ⟨some 60, .mkIface 131 (.t 59), none⟩, ⟨some 61, .mv (.t 11), none⟩, ⟨some 62, .mkIface 127 (.t 61), none⟩, ⟨some 63, .call 76 [.t 60, .t 62], none⟩]
def p42_15 : List Vm.Op := [⟨some 10, .mv (.c (.int .i64 0)), none⟩]
theorem seq_d42_6 (T : Table) : drawSeq T d42_6 = true := rfl
def e42_6 : List Vm.Op := [⟨some 23, .mv (.t 0), none⟩, ⟨some 24, .nilCk (.t 23), none⟩, ⟨some 25, .faddr 2 (.t 24), none⟩, ⟨some 26, .load false 1 (.t 25), none⟩, ⟨some 27, .load true 2 (.t 6), none⟩, ⟨some 28, .lookup (.st [(0, (1, .int)), (1, (1, .int))]) .nilp false (.t 26) (.t 27), none⟩, ⟨some 29, .eq true (.nil .p) (.t 28) (.c .nilp), none⟩, ⟨some 22, .mv (.t 29), none⟩]
theorem go_d42_6 (T : Table) (ρ : Env) (σ : St) : run T (.draw d42_6) ρ σ = drawOut T d42_6 ρ σ (opsEv (ev T) e42_6 ρ σ) := drawn (seq_d42_6 T) ρ σ
theorem seq_d42_11 (T : Table) : drawSeq T d42_11 = true := rfl
def e42_11 : List Vm.Op := [⟨some 42, .mv (.t 0), none⟩, ⟨some 43, .nilCk (.t 42), none⟩, ⟨some 44, .faddr 2 (.t 43), none⟩, ⟨some 45, .load false 1 (.t 44), none⟩, ⟨some 46, .load true 2 (.t 6), none⟩, ⟨some 47, .mv (.t 11), none⟩, ⟨none, .mapUpd (.st [(0, (1, .int)), (1, (1, .int))]) (.t 45) (.t 46) (.t 47), none⟩]
theorem go_d42_11 (T : Table) (ρ : Env) (σ : St) : run T (.draw d42_11) ρ σ = drawOut T d42_11 ρ σ (opsEv (ev T) e42_11 ρ σ) := drawn (seq_d42_11 T) ρ σ
def code42 : C := .seq (.ops p42_1) (.seq (.block 0 (.seq (.ops p42_2) (.cond (.t 12) (.seq (.ops p42_3) .ret) (.seq (.ops p42_4) (.cond (.t 15) (.seq (.ops p42_5) .ret) (.seq (.draw d42_6) (.cond (.t 22) (.seq (.ops p42_7) .ret) (.seq (.ops p42_8) (.cond (.t 30) (.seq (.ops p42_9) .ret) .skip))))))))) (.seq (.ops p42_10) (.seq (.draw d42_11) (.seq (.ops p42_12) (.seq (.seq (.ops p42_13) (.cond (.t 56) (.ops p42_14) .skip)) (.seq (.ops p42_15) .ret))))))
def base42 : FnI := ⟨64, 5, code42, [.tmp 10], .raw⟩
/-! (*cubby/shelf.Shelf).Evict -/
def p43_1 : List Vm.Op := [⟨some 2, .mv (.c .nilsl), none⟩]
def p43_2 : List Vm.Op := [⟨some 3, .mv (.c .nilsl), none⟩]
def d43_3 : List Vm.DOp := [⟨⟨some 5, .mv (.t 0), none⟩, []⟩, ⟨⟨some 6, .eq true (.nil .p) (.t 5) (.c .nilp), none⟩, [0]⟩, ⟨⟨some 7, .mv (.t 6), none⟩, [0, 1]⟩, ⟨⟨some 8, .mv (.t 0), some (7, true)⟩, [1, 0, 2]⟩, ⟨⟨some 9, .nilCk (.t 8), some (7, true)⟩, [2, 0, 1, 3]⟩, ⟨⟨some 10, .faddr 1 (.t 9), some (7, true)⟩, [3, 1, 0, 2, 4]⟩, ⟨⟨some 11, .load false 1 (.t 10), some (7, true)⟩, [4, 2, 0, 1, 3, 5]⟩, ⟨⟨some 12, .mv (.t 0), some (7, true)⟩, [1, 0, 2]⟩, ⟨⟨some 13, .nilCk (.t 12), some (7, true)⟩, [2, 0, 1, 7]⟩, ⟨⟨some 14, .faddr 0 (.t 13), some (7, true)⟩, [7, 1, 0, 2, 8]⟩, ⟨⟨some 15, .load false 1 (.t 14), some (7, true)⟩, [8, 2, 0, 1, 7, 9]⟩, ⟨⟨some 16, .bin .gtr (.t 11) (.t 15), some (7, true)⟩, [9, 7, 8, 10, 5, 3, 1, 0, 2, 4, 6]⟩, ⟨⟨some 17, .pick (.t 7) (.t 16) (.c (.bool false)), none⟩, [6, 4, 3, 5, 10, 8, 7, 9, 11, 1, 0, 2]⟩, ⟨⟨some 18, .mv (.t 17), none⟩, [2, 0, 1, 11, 9, 7, 8, 10, 5, 3, 4, 6, 12]⟩, ⟨⟨some 19, .mv (.t 0), some (18, true)⟩, [12, 6, 4, 3, 5, 10, 8, 7, 9, 11, 1, 0, 2, 13]⟩, ⟨⟨some 20, .nilCk (.t 19), some (18, true)⟩, [13, 2, 0, 1, 11, 9, 7, 8, 10, 5, 3, 4, 6, 12, 14]⟩, ⟨⟨some 21, .faddr 3 (.t 20), some (18, true)⟩, [14, 12, 6, 4, 3, 5, 10, 8, 7, 9, 11, 1, 0, 2, 13, 15]⟩, ⟨⟨some 22, .load false 1 (.t 21), some (18, true)⟩, [15, 13, 2, 0, 1, 11, 9, 7, 8, 10, 5, 3, 4, 6, 12, 14, 16]⟩, ⟨⟨some 23, .len .sl (.t 22), some (18, true)⟩, [16, 14, 12, 6, 4, 3, 5, 10, 8, 7, 9, 11, 1, 0, 2, 13, 15, 17]⟩, ⟨⟨some 24, .bin .gtr (.t 23) (.c (.int .i64 0)), some (18, true)⟩, [17, 15, 13, 2, 0, 1, 11, 9, 7, 8, 10, 5, 3, 4, 6, 12, 14, 16, 18]⟩, ⟨⟨some 25, .pick (.t 18) (.t 24) (.c (.bool false)), none⟩, [18, 16, 14, 15, 17, 19, 12, 6, 4, 3, 5, 10, 8, 7, 9, 11, 1, 0, 2, 13]⟩]
def p43_4 : List Vm.Op := [⟨some 26, .mv (.t 0), none⟩, ⟨some 27, .nilCk (.t 26), none⟩, ⟨some 28, .faddr 3 (.t 27), none⟩, ⟨some 29, .load false 1 (.t 28), none⟩, ⟨some 30, .iaSl 1 (.t 29) (.c (.int .i64 0)), none⟩, ⟨some 31, .load false 1 (.t 30), none⟩, ⟨some 32, .nilCk (.t 31), none⟩, ⟨some 33, .faddr 0 (.t 32), none⟩, ⟨some 34, .load true 2 (.t 33), none⟩, ⟨some 4, .alloc [.int .u32 0, .int .u32 0], none⟩, ⟨none, .store 2 (.t 4) (.t 34), none⟩]
def p43_5 : List Vm.Op := [⟨some 35, .mv (.t 0), none⟩, ⟨some 36, .load true 2 (.t 4), none⟩, ⟨some 37, .call 51 [.t 35, .t 36], none⟩]
def p43_6 : List Vm.Op := [⟨some 38, .mv (.t 3), none⟩, ⟨some 39, .load true 2 (.t 4), none⟩, ⟨some 40, .buildSl 1 2 [.int .u32 0, .int .u32 0] [(0, (2, .t 39))], none⟩, ⟨some 41, .append 2 8 (.t 38) (.t 40), none⟩, ⟨some 3, .mv (.t 41), none⟩]
def l43_7 : C := .seq (.seq (.draw d43_3) (.cond (.t 25) .skip (.exit 0))) (.block 1 (.seq (.ops p43_4) (.seq (.ops p43_5) (.ops p43_6))))
def p43_8 : List Vm.Op := [⟨some 42, .mv (.t 3), none⟩, ⟨some 2, .mv (.t 42), none⟩]
theorem seq_d43_3 (T : Table) : drawSeq T d43_3 = true := rfl
def e43_3 : List Vm.Op := [⟨some 5, .mv (.t 0), none⟩, ⟨some 6, .eq true (.nil .p) (.t 5) (.c .nilp), none⟩, ⟨some 7, .mv (.t 6), none⟩, ⟨some 8, .mv (.t 0), some (7, true)⟩, ⟨some 9, .nilCk (.t 8), some (7, true)⟩, ⟨some 10, .faddr 1 (.t 9), some (7, true)⟩, ⟨some 11, .load false 1 (.t 10), some (7, true)⟩, ⟨some 12, .mv (.t 0), some (7, true)⟩, ⟨some 13, .nilCk (.t 12), some (7, true)⟩, ⟨some 14, .faddr 0 (.t 13), some (7, true)⟩, ⟨some 15, .load false 1 (.t 14), some (7, true)⟩, ⟨some 16, .bin .gtr (.t 11) (.t 15), some (7, true)⟩, ⟨some 17, .pick (.t 7) (.t 16) (.c (.bool false)), none⟩, ⟨some 18, .mv (.t 17), none⟩, ⟨some 19, .mv (.t 0), some (18, true)⟩, ⟨some 20, .nilCk (.t 19), some (18, true)⟩, ⟨some 21, .faddr 3 (.t 20), some (18, true)⟩, ⟨some 22, .load false 1 (.t 21), some (18, true)⟩, ⟨some 23, .len .sl (.t 22), some (18, true)⟩, ⟨some 24, .bin .gtr (.t 23) (.c (.int .i64 0)), some (18, true)⟩, ⟨some 25, .pick (.t 18) (.t 24) (.c (.bool false)), none⟩]
theorem go_d43_3 (T : Table) (ρ : Env) (σ : St) : run T (.draw d43_3) ρ σ = drawOut T d43_3 ρ σ (opsEv (ev T) e43_3 ρ σ) := drawn (seq_d43_3 T) ρ σ
def code43 : C := .seq (.ops p43_1) (.seq (.ops p43_2) (.seq (.block 0 (.loop l43_7)) (.seq (.ops p43_8) .ret)))
def base43 : FnI := ⟨43, 1, code43, [.tmp 2], .raw⟩
/-! cubby/cubbyhelp.In[cubby/api.ID] -/
def p44_1 : List Vm.Op := [⟨some 3, .box (.t 1), none⟩, ⟨some 4, .mv (.c (.bool false)), none⟩]
def p44_2 : List Vm.Op := [⟨some 5, .mv (.c (.int .i64 0)), none⟩]
def p44_3 : List Vm.Op := [⟨some 6, .mv (.t 5), none⟩, ⟨some 7, .mv (.t 0), none⟩, ⟨some 8, .len .sl (.t 7), none⟩, ⟨some 9, .bin .lss (.t 6) (.t 8), none⟩]
def d44_4 : List Vm.DOp := [⟨⟨some 12, .mv (.t 0), none⟩, []⟩, ⟨⟨some 13, .mv (.t 5), none⟩, []⟩, ⟨⟨some 14, .iaSl 2 (.t 12) (.t 13), none⟩, [1, 0]⟩, ⟨⟨some 15, .load true 2 (.t 14), none⟩, [0, 1, 2]⟩, ⟨⟨some 16, .load true 2 (.t 3), none⟩, []⟩, ⟨⟨some 17, .eq false (.st [(0, (1, .int)), (1, (1, .int))]) (.t 15) (.t 16), none⟩, [4, 2, 1, 0, 3]⟩]
def p44_5 : List Vm.Op := [⟨some 4, .mv (.c (.bool true)), none⟩]
def p44_6 : List Vm.Op := [⟨some 10, .mv (.t 5), none⟩, ⟨some 11, .bin .add (.t 10) (.c (.int .i64 1)), none⟩, ⟨some 5, .mv (.t 11), none⟩]
def l44_7 : C := .seq (.seq (.ops p44_3) (.cond (.t 9) .skip (.exit 0))) (.seq (.block 1 (.seq (.draw d44_4) (.cond (.t 17) (.seq (.ops p44_5) .ret) .skip))) (.ops p44_6))
def p44_8 : List Vm.Op := [⟨some 4, .mv (.c (.bool false)), none⟩]
theorem seq_d44_4 (T : Table) : drawSeq T d44_4 = true := rfl
def e44_4 : List Vm.Op := [⟨some 12, .mv (.t 0), none⟩, ⟨some 13, .mv (.t 5), none⟩, ⟨some 14, .iaSl 2 (.t 12) (.t 13), none⟩, ⟨some 15, .load true 2 (.t 14), none⟩, ⟨some 16, .load true 2 (.t 3), none⟩, ⟨some 17, .eq false (.st [(0, (1, .int)), (1, (1, .int))]) (.t 15) (.t 16), none⟩]
theorem go_d44_4 (T : Table) (ρ : Env) (σ : St) : run T (.draw d44_4) ρ σ = drawOut T d44_4 ρ σ (opsEv (ev T) e44_4 ρ σ) := drawn (seq_d44_4 T) ρ σ
def code44 : C := .seq (.ops p44_1) (.seq (.seq (.ops p44_2) (.block 0 (.loop l44_7))) (.seq (.ops p44_8) .ret))
def base44 : FnI := ⟨18, 2, code44, [.tmp 4], .raw⟩
/-! (*cubby/shelf.Shelf).Size -/
def p45_1 : List Vm.Op := [⟨some 2, .mv (.c (.int .i64 0)), none⟩]
def p45_2 : List Vm.Op := [⟨some 3, .mv (.t 0), none⟩, ⟨some 4, .eq false (.nil .p) (.t 3) (.c .nilp), none⟩]
def p45_3 : List Vm.Op := [⟨some 2, .mv (.c (.int .i64 0)), none⟩]
def p45_4 : List Vm.Op := [⟨some 5, .mv (.t 0), none⟩, ⟨some 6, .nilCk (.t 5), none⟩, ⟨some 7, .faddr 1 (.t 6), none⟩, ⟨some 8, .load false 1 (.t 7), none⟩, ⟨some 2, .mv (.t 8), none⟩]
def code45 : C := .seq (.ops p45_1) (.seq (.seq (.ops p45_2) (.cond (.t 4) (.seq (.ops p45_3) .ret) .skip)) (.seq (.ops p45_4) .ret))
def base45 : FnI := ⟨9, 1, code45, [.tmp 2], .raw⟩
/-! (*cubby/shelf.Shelf).Len -/
def p46_1 : List Vm.Op := [⟨some 2, .mv (.c (.int .i64 0)), none⟩]
def p46_2 : List Vm.Op := [⟨some 3, .mv (.t 0), none⟩, ⟨some 4, .eq false (.nil .p) (.t 3) (.c .nilp), none⟩]
def p46_3 : List Vm.Op := [⟨some 2, .mv (.c (.int .i64 0)), none⟩]
def p46_4 : List Vm.Op := [⟨some 5, .mv (.t 0), none⟩, ⟨some 6, .nilCk (.t 5), none⟩, ⟨some 7, .faddr 2 (.t 6), none⟩, ⟨some 8, .load false 1 (.t 7), none⟩, ⟨some 9, .len .map (.t 8), none⟩, ⟨some 2, .mv (.t 9), none⟩]
def code46 : C := .seq (.ops p46_1) (.seq (.seq (.ops p46_2) (.cond (.t 4) (.seq (.ops p46_3) .ret) .skip)) (.seq (.ops p46_4) .ret))
def base46 : FnI := ⟨10, 1, code46, [.tmp 2], .raw⟩
/-! cubby/cubbyhelp.Plain[cubby/api.ID] -/
def p47_1 : List Vm.Op := [⟨some 4, .mv (.c (.bool false)), none⟩]
def p47_2 : List Vm.Op := [⟨some 5, .mv (.t 0), none⟩, ⟨some 6, .mv (.t 1), none⟩, ⟨some 7, .call 77 [.t 5, .t 6, .c (.func (.func 78) [] [])], none⟩, ⟨some 4, .mv (.t 7), none⟩]
def code47 : C := .seq (.ops p47_1) (.seq (.ops p47_2) .ret)
def base47 : FnI := ⟨8, 2, code47, [.tmp 4], .raw⟩
/-! cubby/cubbylaw20.at -/
def p48_1 : List Vm.Op := [⟨some 3, .box (.t 1), none⟩, ⟨some 4, .mv (.c (.int .i64 0)), none⟩]
def p48_2 : List Vm.Op := [⟨some 5, .mv (.c (.int .i64 0)), none⟩]
def p48_3 : List Vm.Op := [⟨some 6, .mv (.t 5), none⟩, ⟨some 7, .mv (.t 0), none⟩, ⟨some 8, .len .sl (.t 7), none⟩, ⟨some 9, .bin .lss (.t 6) (.t 8), none⟩]
def d48_4 : List Vm.DOp := [⟨⟨some 12, .mv (.t 0), none⟩, []⟩, ⟨⟨some 13, .mv (.t 5), none⟩, []⟩, ⟨⟨some 14, .iaSl 5 (.t 12) (.t 13), none⟩, [1, 0]⟩, ⟨⟨some 15, .faddr 0 (.t 14), none⟩, [0, 1, 2]⟩, ⟨⟨some 16, .load true 2 (.t 15), none⟩, [2, 1, 0, 3]⟩, ⟨⟨some 17, .load true 2 (.t 3), none⟩, []⟩, ⟨⟨some 18, .eq false (.st [(0, (1, .int)), (1, (1, .int))]) (.t 16) (.t 17), none⟩, [5, 3, 0, 1, 2, 4]⟩]
def p48_5 : List Vm.Op := [⟨some 19, .mv (.t 5), none⟩, ⟨some 4, .mv (.t 19), none⟩]
def p48_6 : List Vm.Op := [⟨some 10, .mv (.t 5), none⟩, ⟨some 11, .bin .add (.t 10) (.c (.int .i64 1)), none⟩, ⟨some 5, .mv (.t 11), none⟩]
def l48_7 : C := .seq (.seq (.ops p48_3) (.cond (.t 9) .skip (.exit 0))) (.seq (.block 1 (.seq (.draw d48_4) (.cond (.t 18) (.seq (.ops p48_5) .ret) .skip))) (.ops p48_6))
def p48_8 : List Vm.Op := [⟨some 4, .mv (.c (.int .i64 (-1))), none⟩]
theorem seq_d48_4 (T : Table) : drawSeq T d48_4 = true := rfl
def e48_4 : List Vm.Op := [⟨some 12, .mv (.t 0), none⟩, ⟨some 13, .mv (.t 5), none⟩, ⟨some 14, .iaSl 5 (.t 12) (.t 13), none⟩, ⟨some 15, .faddr 0 (.t 14), none⟩, ⟨some 16, .load true 2 (.t 15), none⟩, ⟨some 17, .load true 2 (.t 3), none⟩, ⟨some 18, .eq false (.st [(0, (1, .int)), (1, (1, .int))]) (.t 16) (.t 17), none⟩]
theorem go_d48_4 (T : Table) (ρ : Env) (σ : St) : run T (.draw d48_4) ρ σ = drawOut T d48_4 ρ σ (opsEv (ev T) e48_4 ρ σ) := drawn (seq_d48_4 T) ρ σ
def code48 : C := .seq (.ops p48_1) (.seq (.seq (.ops p48_2) (.block 0 (.loop l48_7))) (.seq (.ops p48_8) .ret))
def base48 : FnI := ⟨20, 2, code48, [.tmp 4], .raw⟩
/-! (*cubby/shelf.Shelf).Touch -/
def p49_1 : List Vm.Op := [⟨some 4, .box (.t 1), none⟩, ⟨some 6, .mv (.c (.bool false)), none⟩]
def p49_2 : List Vm.Op := [⟨some 8, .mv (.t 0), none⟩, ⟨some 9, .load true 2 (.t 4), none⟩, ⟨some 10, .call 79 [.t 8, .t 9], none⟩, ⟨some 7, .mv (.t 10), none⟩]
def p49_3 : List Vm.Op := [⟨some 11, .mv (.t 7), none⟩, ⟨some 12, .eq false (.nil .p) (.t 11) (.c .nilp), none⟩]
def p49_4 : List Vm.Op := [⟨some 6, .mv (.c (.bool false)), none⟩]
def p49_5 : List Vm.Op := [⟨some 13, .mv (.t 7), none⟩, ⟨some 14, .mv (.t 2), none⟩, ⟨some 15, .nilCk (.t 13), none⟩, ⟨some 16, .faddr 3 (.t 15), none⟩, ⟨none, .store 1 (.t 16) (.t 14), none⟩]
def p49_6 : List Vm.Op := [⟨some 17, .mv (.t 7), none⟩, ⟨some 18, .nilCk (.t 17), none⟩, ⟨some 19, .faddr 4 (.t 18), none⟩, ⟨some 20, .load false 1 (.t 19), none⟩, ⟨some 21, .bin .geq (.t 20) (.c (.int .i64 0)), none⟩]
def d49_7 : List Vm.DOp := [⟨⟨some 22, .mv (.t 0), none⟩, []⟩, ⟨⟨some 23, .nilCk (.t 22), none⟩, [0]⟩, ⟨⟨some 24, .faddr 3 (.t 23), none⟩, [0, 1]⟩, ⟨⟨some 25, .mkIface 131 (.t 24), none⟩, [1, 0, 2]⟩, ⟨⟨some 26, .mv (.t 7), none⟩, []⟩, ⟨⟨some 27, .nilCk (.t 26), none⟩, [4]⟩, ⟨⟨some 28, .faddr 4 (.t 27), none⟩, [4, 5]⟩, ⟨⟨some 29, .load false 1 (.t 28), none⟩, [5, 4, 6]⟩, ⟨⟨some 30, .call 80 [.t 25, .t 29], none⟩, [6, 4, 5, 7, 2, 0, 1, 3]⟩]
def p49_8 : List Vm.Op := [⟨some 6, .mv (.c (.bool true)), none⟩]
def code49 : C := .seq (.ops p49_1) (.seq (.ops p49_2) (.seq (.seq (.ops p49_3) (.cond (.t 12) (.seq (.ops p49_4) .ret) .skip)) (.seq (.ops p49_5) (.seq (.seq (.ops p49_6) (.cond (.t 21) (.draw d49_7) .skip)) (.seq (.ops p49_8) .ret)))))
def base49 : FnI := ⟨31, 3, code49, [.tmp 6], .raw⟩
/-! (*cubby/shelf.Shelf).Clean -/
def p50_1 : List Vm.Op := [⟨some 3, .box (.t 1), none⟩, ⟨some 4, .mv (.c (.bool false)), none⟩]
def p50_2 : List Vm.Op := [⟨some 6, .mv (.t 0), none⟩, ⟨some 7, .load true 2 (.t 3), none⟩, ⟨some 8, .call 79 [.t 6, .t 7], none⟩, ⟨some 5, .mv (.t 8), none⟩]
def p50_3 : List Vm.Op := [⟨some 9, .mv (.t 5), none⟩, ⟨some 10, .eq false (.nil .p) (.t 9) (.c .nilp), none⟩]
def p50_4 : List Vm.Op := [⟨some 4, .mv (.c (.bool false)), none⟩]
def p50_5 : List Vm.Op := [⟨some 11, .mv (.t 5), none⟩, ⟨some 12, .nilCk (.t 11), none⟩, ⟨some 13, .faddr 4 (.t 12), none⟩, ⟨some 14, .load false 1 (.t 13), none⟩, ⟨some 15, .bin .lss (.t 14) (.c (.int .i64 0)), none⟩]
def p50_6 : List Vm.Op := [⟨some 16, .mv (.t 0), none⟩, ⟨some 17, .nilCk (.t 16), none⟩, ⟨some 18, .faddr 3 (.t 17), none⟩, ⟨some 19, .mkIface 131 (.t 18), none⟩, ⟨some 20, .mv (.t 5), none⟩, ⟨some 21, .mkIface 127 (.t 20), none⟩, ⟨some 22, .call 76 [.t 19, .t 21], none⟩]
def p50_7 : List Vm.Op := [⟨some 4, .mv (.c (.bool true)), none⟩]
def code50 : C := .seq (.ops p50_1) (.seq (.ops p50_2) (.seq (.seq (.ops p50_3) (.cond (.t 10) (.seq (.ops p50_4) .ret) .skip)) (.seq (.seq (.ops p50_5) (.cond (.t 15) (.ops p50_6) .skip)) (.seq (.ops p50_7) .ret))))
def base50 : FnI := ⟨23, 2, code50, [.tmp 4], .raw⟩
/-! (*cubby/shelf.Shelf).Drop -/
def p51_1 : List Vm.Op := [⟨some 3, .box (.t 1), none⟩, ⟨some 4, .mv (.c (.bool false)), none⟩]
def p51_2 : List Vm.Op := [⟨some 6, .mv (.t 0), none⟩, ⟨some 7, .load true 2 (.t 3), none⟩, ⟨some 8, .call 79 [.t 6, .t 7], none⟩, ⟨some 5, .mv (.t 8), none⟩]
def p51_3 : List Vm.Op := [⟨some 9, .mv (.t 5), none⟩, ⟨some 10, .eq false (.nil .p) (.t 9) (.c .nilp), none⟩]
def p51_4 : List Vm.Op := [⟨some 4, .mv (.c (.bool false)), none⟩]
def p51_5 : List Vm.Op := [⟨some 11, .mv (.t 5), none⟩, ⟨some 12, .nilCk (.t 11), none⟩, ⟨some 13, .faddr 4 (.t 12), none⟩, ⟨some 14, .load false 1 (.t 13), none⟩, ⟨some 15, .bin .geq (.t 14) (.c (.int .i64 0)), none⟩]
def d51_6 : List Vm.DOp := [⟨⟨some 16, .mv (.t 0), none⟩, []⟩, ⟨⟨some 17, .nilCk (.t 16), none⟩, [0]⟩, ⟨⟨some 18, .faddr 3 (.t 17), none⟩, [0, 1]⟩, ⟨⟨some 19, .mkIface 131 (.t 18), none⟩, [1, 0, 2]⟩, ⟨⟨some 20, .mv (.t 5), none⟩, []⟩, ⟨⟨some 21, .nilCk (.t 20), none⟩, [4]⟩, ⟨⟨some 22, .faddr 4 (.t 21), none⟩, [4, 5]⟩, ⟨⟨some 23, .load false 1 (.t 22), none⟩, [5, 4, 6]⟩, ⟨⟨some 24, .call 81 [.t 19, .t 23], none⟩, [6, 4, 5, 7, 2, 0, 1, 3]⟩]
def d51_7 : List Vm.DOp := [⟨⟨some 25, .mv (.t 0), none⟩, []⟩, ⟨⟨some 26, .nilCk (.t 25), none⟩, [0]⟩, ⟨⟨some 27, .faddr 1 (.t 26), none⟩, [0, 1]⟩, ⟨⟨some 28, .load false 1 (.t 27), none⟩, [1, 0, 2]⟩, ⟨⟨some 29, .mv (.t 5), none⟩, []⟩, ⟨⟨some 30, .nilCk (.t 29), none⟩, [4]⟩, ⟨⟨some 31, .faddr 2 (.t 30), none⟩, [4, 5]⟩, ⟨⟨some 32, .load false 1 (.t 31), none⟩, [5, 4, 6]⟩, ⟨⟨some 33, .bin .sub (.t 28) (.t 32), none⟩, [6, 4, 5, 7, 2, 0, 1, 3]⟩, ⟨⟨some 34, .nilCk (.t 25), none⟩, [8, 7, 6, 5, 4, 3, 2, 1, 0]⟩, ⟨⟨some 35, .faddr 1 (.t 34), none⟩, [0, 1, 2, 3, 4, 5, 6, 7, 8, 9]⟩, ⟨⟨none, .store 1 (.t 35) (.t 33), none⟩, [9, 8, 7, 6, 5, 4, 3, 2, 1, 0, 10]⟩]
def d51_8 : List Vm.DOp := [⟨⟨some 36, .mv (.t 0), none⟩, []⟩, ⟨⟨some 37, .nilCk (.t 36), none⟩, [0]⟩, ⟨⟨some 38, .faddr 2 (.t 37), none⟩, [0, 1]⟩, ⟨⟨some 39, .load false 1 (.t 38), none⟩, [1, 0, 2]⟩, ⟨⟨some 40, .load true 2 (.t 3), none⟩, []⟩, ⟨⟨none, .delete (.st [(0, (1, .int)), (1, (1, .int))]) (.t 39) (.t 40), none⟩, [4, 2, 0, 1, 3]⟩]
def p51_9 : List Vm.Op := [⟨some 4, .mv (.c (.bool true)), none⟩]
theorem seq_d51_7 (T : Table) : drawSeq T d51_7 = true := rfl
def e51_7 : List Vm.Op := [⟨some 25, .mv (.t 0), none⟩, ⟨some 26, .nilCk (.t 25), none⟩, ⟨some 27, .faddr 1 (.t 26), none⟩, ⟨some 28, .load false 1 (.t 27), none⟩, ⟨some 29, .mv (.t 5), none⟩, ⟨some 30, .nilCk (.t 29), none⟩, ⟨some 31, .faddr 2 (.t 30), none⟩, ⟨some 32, .load false 1 (.t 31), none⟩, ⟨some 33, .bin .sub (.t 28) (.t 32), none⟩, ⟨some 34, .nilCk (.t 25), none⟩, ⟨some 35, .faddr 1 (.t 34), none⟩, ⟨none, .store 1 (.t 35) (.t 33), none⟩]
theorem go_d51_7 (T : Table) (ρ : Env) (σ : St) : run T (.draw d51_7) ρ σ = drawOut T d51_7 ρ σ (opsEv (ev T) e51_7 ρ σ) := drawn (seq_d51_7 T) ρ σ
theorem seq_d51_8 (T : Table) : drawSeq T d51_8 = true := rfl
def e51_8 : List Vm.Op := [⟨some 36, .mv (.t 0), none⟩, ⟨some 37, .nilCk (.t 36), none⟩, ⟨some 38, .faddr 2 (.t 37), none⟩, ⟨some 39, .load false 1 (.t 38), none⟩, ⟨some 40, .load true 2 (.t 3), none⟩, ⟨none, .delete (.st [(0, (1, .int)), (1, (1, .int))]) (.t 39) (.t 40), none⟩]
theorem go_d51_8 (T : Table) (ρ : Env) (σ : St) : run T (.draw d51_8) ρ σ = drawOut T d51_8 ρ σ (opsEv (ev T) e51_8 ρ σ) := drawn (seq_d51_8 T) ρ σ
def code51 : C := .seq (.ops p51_1) (.seq (.ops p51_2) (.seq (.seq (.ops p51_3) (.cond (.t 10) (.seq (.ops p51_4) .ret) .skip)) (.seq (.seq (.ops p51_5) (.cond (.t 15) (.draw d51_6) .skip)) (.seq (.draw d51_7) (.seq (.draw d51_8) (.seq (.ops p51_9) .ret))))))
def base51 : FnI := ⟨41, 2, code51, [.tmp 4], .raw⟩
/-! cubby/cubbylaw20.evict -/
def p52_1 : List Vm.Op := [⟨some 4, .mv (.c .nilsl), none⟩, ⟨some 5, .mv (.c .nilsl), none⟩]
def p52_2 : List Vm.Op := [⟨some 6, .mv (.c .nilsl), none⟩]
def p52_3 : List Vm.Op := [⟨some 9, .mv (.t 0), none⟩, ⟨some 10, .append 5 32 (.c .nilsl) (.t 9), none⟩, ⟨some 0, .mv (.t 10), none⟩]
def p52_4 : List Vm.Op := [⟨some 11, .mv (.t 0), none⟩, ⟨some 12, .call 53 [.t 11], none⟩, ⟨some 13, .mv (.t 1), none⟩, ⟨some 14, .bin .gtr (.t 12) (.t 13), none⟩]
def p52_5 : List Vm.Op := [⟨some 7, .mv (.c (.int .i64 (-1))), none⟩]
def p52_6 : List Vm.Op := [⟨some 8, .mv (.c (.int .i64 0)), none⟩]
def p52_7 : List Vm.Op := [⟨some 15, .mv (.t 8), none⟩, ⟨some 16, .mv (.t 0), none⟩, ⟨some 17, .len .sl (.t 16), none⟩, ⟨some 18, .bin .lss (.t 15) (.t 17), none⟩]
def d52_8 : List Vm.DOp := [⟨⟨some 21, .mv (.t 0), none⟩, []⟩, ⟨⟨some 22, .mv (.t 8), none⟩, []⟩, ⟨⟨some 23, .iaSl 5 (.t 21) (.t 22), none⟩, [1, 0]⟩, ⟨⟨some 24, .faddr 4 (.t 23), none⟩, [0, 1, 2]⟩, ⟨⟨some 25, .load false 1 (.t 24), none⟩, [2, 1, 0, 3]⟩, ⟨⟨some 26, .mv (.t 25), none⟩, [3, 0, 1, 2, 4]⟩, ⟨⟨some 27, .mv (.t 7), some (26, true)⟩, [4, 2, 1, 0, 3, 5]⟩, ⟨⟨some 28, .bin .lss (.t 27) (.c (.int .i64 0)), some (26, true)⟩, [5, 3, 0, 1, 2, 4, 6]⟩, ⟨⟨some 29, .mv (.t 28), some (26, true)⟩, [6, 4, 2, 1, 0, 3, 5, 7]⟩, ⟨⟨some 30, .mv (.t 0), some (29, false)⟩, [7, 5, 3, 0, 1, 2, 4, 6, 8]⟩, ⟨⟨some 31, .mv (.t 8), some (29, false)⟩, [7, 5, 3, 0, 1, 2, 4, 6, 8]⟩, ⟨⟨some 32, .iaSl 5 (.t 30) (.t 31), some (29, false)⟩, [10, 8, 6, 4, 2, 1, 0, 3, 5, 7, 9]⟩, ⟨⟨some 33, .load true 5 (.t 32), some (29, false)⟩, [9, 7, 5, 3, 0, 1, 2, 4, 6, 8, 10, 11]⟩, ⟨⟨some 34, .mv (.t 0), some (29, false)⟩, [7, 5, 3, 0, 1, 2, 4, 6, 8]⟩, ⟨⟨some 35, .mv (.t 7), some (29, false)⟩, [7, 5, 3, 0, 1, 2, 4, 6, 8]⟩, ⟨⟨some 36, .iaSl 5 (.t 34) (.t 35), some (29, false)⟩, [14, 8, 6, 4, 2, 1, 0, 3, 5, 7, 13]⟩, ⟨⟨some 37, .load true 5 (.t 36), some (29, false)⟩, [13, 7, 5, 3, 0, 1, 2, 4, 6, 8, 14, 15]⟩, ⟨⟨some 38, .call 82 [.t 33, .t 37], some (29, false)⟩, [15, 14, 13, 16, 11, 10, 8, 6, 4, 2, 1, 0, 3, 5, 7, 9, 12]⟩, ⟨⟨some 39, .pick (.t 29) (.c (.bool true)) (.t 38), some (26, true)⟩, [12, 9, 10, 11, 16, 13, 14, 15, 17, 7, 5, 3, 0, 1, 2, 4, 6, 8]⟩, ⟨⟨some 40, .pick (.t 26) (.t 39) (.c (.bool false)), none⟩, [8, 6, 7, 17, 15, 14, 13, 16, 11, 10, 9, 12, 18, 4, 2, 1, 0, 3, 5]⟩]
def p52_9 : List Vm.Op := [⟨some 41, .mv (.t 8), none⟩, ⟨some 7, .mv (.t 41), none⟩]
def p52_10 : List Vm.Op := [⟨some 19, .mv (.t 8), none⟩, ⟨some 20, .bin .add (.t 19) (.c (.int .i64 1)), none⟩, ⟨some 8, .mv (.t 20), none⟩]
def l52_11 : C := .seq (.seq (.ops p52_7) (.cond (.t 18) .skip (.exit 2))) (.seq (.block 3 (.seq (.draw d52_8) (.cond (.t 40) (.ops p52_9) .skip))) (.ops p52_10))
def p52_12 : List Vm.Op := [⟨some 42, .mv (.t 7), none⟩, ⟨some 43, .bin .lss (.t 42) (.c (.int .i64 0)), none⟩]
def p52_13 : List Vm.Op := [⟨some 44, .mv (.t 6), none⟩, ⟨some 45, .mv (.t 0), none⟩, ⟨some 46, .mv (.t 7), none⟩, ⟨some 47, .iaSl 5 (.t 45) (.t 46), none⟩, ⟨some 48, .faddr 0 (.t 47), none⟩, ⟨some 49, .load true 2 (.t 48), none⟩, ⟨some 50, .buildSl 1 2 [.int .u32 0, .int .u32 0] [(0, (2, .t 49))], none⟩, ⟨some 51, .append 2 8 (.t 44) (.t 50), none⟩, ⟨some 6, .mv (.t 51), none⟩]
def d52_14 : List Vm.DOp := [⟨⟨some 52, .mv (.t 0), none⟩, []⟩, ⟨⟨some 53, .mv (.t 7), none⟩, []⟩, ⟨⟨some 54, .slSl 5 (.t 52) none (some (.t 53)) none, none⟩, [1, 0]⟩, ⟨⟨some 55, .mv (.t 0), none⟩, []⟩, ⟨⟨some 56, .mv (.t 7), none⟩, []⟩, ⟨⟨some 57, .bin .add (.t 56) (.c (.int .i64 1)), none⟩, [4]⟩, ⟨⟨some 58, .slSl 5 (.t 55) (some (.t 57)) none none, none⟩, [4, 5, 3]⟩, ⟨⟨some 59, .append 5 32 (.t 54) (.t 58), none⟩, [3, 5, 4, 6, 0, 1, 2]⟩, ⟨⟨some 0, .mv (.t 59), none⟩, [2, 1, 0, 6, 4, 5, 3, 7]⟩]
def l52_15 : C := .seq (.seq (.ops p52_4) (.cond (.t 14) .skip (.exit 0))) (.block 1 (.seq (.ops p52_5) (.seq (.seq (.ops p52_6) (.block 2 (.loop l52_11))) (.seq (.seq (.ops p52_12) (.cond (.t 43) (.exit 0) .skip)) (.seq (.ops p52_13) (.draw d52_14))))))
def p52_16 : List Vm.Op := [⟨some 60, .mv (.t 6), none⟩, ⟨some 61, .mv (.t 0), none⟩, ⟨some 4, .mv (.t 60), none⟩, ⟨some 5, .mv (.t 61), none⟩]
theorem seq_d52_14 (T : Table) : drawSeq T d52_14 = true := rfl
def e52_14 : List Vm.Op := [⟨some 52, .mv (.t 0), none⟩, ⟨some 53, .mv (.t 7), none⟩, ⟨some 54, .slSl 5 (.t 52) none (some (.t 53)) none, none⟩, ⟨some 55, .mv (.t 0), none⟩, ⟨some 56, .mv (.t 7), none⟩, ⟨some 57, .bin .add (.t 56) (.c (.int .i64 1)), none⟩, ⟨some 58, .slSl 5 (.t 55) (some (.t 57)) none none, none⟩, ⟨some 59, .append 5 32 (.t 54) (.t 58), none⟩, ⟨some 0, .mv (.t 59), none⟩]
theorem go_d52_14 (T : Table) (ρ : Env) (σ : St) : run T (.draw d52_14) ρ σ = drawOut T d52_14 ρ σ (opsEv (ev T) e52_14 ρ σ) := drawn (seq_d52_14 T) ρ σ
def code52 : C := .seq (.ops p52_1) (.seq (.ops p52_2) (.seq (.ops p52_3) (.seq (.block 0 (.loop l52_15)) (.seq (.ops p52_16) .ret))))
def base52 : FnI := ⟨62, 2, code52, [.tmp 4, .tmp 5], .raw⟩
/-! cubby/cubbylaw20.size -/
def p53_1 : List Vm.Op := [⟨some 2, .mv (.c (.int .i64 0)), none⟩]
def p53_2 : List Vm.Op := [⟨some 3, .mv (.c (.int .i64 0)), none⟩]
def p53_3 : List Vm.Op := [⟨some 4, .mv (.c (.int .i64 0)), none⟩]
def p53_4 : List Vm.Op := [⟨some 5, .mv (.t 4), none⟩, ⟨some 6, .mv (.t 0), none⟩, ⟨some 7, .len .sl (.t 6), none⟩, ⟨some 8, .bin .lss (.t 5) (.t 7), none⟩]
def p53_5 : List Vm.Op := [⟨some 11, .mv (.t 3), none⟩, ⟨some 12, .mv (.t 0), none⟩, ⟨some 13, .mv (.t 4), none⟩, ⟨some 14, .iaSl 5 (.t 12) (.t 13), none⟩, ⟨some 15, .faddr 2 (.t 14), none⟩, ⟨some 16, .load false 1 (.t 15), none⟩, ⟨some 17, .bin .add (.t 11) (.t 16), none⟩, ⟨some 3, .mv (.t 17), none⟩]
def p53_6 : List Vm.Op := [⟨some 9, .mv (.t 4), none⟩, ⟨some 10, .bin .add (.t 9) (.c (.int .i64 1)), none⟩, ⟨some 4, .mv (.t 10), none⟩]
def l53_7 : C := .seq (.seq (.ops p53_4) (.cond (.t 8) .skip (.exit 0))) (.seq (.block 1 (.ops p53_5)) (.ops p53_6))
def p53_8 : List Vm.Op := [⟨some 18, .mv (.t 3), none⟩, ⟨some 2, .mv (.t 18), none⟩]
def code53 : C := .seq (.ops p53_1) (.seq (.ops p53_2) (.seq (.seq (.ops p53_3) (.block 0 (.loop l53_7))) (.seq (.ops p53_8) .ret)))
def base53 : FnI := ⟨19, 1, code53, [.tmp 2], .raw⟩
/-! container/heap.Push -/
def p76_1 : List Vm.Op := [⟨some 4, .mv (.t 0), none⟩, ⟨some 5, .mv (.t 1), none⟩, ⟨some 6, .invoke [(131, (none, 135))] (.t 4) [.t 5], none⟩]
def p76_2 : List Vm.Op := [⟨some 7, .mv (.t 0), none⟩, ⟨some 8, .mv (.t 0), none⟩, ⟨some 9, .invoke [(17, (none, 122)), (60, (none, 46)), (124, (none, 126)), (131, (some (false, 1), 126))] (.t 8) [], none⟩, ⟨some 10, .bin .sub (.t 9) (.c (.int .i64 1)), none⟩, ⟨some 11, .call 101 [.t 7, .t 10], none⟩]
def code76 : C := .seq (.ops p76_1) (.ops p76_2)
def base76 : FnI := ⟨12, 2, code76, [], .raw⟩
/-! cubby/cubbyhelp.Same[cubby/api.ID] -/
def p77_1 : List Vm.Op := [⟨some 6, .mv (.c (.bool false)), none⟩]
def p77_2 : List Vm.Op := [⟨some 8, .mv (.t 0), none⟩, ⟨some 9, .len .sl (.t 8), none⟩, ⟨some 10, .mv (.t 1), none⟩, ⟨some 11, .len .sl (.t 10), none⟩, ⟨some 12, .bin .neq (.t 9) (.t 11), none⟩]
def p77_3 : List Vm.Op := [⟨some 6, .mv (.c (.bool false)), none⟩]
def p77_4 : List Vm.Op := [⟨some 7, .mv (.c (.int .i64 0)), none⟩]
def p77_5 : List Vm.Op := [⟨some 13, .mv (.t 7), none⟩, ⟨some 14, .mv (.t 0), none⟩, ⟨some 15, .len .sl (.t 14), none⟩, ⟨some 16, .bin .lss (.t 13) (.t 15), none⟩]
def d77_6 : List Vm.DOp := [⟨⟨some 19, .mv (.t 2), none⟩, []⟩, ⟨⟨some 20, .mv (.t 0), none⟩, []⟩, ⟨⟨some 21, .mv (.t 7), none⟩, []⟩, ⟨⟨some 22, .iaSl 2 (.t 20) (.t 21), none⟩, [2, 1]⟩, ⟨⟨some 23, .load true 2 (.t 22), none⟩, [1, 2, 3]⟩, ⟨⟨some 24, .mv (.t 1), none⟩, []⟩, ⟨⟨some 25, .mv (.t 7), none⟩, []⟩, ⟨⟨some 26, .iaSl 2 (.t 24) (.t 25), none⟩, [6, 5]⟩, ⟨⟨some 27, .load true 2 (.t 26), none⟩, [5, 6, 7]⟩, ⟨⟨some 28, .callV (.t 19) [.t 23, .t 27], none⟩, [7, 6, 5, 8, 3, 2, 1, 4, 0]⟩, ⟨⟨some 29, .un .not (.t 28), none⟩, [0, 4, 1, 2, 3, 8, 5, 6, 7, 9]⟩]
def p77_7 : List Vm.Op := [⟨some 6, .mv (.c (.bool false)), none⟩]
def p77_8 : List Vm.Op := [⟨some 17, .mv (.t 7), none⟩, ⟨some 18, .bin .add (.t 17) (.c (.int .i64 1)), none⟩, ⟨some 7, .mv (.t 18), none⟩]
def l77_9 : C := .seq (.seq (.ops p77_5) (.cond (.t 16) .skip (.exit 0))) (.seq (.block 1 (.seq (.draw d77_6) (.cond (.t 29) (.seq (.ops p77_7) .ret) .skip))) (.ops p77_8))
def p77_10 : List Vm.Op := [⟨some 6, .mv (.c (.bool true)), none⟩]
def code77 : C := .seq (.ops p77_1) (.seq (.seq (.ops p77_2) (.cond (.t 12) (.seq (.ops p77_3) .ret) .skip)) (.seq (.seq (.ops p77_4) (.block 0 (.loop l77_9))) (.seq (.ops p77_10) .ret)))
def base77 : FnI := ⟨30, 3, code77, [.tmp 6], .raw⟩
/-! cubby/cubbyhelp.Plain[cubby/api.ID]$1 -/
def p78_1 : List Vm.Op := [⟨some 2, .box (.t 0), none⟩, ⟨some 3, .box (.t 1), none⟩, ⟨some 4, .mv (.c (.bool false)), none⟩]
def p78_2 : List Vm.Op := [⟨some 5, .load true 2 (.t 2), none⟩, ⟨some 6, .load true 2 (.t 3), none⟩, ⟨some 7, .eq false (.st [(0, (1, .int)), (1, (1, .int))]) (.t 5) (.t 6), none⟩, ⟨some 4, .mv (.t 7), none⟩]
def code78 : C := .seq (.ops p78_1) (.seq (.ops p78_2) .ret)
def base78 : FnI := ⟨8, 2, code78, [.tmp 4], .raw⟩
/-! (*cubby/shelf.Shelf).find -/
def p79_1 : List Vm.Op := [⟨some 3, .box (.t 1), none⟩, ⟨some 4, .mv (.c .nilp), none⟩]
def p79_2 : List Vm.Op := [⟨some 5, .mv (.t 0), none⟩, ⟨some 6, .eq false (.nil .p) (.t 5) (.c .nilp), none⟩]
def p79_3 : List Vm.Op := [⟨some 4, .mv (.c .nilp), none⟩]
def d79_4 : List Vm.DOp := [⟨⟨some 7, .mv (.t 0), none⟩, []⟩, ⟨⟨some 8, .nilCk (.t 7), none⟩, [0]⟩, ⟨⟨some 9, .faddr 2 (.t 8), none⟩, [0, 1]⟩, ⟨⟨some 10, .load false 1 (.t 9), none⟩, [1, 0, 2]⟩, ⟨⟨some 11, .load true 2 (.t 3), none⟩, []⟩, ⟨⟨some 12, .lookup (.st [(0, (1, .int)), (1, (1, .int))]) .nilp false (.t 10) (.t 11), none⟩, [4, 2, 0, 1, 3]⟩, ⟨⟨some 4, .mv (.t 12), none⟩, [3, 1, 0, 2, 4, 5]⟩]
theorem seq_d79_4 (T : Table) : drawSeq T d79_4 = true := rfl
def e79_4 : List Vm.Op := [⟨some 7, .mv (.t 0), none⟩, ⟨some 8, .nilCk (.t 7), none⟩, ⟨some 9, .faddr 2 (.t 8), none⟩, ⟨some 10, .load false 1 (.t 9), none⟩, ⟨some 11, .load true 2 (.t 3), none⟩, ⟨some 12, .lookup (.st [(0, (1, .int)), (1, (1, .int))]) .nilp false (.t 10) (.t 11), none⟩, ⟨some 4, .mv (.t 12), none⟩]
theorem go_d79_4 (T : Table) (ρ : Env) (σ : St) : run T (.draw d79_4) ρ σ = drawOut T d79_4 ρ σ (opsEv (ev T) e79_4 ρ σ) := drawn (seq_d79_4 T) ρ σ
def code79 : C := .seq (.ops p79_1) (.seq (.seq (.ops p79_2) (.cond (.t 6) (.seq (.ops p79_3) .ret) .skip)) (.seq (.draw d79_4) .ret))
def base79 : FnI := ⟨13, 2, code79, [.tmp 4], .raw⟩
/-! container/heap.Fix -/
def p80_1 : List Vm.Op := [⟨some 4, .mv (.t 0), none⟩, ⟨some 5, .mv (.t 1), none⟩, ⟨some 6, .mv (.t 0), none⟩, ⟨some 7, .invoke [(17, (none, 122)), (60, (none, 46)), (124, (none, 126)), (131, (some (false, 1), 126))] (.t 6) [], none⟩, ⟨some 8, .call 102 [.t 4, .t 5, .t 7], none⟩, ⟨some 9, .un .not (.t 8), none⟩]
def p80_2 : List Vm.Op := [⟨some 10, .mv (.t 0), none⟩, ⟨some 11, .mv (.t 1), none⟩, ⟨some 12, .call 101 [.t 10, .t 11], none⟩]
def code80 : C := .seq (.ops p80_1) (.cond (.t 9) (.ops p80_2) .skip)
def base80 : FnI := ⟨13, 2, code80, [], .raw⟩
/-! container/heap.Remove -/
def p81_1 : List Vm.Op := [⟨some 4, .mv (.c .nilIface), none⟩]
def p81_2 : List Vm.Op := [⟨some 6, .mv (.t 0), none⟩, ⟨some 7, .invoke [(17, (none, 122)), (60, (none, 46)), (124, (none, 126)), (131, (some (false, 1), 126))] (.t 6) [], none⟩, ⟨some 8, .bin .sub (.t 7) (.c (.int .i64 1)), none⟩, ⟨some 5, .mv (.t 8), none⟩]
def p81_3 : List Vm.Op := [⟨some 9, .mv (.t 5), none⟩, ⟨some 10, .mv (.t 1), none⟩, ⟨some 11, .bin .neq (.t 9) (.t 10), none⟩]
def p81_4 : List Vm.Op := [⟨some 12, .mv (.t 0), none⟩, ⟨some 13, .mv (.t 1), none⟩, ⟨some 14, .mv (.t 5), none⟩, ⟨some 15, .invoke [(124, (none, 128)), (131, (some (false, 1), 128))] (.t 12) [.t 13, .t 14], none⟩]
def p81_5 : List Vm.Op := [⟨some 16, .mv (.t 0), none⟩, ⟨some 17, .mv (.t 1), none⟩, ⟨some 18, .mv (.t 5), none⟩, ⟨some 19, .call 102 [.t 16, .t 17, .t 18], none⟩, ⟨some 20, .un .not (.t 19), none⟩]
def p81_6 : List Vm.Op := [⟨some 21, .mv (.t 0), none⟩, ⟨some 22, .mv (.t 1), none⟩, ⟨some 23, .call 101 [.t 21, .t 22], none⟩]
def p81_7 : List Vm.Op := [⟨some 24, .mv (.t 0), none⟩, ⟨some 25, .invoke [(131, (none, 134))] (.t 24) [], none⟩, ⟨some 4, .mv (.t 25), none⟩]
def code81 : C := .seq (.ops p81_1) (.seq (.ops p81_2) (.seq (.seq (.ops p81_3) (.cond (.t 11) (.seq (.ops p81_4) (.seq (.ops p81_5) (.cond (.t 20) (.ops p81_6) .skip))) .skip)) (.seq (.ops p81_7) .ret)))
def base81 : FnI := ⟨26, 2, code81, [.tmp 4], .raw⟩
/-! cubby/cubbylaw20.less -/
def p82_1 : List Vm.Op := [⟨some 2, .box (.t 0), none⟩, ⟨some 3, .box (.t 1), none⟩, ⟨some 4, .mv (.c (.bool false)), none⟩]
def p82_2 : List Vm.Op := [⟨some 5, .faddr 3 (.t 2), none⟩, ⟨some 6, .load false 1 (.t 5), none⟩, ⟨some 7, .faddr 3 (.t 3), none⟩, ⟨some 8, .load false 1 (.t 7), none⟩, ⟨some 9, .bin .neq (.t 6) (.t 8), none⟩]
def p82_3 : List Vm.Op := [⟨some 10, .faddr 3 (.t 2), none⟩, ⟨some 11, .load false 1 (.t 10), none⟩, ⟨some 12, .faddr 3 (.t 3), none⟩, ⟨some 13, .load false 1 (.t 12), none⟩, ⟨some 14, .bin .lss (.t 11) (.t 13), none⟩, ⟨some 4, .mv (.t 14), none⟩]
def p82_4 : List Vm.Op := [⟨some 15, .faddr 0 (.t 2), none⟩, ⟨some 16, .faddr 0 (.t 15), none⟩, ⟨some 17, .load false 1 (.t 16), none⟩, ⟨some 18, .faddr 0 (.t 3), none⟩, ⟨some 19, .faddr 0 (.t 18), none⟩, ⟨some 20, .load false 1 (.t 19), none⟩, ⟨some 21, .bin .neq (.t 17) (.t 20), none⟩]
def p82_5 : List Vm.Op := [⟨some 22, .faddr 0 (.t 2), none⟩, ⟨some 23, .faddr 0 (.t 22), none⟩, ⟨some 24, .load false 1 (.t 23), none⟩, ⟨some 25, .faddr 0 (.t 3), none⟩, ⟨some 26, .faddr 0 (.t 25), none⟩, ⟨some 27, .load false 1 (.t 26), none⟩, ⟨some 28, .bin .lss (.t 24) (.t 27), none⟩, ⟨some 4, .mv (.t 28), none⟩]
def p82_6 : List Vm.Op := [⟨some 29, .faddr 0 (.t 2), none⟩, ⟨some 30, .faddr 1 (.t 29), none⟩, ⟨some 31, .load false 1 (.t 30), none⟩, ⟨some 32, .faddr 0 (.t 3), none⟩, ⟨some 33, .faddr 1 (.t 32), none⟩, ⟨some 34, .load false 1 (.t 33), none⟩, ⟨some 35, .bin .lss (.t 31) (.t 34), none⟩, ⟨some 4, .mv (.t 35), none⟩]
def code82 : C := .seq (.ops p82_1) (.seq (.seq (.ops p82_2) (.cond (.t 9) (.seq (.ops p82_3) .ret) .skip)) (.seq (.seq (.ops p82_4) (.cond (.t 21) (.seq (.ops p82_5) .ret) .skip)) (.seq (.ops p82_6) .ret)))
def base82 : FnI := ⟨36, 2, code82, [.tmp 4], .raw⟩
/-! container/heap.up -/
def p101_1 : List Vm.Op := [⟨some 5, .mv (.t 1), none⟩, ⟨some 6, .bin .sub (.t 5) (.c (.int .i64 1)), none⟩, ⟨some 7, .bin .quo (.t 6) (.c (.int .i64 2)), none⟩, ⟨some 4, .mv (.t 7), none⟩]
def p101_2 : List Vm.Op := [⟨some 8, .mv (.t 4), none⟩, ⟨some 9, .mv (.t 1), none⟩, ⟨some 10, .bin .eql (.t 8) (.t 9), none⟩, ⟨some 11, .mv (.t 10), none⟩, ⟨some 12, .mv (.t 0), some (11, false)⟩, ⟨some 13, .mv (.t 1), some (11, false)⟩, ⟨some 14, .mv (.t 4), some (11, false)⟩, ⟨some 15, .invoke [(124, (none, 127)), (131, (some (false, 1), 127))] (.t 12) [.t 13, .t 14], some (11, false)⟩, ⟨some 16, .un .not (.t 15), some (11, false)⟩, ⟨some 17, .pick (.t 11) (.c (.bool true)) (.t 16), none⟩]
def p101_3 : List Vm.Op := [⟨some 18, .mv (.t 0), none⟩, ⟨some 19, .mv (.t 4), none⟩, ⟨some 20, .mv (.t 1), none⟩, ⟨some 21, .invoke [(124, (none, 128)), (131, (some (false, 1), 128))] (.t 18) [.t 19, .t 20], none⟩]
def p101_4 : List Vm.Op := [⟨some 22, .mv (.t 4), none⟩, ⟨some 1, .mv (.t 22), none⟩]
def l101_5 : C := .block 1 (.seq (.ops p101_1) (.seq (.seq (.ops p101_2) (.cond (.t 17) (.exit 0) .skip)) (.seq (.ops p101_3) (.ops p101_4))))
def code101 : C := .block 0 (.loop l101_5)
def base101 : FnI := ⟨23, 2, code101, [], .raw⟩
/-! container/heap.down -/
def p102_1 : List Vm.Op := [⟨some 6, .mv (.c (.bool false)), none⟩]
def p102_2 : List Vm.Op := [⟨some 11, .mv (.t 1), none⟩, ⟨some 7, .mv (.t 11), none⟩]
def p102_3 : List Vm.Op := [⟨some 12, .mv (.t 7), none⟩, ⟨some 13, .bin .mul (.c (.int .i64 2)) (.t 12), none⟩, ⟨some 14, .bin .add (.t 13) (.c (.int .i64 1)), none⟩, ⟨some 8, .mv (.t 14), none⟩]
def p102_4 : List Vm.Op := [⟨some 15, .mv (.t 8), none⟩, ⟨some 16, .mv (.t 2), none⟩, ⟨some 17, .bin .geq (.t 15) (.t 16), none⟩, ⟨some 18, .mv (.t 17), none⟩, ⟨some 19, .mv (.t 8), some (18, false)⟩, ⟨some 20, .bin .lss (.t 19) (.c (.int .i64 0)), some (18, false)⟩, ⟨some 21, .pick (.t 18) (.c (.bool true)) (.t 20), none⟩]
def p102_5 : List Vm.Op := [⟨some 22, .mv (.t 8), none⟩, ⟨some 9, .mv (.t 22), none⟩]
def p102_6 : List Vm.Op := [⟨some 23, .mv (.t 8), none⟩, ⟨some 24, .bin .add (.t 23) (.c (.int .i64 1)), none⟩, ⟨some 10, .mv (.t 24), none⟩]
def p102_7 : List Vm.Op := [⟨some 25, .mv (.t 10), none⟩, ⟨some 26, .mv (.t 2), none⟩, ⟨some 27, .bin .lss (.t 25) (.t 26), none⟩, ⟨some 28, .mv (.t 27), none⟩, ⟨some 29, .mv (.t 0), some (28, true)⟩, ⟨some 30, .mv (.t 10), some (28, true)⟩, ⟨some 31, .mv (.t 8), some (28, true)⟩, ⟨some 32, .invoke [(124, (none, 127)), (131, (some (false, 1), 127))] (.t 29) [.t 30, .t 31], some (28, true)⟩, ⟨some 33, .pick (.t 28) (.t 32) (.c (.bool false)), none⟩]
def p102_8 : List Vm.Op := [⟨some 34, .mv (.t 10), none⟩, ⟨some 9, .mv (.t 34), none⟩]
def p102_9 : List Vm.Op := [⟨some 35, .mv (.t 0), none⟩, ⟨some 36, .mv (.t 9), none⟩, ⟨some 37, .mv (.t 7), none⟩, ⟨some 38, .invoke [(124, (none, 127)), (131, (some (false, 1), 127))] (.t 35) [.t 36, .t 37], none⟩, ⟨some 39, .un .not (.t 38), none⟩]
def p102_10 : List Vm.Op := [⟨some 40, .mv (.t 0), none⟩, ⟨some 41, .mv (.t 7), none⟩, ⟨some 42, .mv (.t 9), none⟩, ⟨some 43, .invoke [(124, (none, 128)), (131, (some (false, 1), 128))] (.t 40) [.t 41, .t 42], none⟩]
def p102_11 : List Vm.Op := [⟨some 44, .mv (.t 9), none⟩, ⟨some 7, .mv (.t 44), none⟩]
def l102_12 : C := .block 1 (.seq (.ops p102_3) (.seq (.seq (.ops p102_4) (.cond (.t 21) (.exit 0) .skip)) (.seq (.ops p102_5) (.seq (.seq (.ops p102_6) (.seq (.ops p102_7) (.cond (.t 33) (.ops p102_8) .skip))) (.seq (.seq (.ops p102_9) (.cond (.t 39) (.exit 0) .skip)) (.seq (.ops p102_10) (.ops p102_11)))))))
def p102_13 : List Vm.Op := [⟨some 45, .mv (.t 7), none⟩, ⟨some 46, .mv (.t 1), none⟩, ⟨some 47, .bin .gtr (.t 45) (.t 46), none⟩, ⟨some 6, .mv (.t 47), none⟩]
def code102 : C := .seq (.ops p102_1) (.seq (.ops p102_2) (.seq (.block 0 (.loop l102_12)) (.seq (.ops p102_13) .ret)))
def base102 : FnI := ⟨48, 3, code102, [.tmp 6], .raw⟩
/-! (cubby/shelf.clean).Len -/
def p126_1 : List Vm.Op := [⟨some 2, .mv (.c (.int .i64 0)), none⟩]
def p126_2 : List Vm.Op := [⟨some 3, .mv (.t 0), none⟩, ⟨some 4, .len .sl (.t 3), none⟩, ⟨some 2, .mv (.t 4), none⟩]
def code126 : C := .seq (.ops p126_1) (.seq (.ops p126_2) .ret)
def base126 : FnI := ⟨5, 1, code126, [.tmp 2], .raw⟩
/-! (cubby/shelf.clean).Less -/
def p127_1 : List Vm.Op := [⟨some 6, .mv (.c (.bool false)), none⟩]
def d127_2 : List Vm.DOp := [⟨⟨some 9, .mv (.t 0), none⟩, []⟩, ⟨⟨some 10, .mv (.t 1), none⟩, []⟩, ⟨⟨some 11, .iaSl 1 (.t 9) (.t 10), none⟩, [1, 0]⟩, ⟨⟨some 12, .load false 1 (.t 11), none⟩, [0, 1, 2]⟩, ⟨⟨some 13, .mv (.t 0), none⟩, []⟩, ⟨⟨some 14, .mv (.t 2), none⟩, []⟩, ⟨⟨some 15, .iaSl 1 (.t 13) (.t 14), none⟩, [5, 4]⟩, ⟨⟨some 16, .load false 1 (.t 15), none⟩, [4, 5, 6]⟩, ⟨⟨some 7, .mv (.t 12), none⟩, [2, 1, 0, 3]⟩, ⟨⟨some 8, .mv (.t 16), none⟩, [3, 0, 1, 2, 8, 6, 5, 4, 7]⟩]
def d127_3 : List Vm.DOp := [⟨⟨some 17, .mv (.t 7), none⟩, []⟩, ⟨⟨some 18, .nilCk (.t 17), none⟩, [0]⟩, ⟨⟨some 19, .faddr 3 (.t 18), none⟩, [0, 1]⟩, ⟨⟨some 20, .load false 1 (.t 19), none⟩, [1, 0, 2]⟩, ⟨⟨some 21, .mv (.t 8), none⟩, []⟩, ⟨⟨some 22, .nilCk (.t 21), none⟩, [4]⟩, ⟨⟨some 23, .faddr 3 (.t 22), none⟩, [4, 5]⟩, ⟨⟨some 24, .load false 1 (.t 23), none⟩, [5, 4, 6]⟩, ⟨⟨some 25, .call 130 [.t 20, .t 24], none⟩, [6, 4, 5, 7, 2, 0, 1, 3]⟩, ⟨⟨some 26, .mv (.t 7), none⟩, []⟩, ⟨⟨some 27, .nilCk (.t 26), none⟩, [9]⟩, ⟨⟨some 28, .faddr 0 (.t 27), none⟩, [9, 10]⟩, ⟨⟨some 29, .faddr 0 (.t 28), none⟩, [10, 9, 11]⟩, ⟨⟨some 30, .load false 1 (.t 29), none⟩, [11, 9, 10, 12]⟩, ⟨⟨some 31, .mv (.t 8), none⟩, []⟩, ⟨⟨some 32, .nilCk (.t 31), none⟩, [14]⟩, ⟨⟨some 33, .faddr 0 (.t 32), none⟩, [14, 15]⟩, ⟨⟨some 34, .faddr 0 (.t 33), none⟩, [15, 14, 16]⟩, ⟨⟨some 35, .load false 1 (.t 34), none⟩, [16, 14, 15, 17]⟩, ⟨⟨some 36, .call 131 [.t 30, .t 35], none⟩, [3, 1, 0, 2, 7, 5, 4, 6, 8, 17, 15, 14, 16, 18, 12, 10, 9, 11, 13]⟩, ⟨⟨some 37, .mv (.t 7), none⟩, []⟩, ⟨⟨some 38, .nilCk (.t 37), none⟩, [20]⟩, ⟨⟨some 39, .faddr 0 (.t 38), none⟩, [20, 21]⟩, ⟨⟨some 40, .faddr 1 (.t 39), none⟩, [21, 20, 22]⟩, ⟨⟨some 41, .load false 1 (.t 40), none⟩, [22, 20, 21, 23]⟩, ⟨⟨some 42, .mv (.t 8), none⟩, []⟩, ⟨⟨some 43, .nilCk (.t 42), none⟩, [25]⟩, ⟨⟨some 44, .faddr 0 (.t 43), none⟩, [25, 26]⟩, ⟨⟨some 45, .faddr 1 (.t 44), none⟩, [26, 25, 27]⟩, ⟨⟨some 46, .load false 1 (.t 45), none⟩, [27, 25, 26, 28]⟩, ⟨⟨some 47, .call 131 [.t 41, .t 46], none⟩, [13, 11, 9, 10, 12, 18, 16, 14, 15, 17, 8, 6, 4, 5, 7, 2, 0, 1, 3, 19, 28, 26, 25, 27, 29, 23, 21, 20, 22, 24]⟩, ⟨⟨some 48, .buildSl 3 1 [.int .i64 0, .int .i64 0, .int .i64 0] [(0, (1, .t 25)), (1, (1, .t 36)), (2, (1, .t 47))], none⟩, [24, 22, 20, 21, 23, 29, 27, 25, 26, 28, 30, 13, 11, 9, 10, 12, 18, 16, 14, 15, 17, 19, 3, 1, 0, 2, 7, 5, 4, 6, 8]⟩, ⟨⟨some 49, .call 129 [.t 48], none⟩, [8, 6, 4, 5, 7, 2, 0, 1, 3, 19, 17, 15, 14, 16, 18, 12, 10, 9, 11, 13, 30, 28, 26, 25, 27, 29, 23, 21, 20, 22, 24, 31]⟩, ⟨⟨some 50, .bin .lss (.t 49) (.c (.int .i64 0)), none⟩, [31, 24, 22, 20, 21, 23, 29, 27, 25, 26, 28, 30, 13, 11, 9, 10, 12, 18, 16, 14, 15, 17, 19, 3, 1, 0, 2, 7, 5, 4, 6, 8, 32]⟩, ⟨⟨some 6, .mv (.t 50), none⟩, [32, 8, 6, 4, 5, 7, 2, 0, 1, 3, 19, 17, 15, 14, 16, 18, 12, 10, 9, 11, 13, 30, 28, 26, 25, 27, 29, 23, 21, 20, 22, 24, 31, 33]⟩]
theorem seq_d127_2 (T : Table) : drawSeq T d127_2 = true := rfl
def e127_2 : List Vm.Op := [⟨some 9, .mv (.t 0), none⟩, ⟨some 10, .mv (.t 1), none⟩, ⟨some 11, .iaSl 1 (.t 9) (.t 10), none⟩, ⟨some 12, .load false 1 (.t 11), none⟩, ⟨some 13, .mv (.t 0), none⟩, ⟨some 14, .mv (.t 2), none⟩, ⟨some 15, .iaSl 1 (.t 13) (.t 14), none⟩, ⟨some 16, .load false 1 (.t 15), none⟩, ⟨some 7, .mv (.t 12), none⟩, ⟨some 8, .mv (.t 16), none⟩]
theorem go_d127_2 (T : Table) (ρ : Env) (σ : St) : run T (.draw d127_2) ρ σ = drawOut T d127_2 ρ σ (opsEv (ev T) e127_2 ρ σ) := drawn (seq_d127_2 T) ρ σ
def code127 : C := .seq (.ops p127_1) (.seq (.draw d127_2) (.seq (.draw d127_3) .ret))
def base127 : FnI := ⟨51, 3, code127, [.tmp 6], .raw⟩
/-! (cubby/shelf.clean).Swap -/
def d128_1 : List Vm.DOp := [⟨⟨some 6, .mv (.t 0), none⟩, []⟩, ⟨⟨some 7, .mv (.t 1), none⟩, []⟩, ⟨⟨some 8, .mv (.t 0), none⟩, []⟩, ⟨⟨some 9, .mv (.t 2), none⟩, []⟩, ⟨⟨some 10, .mv (.t 0), none⟩, []⟩, ⟨⟨some 11, .mv (.t 2), none⟩, []⟩, ⟨⟨some 12, .iaSl 1 (.t 10) (.t 11), none⟩, [5, 4]⟩, ⟨⟨some 13, .load false 1 (.t 12), none⟩, [4, 5, 6]⟩, ⟨⟨some 14, .mv (.t 0), none⟩, []⟩, ⟨⟨some 15, .mv (.t 1), none⟩, []⟩, ⟨⟨some 16, .iaSl 1 (.t 14) (.t 15), none⟩, [9, 8]⟩, ⟨⟨some 17, .load false 1 (.t 16), none⟩, [8, 9, 10]⟩, ⟨⟨some 18, .iaSl 1 (.t 6) (.t 7), none⟩, [10, 9, 8, 11, 7, 6, 5, 4, 1, 0]⟩, ⟨⟨none, .store 1 (.t 18) (.t 13), none⟩, [0, 1, 4, 5, 6, 7, 11, 8, 9, 10, 12]⟩, ⟨⟨some 19, .iaSl 1 (.t 8) (.t 9), none⟩, [13, 12, 11, 10, 9, 8, 7, 6, 5, 4, 1, 0, 3, 2]⟩, ⟨⟨none, .store 1 (.t 19) (.t 17), none⟩, [2, 3, 0, 1, 4, 5, 6, 7, 8, 9, 10, 11, 12, 13, 14]⟩]
def d128_2 : List Vm.DOp := [⟨⟨some 20, .mv (.t 0), none⟩, []⟩, ⟨⟨some 21, .mv (.t 1), none⟩, []⟩, ⟨⟨some 22, .iaSl 1 (.t 20) (.t 21), none⟩, [1, 0]⟩, ⟨⟨some 23, .load false 1 (.t 22), none⟩, [0, 1, 2]⟩, ⟨⟨some 24, .mv (.t 0), none⟩, []⟩, ⟨⟨some 25, .mv (.t 2), none⟩, []⟩, ⟨⟨some 26, .iaSl 1 (.t 24) (.t 25), none⟩, [5, 4]⟩, ⟨⟨some 27, .load false 1 (.t 26), none⟩, [4, 5, 6]⟩, ⟨⟨some 28, .mv (.t 1), none⟩, []⟩, ⟨⟨some 29, .mv (.t 2), none⟩, []⟩, ⟨⟨some 30, .nilCk (.t 23), none⟩, [8, 6, 5, 4, 7, 2, 1, 0, 3]⟩, ⟨⟨some 31, .faddr 4 (.t 30), none⟩, [3, 0, 1, 2, 7, 4, 5, 6, 8, 10]⟩, ⟨⟨none, .store 1 (.t 31) (.t 28), none⟩, [10, 8, 6, 5, 4, 7, 2, 1, 0, 3, 11]⟩, ⟨⟨some 32, .nilCk (.t 27), none⟩, [12, 11, 10, 9, 8, 3, 2, 1, 0, 6, 5, 4, 7]⟩, ⟨⟨some 33, .faddr 4 (.t 32), none⟩, [7, 4, 5, 6, 0, 1, 2, 3, 8, 9, 10, 11, 12, 13]⟩, ⟨⟨none, .store 1 (.t 33) (.t 29), none⟩, [13, 12, 11, 10, 9, 8, 3, 2, 1, 0, 6, 5, 4, 7, 14]⟩]
theorem seq_d128_1 (T : Table) : drawSeq T d128_1 = true := rfl
def e128_1 : List Vm.Op := [⟨some 6, .mv (.t 0), none⟩, ⟨some 7, .mv (.t 1), none⟩, ⟨some 8, .mv (.t 0), none⟩, ⟨some 9, .mv (.t 2), none⟩, ⟨some 10, .mv (.t 0), none⟩, ⟨some 11, .mv (.t 2), none⟩, ⟨some 12, .iaSl 1 (.t 10) (.t 11), none⟩, ⟨some 13, .load false 1 (.t 12), none⟩, ⟨some 14, .mv (.t 0), none⟩, ⟨some 15, .mv (.t 1), none⟩, ⟨some 16, .iaSl 1 (.t 14) (.t 15), none⟩, ⟨some 17, .load false 1 (.t 16), none⟩, ⟨some 18, .iaSl 1 (.t 6) (.t 7), none⟩, ⟨none, .store 1 (.t 18) (.t 13), none⟩, ⟨some 19, .iaSl 1 (.t 8) (.t 9), none⟩, ⟨none, .store 1 (.t 19) (.t 17), none⟩]
theorem go_d128_1 (T : Table) (ρ : Env) (σ : St) : run T (.draw d128_1) ρ σ = drawOut T d128_1 ρ σ (opsEv (ev T) e128_1 ρ σ) := drawn (seq_d128_1 T) ρ σ
theorem seq_d128_2 (T : Table) : drawSeq T d128_2 = true := rfl
def e128_2 : List Vm.Op := [⟨some 20, .mv (.t 0), none⟩, ⟨some 21, .mv (.t 1), none⟩, ⟨some 22, .iaSl 1 (.t 20) (.t 21), none⟩, ⟨some 23, .load false 1 (.t 22), none⟩, ⟨some 24, .mv (.t 0), none⟩, ⟨some 25, .mv (.t 2), none⟩, ⟨some 26, .iaSl 1 (.t 24) (.t 25), none⟩, ⟨some 27, .load false 1 (.t 26), none⟩, ⟨some 28, .mv (.t 1), none⟩, ⟨some 29, .mv (.t 2), none⟩, ⟨some 30, .nilCk (.t 23), none⟩, ⟨some 31, .faddr 4 (.t 30), none⟩, ⟨none, .store 1 (.t 31) (.t 28), none⟩, ⟨some 32, .nilCk (.t 27), none⟩, ⟨some 33, .faddr 4 (.t 32), none⟩, ⟨none, .store 1 (.t 33) (.t 29), none⟩]
theorem go_d128_2 (T : Table) (ρ : Env) (σ : St) : run T (.draw d128_2) ρ σ = drawOut T d128_2 ρ σ (opsEv (ev T) e128_2 ρ σ) := drawn (seq_d128_2 T) ρ σ
def code128 : C := .seq (.draw d128_1) (.draw d128_2)
def base128 : FnI := ⟨34, 3, code128, [], .raw⟩
/-! cmp.Or[int] -/
def p129_1 : List Vm.Op := [⟨some 2, .mv (.c (.int .i64 0)), none⟩]
def p129_2 : List Vm.Op := [⟨some 3, .mv (.c (.int .i64 0)), none⟩]
def p129_3 : List Vm.Op := [⟨some 6, .mv (.t 0), none⟩, ⟨some 7, .len .sl (.t 6), none⟩, ⟨some 8, .mv (.c (.int .i64 0)), none⟩]
def p129_4 : List Vm.Op := [⟨some 9, .bin .lss (.t 8) (.t 7), none⟩]
def p129_5 : List Vm.Op := [⟨some 10, .iaSl 1 (.t 6) (.t 8), none⟩, ⟨some 11, .load false 1 (.t 10), none⟩, ⟨some 5, .mv (.t 11), none⟩]
def p129_6 : List Vm.Op := [⟨some 12, .mv (.t 5), none⟩, ⟨some 13, .mv (.t 3), none⟩, ⟨some 14, .bin .neq (.t 12) (.t 13), none⟩]
def p129_7 : List Vm.Op := [⟨some 15, .mv (.t 5), none⟩, ⟨some 2, .mv (.t 15), none⟩]
def p129_8 : List Vm.Op := [⟨some 16, .bin .add (.t 8) (.c (.int .i64 1)), none⟩, ⟨some 8, .mv (.t 16), none⟩]
def l129_9 : C := .seq (.ops p129_4) (.seq (.cond (.t 9) .skip (.exit 0)) (.seq (.block 1 (.seq (.ops p129_5) (.seq (.ops p129_6) (.cond (.t 14) (.seq (.ops p129_7) .ret) .skip)))) (.ops p129_8)))
def p129_10 : List Vm.Op := [⟨some 17, .mv (.t 3), none⟩, ⟨some 2, .mv (.t 17), none⟩]
def code129 : C := .seq (.ops p129_1) (.seq (.ops p129_2) (.seq (.seq (.ops p129_3) (.block 0 (.loop l129_9))) (.seq (.ops p129_10) .ret)))
def base129 : FnI := ⟨18, 1, code129, [.tmp 2], .raw⟩
/-! cmp.Compare[int] -/
def p130_1 : List Vm.Op := [⟨some 4, .mv (.c (.int .i64 0)), none⟩]
def p130_2 : List Vm.Op := [⟨some 7, .mv (.t 0), none⟩, ⟨some 8, .call 132 [.t 7], none⟩, ⟨some 5, .mv (.t 8), none⟩]
def p130_3 : List Vm.Op := [⟨some 9, .mv (.t 1), none⟩, ⟨some 10, .call 132 [.t 9], none⟩, ⟨some 6, .mv (.t 10), none⟩]
def p130_4 : List Vm.Op := [⟨some 11, .mv (.t 5), none⟩]
def p130_5 : List Vm.Op := [⟨some 12, .mv (.t 6), none⟩]
def p130_6 : List Vm.Op := [⟨some 4, .mv (.c (.int .i64 0)), none⟩]
def p130_7 : List Vm.Op := [⟨some 4, .mv (.c (.int .i64 (-1))), none⟩]
def p130_8 : List Vm.Op := [⟨some 13, .mv (.t 6), none⟩]
def p130_9 : List Vm.Op := [⟨some 4, .mv (.c (.int .i64 1)), none⟩]
def p130_10 : List Vm.Op := [⟨some 14, .mv (.t 0), none⟩, ⟨some 15, .mv (.t 1), none⟩, ⟨some 16, .bin .lss (.t 14) (.t 15), none⟩]
def p130_11 : List Vm.Op := [⟨some 4, .mv (.c (.int .i64 (-1))), none⟩]
def p130_12 : List Vm.Op := [⟨some 17, .mv (.t 0), none⟩, ⟨some 18, .mv (.t 1), none⟩, ⟨some 19, .bin .gtr (.t 17) (.t 18), none⟩]
def p130_13 : List Vm.Op := [⟨some 4, .mv (.c (.int .i64 1)), none⟩]
def p130_14 : List Vm.Op := [⟨some 4, .mv (.c (.int .i64 0)), none⟩]
def code130 : C := .seq (.ops p130_1) (.seq (.ops p130_2) (.seq (.ops p130_3) (.seq (.seq (.ops p130_4) (.cond (.t 11) (.seq (.seq (.ops p130_5) (.cond (.t 12) (.seq (.ops p130_6) .ret) .skip)) (.seq (.ops p130_7) .ret)) .skip)) (.seq (.seq (.ops p130_8) (.cond (.t 13) (.seq (.ops p130_9) .ret) .skip)) (.seq (.seq (.ops p130_10) (.cond (.t 16) (.seq (.ops p130_11) .ret) .skip)) (.seq (.seq (.ops p130_12) (.cond (.t 19) (.seq (.ops p130_13) .ret) .skip)) (.seq (.ops p130_14) .ret)))))))
def base130 : FnI := ⟨20, 2, code130, [.tmp 4], .raw⟩
/-! cmp.Compare[uint32] -/
def p131_1 : List Vm.Op := [⟨some 4, .mv (.c (.int .i64 0)), none⟩]
def p131_2 : List Vm.Op := [⟨some 7, .mv (.t 0), none⟩, ⟨some 8, .call 133 [.t 7], none⟩, ⟨some 5, .mv (.t 8), none⟩]
def p131_3 : List Vm.Op := [⟨some 9, .mv (.t 1), none⟩, ⟨some 10, .call 133 [.t 9], none⟩, ⟨some 6, .mv (.t 10), none⟩]
def p131_4 : List Vm.Op := [⟨some 11, .mv (.t 5), none⟩]
def p131_5 : List Vm.Op := [⟨some 12, .mv (.t 6), none⟩]
def p131_6 : List Vm.Op := [⟨some 4, .mv (.c (.int .i64 0)), none⟩]
def p131_7 : List Vm.Op := [⟨some 4, .mv (.c (.int .i64 (-1))), none⟩]
def p131_8 : List Vm.Op := [⟨some 13, .mv (.t 6), none⟩]
def p131_9 : List Vm.Op := [⟨some 4, .mv (.c (.int .i64 1)), none⟩]
def p131_10 : List Vm.Op := [⟨some 14, .mv (.t 0), none⟩, ⟨some 15, .mv (.t 1), none⟩, ⟨some 16, .bin .lss (.t 14) (.t 15), none⟩]
def p131_11 : List Vm.Op := [⟨some 4, .mv (.c (.int .i64 (-1))), none⟩]
def p131_12 : List Vm.Op := [⟨some 17, .mv (.t 0), none⟩, ⟨some 18, .mv (.t 1), none⟩, ⟨some 19, .bin .gtr (.t 17) (.t 18), none⟩]
def p131_13 : List Vm.Op := [⟨some 4, .mv (.c (.int .i64 1)), none⟩]
def p131_14 : List Vm.Op := [⟨some 4, .mv (.c (.int .i64 0)), none⟩]
def code131 : C := .seq (.ops p131_1) (.seq (.ops p131_2) (.seq (.ops p131_3) (.seq (.seq (.ops p131_4) (.cond (.t 11) (.seq (.seq (.ops p131_5) (.cond (.t 12) (.seq (.ops p131_6) .ret) .skip)) (.seq (.ops p131_7) .ret)) .skip)) (.seq (.seq (.ops p131_8) (.cond (.t 13) (.seq (.ops p131_9) .ret) .skip)) (.seq (.seq (.ops p131_10) (.cond (.t 16) (.seq (.ops p131_11) .ret) .skip)) (.seq (.seq (.ops p131_12) (.cond (.t 19) (.seq (.ops p131_13) .ret) .skip)) (.seq (.ops p131_14) .ret)))))))
def base131 : FnI := ⟨20, 2, code131, [.tmp 4], .raw⟩
/-! cmp.isNaN[int] -/
def p132_1 : List Vm.Op := [⟨some 2, .mv (.c (.bool false)), none⟩]
def p132_2 : List Vm.Op := [⟨some 3, .mv (.t 0), none⟩, ⟨some 4, .mv (.t 0), none⟩, ⟨some 5, .bin .neq (.t 3) (.t 4), none⟩, ⟨some 2, .mv (.t 5), none⟩]
def code132 : C := .seq (.ops p132_1) (.seq (.ops p132_2) .ret)
def base132 : FnI := ⟨6, 1, code132, [.tmp 2], .raw⟩
/-! cmp.isNaN[uint32] -/
def p133_1 : List Vm.Op := [⟨some 2, .mv (.c (.bool false)), none⟩]
def p133_2 : List Vm.Op := [⟨some 3, .mv (.t 0), none⟩, ⟨some 4, .mv (.t 0), none⟩, ⟨some 5, .bin .neq (.t 3) (.t 4), none⟩, ⟨some 2, .mv (.t 5), none⟩]
def code133 : C := .seq (.ops p133_1) (.seq (.ops p133_2) .ret)
def base133 : FnI := ⟨6, 1, code133, [.tmp 2], .raw⟩
/-! (*cubby/shelf.clean).Pop -/
def p134_1 : List Vm.Op := [⟨some 2, .mv (.c .nilIface), none⟩]
def p134_2 : List Vm.Op := [⟨some 5, .mv (.t 0), none⟩, ⟨some 6, .nilCk (.t 5), none⟩, ⟨some 7, .load false 1 (.t 6), none⟩, ⟨some 8, .len .sl (.t 7), none⟩, ⟨some 9, .bin .sub (.t 8) (.c (.int .i64 1)), none⟩, ⟨some 3, .mv (.t 9), none⟩]
def p134_3 : List Vm.Op := [⟨some 10, .mv (.t 0), none⟩, ⟨some 11, .nilCk (.t 10), none⟩, ⟨some 12, .load false 1 (.t 11), none⟩, ⟨some 13, .mv (.t 3), none⟩, ⟨some 14, .iaSl 1 (.t 12) (.t 13), none⟩, ⟨some 15, .load false 1 (.t 14), none⟩, ⟨some 4, .mv (.t 15), none⟩]
def p134_4 : List Vm.Op := [⟨some 16, .mv (.t 0), none⟩, ⟨some 17, .mv (.t 0), none⟩, ⟨some 18, .nilCk (.t 17), none⟩, ⟨some 19, .load false 1 (.t 18), none⟩, ⟨some 20, .mv (.t 3), none⟩, ⟨some 21, .slSl 1 (.t 19) none (some (.t 20)) none, none⟩, ⟨some 22, .nilCk (.t 16), none⟩, ⟨none, .store 1 (.t 22) (.t 21), none⟩]
def p134_5 : List Vm.Op := [⟨some 23, .mv (.t 4), none⟩, ⟨some 24, .nilCk (.t 23), none⟩, ⟨some 25, .faddr 4 (.t 24), none⟩, ⟨none, .store 1 (.t 25) (.c (.int .i64 (-1))), none⟩]
def p134_6 : List Vm.Op := [⟨some 26, .mv (.t 4), none⟩, ⟨some 27, .mkIface 127 (.t 26), none⟩, ⟨some 2, .mv (.t 27), none⟩]
def code134 : C := .seq (.ops p134_1) (.seq (.ops p134_2) (.seq (.ops p134_3) (.seq (.ops p134_4) (.seq (.ops p134_5) (.seq (.ops p134_6) .ret)))))
def base134 : FnI := ⟨28, 1, code134, [.tmp 2], .raw⟩
/-! (*cubby/shelf.clean).Push -/
def p135_1 : List Vm.Op := [⟨some 7, .mv (.t 1), none⟩, ⟨some 8, .tassert 127 true .nilp (.t 7), none⟩, ⟨some 6, .mv (.t 8), none⟩, ⟨some 9, .ext 0 (.t 6), none⟩, ⟨some 10, .ext 1 (.t 6), none⟩, ⟨some 4, .mv (.t 9), none⟩, ⟨some 5, .mv (.t 10), none⟩]
def p135_2 : List Vm.Op := [⟨some 11, .mv (.t 5), none⟩]
def p135_3 : List Vm.Op := [⟨some 12, .mv (.t 4), none⟩, ⟨some 13, .mv (.t 0), none⟩, ⟨some 14, .nilCk (.t 13), none⟩, ⟨some 15, .load false 1 (.t 14), none⟩, ⟨some 16, .len .sl (.t 15), none⟩, ⟨some 17, .nilCk (.t 12), none⟩, ⟨some 18, .faddr 4 (.t 17), none⟩, ⟨none, .store 1 (.t 18) (.t 16), none⟩]
def p135_4 : List Vm.Op := [⟨some 19, .mv (.t 0), none⟩, ⟨some 20, .mv (.t 0), none⟩, ⟨some 21, .nilCk (.t 20), none⟩, ⟨some 22, .load false 1 (.t 21), none⟩, ⟨some 23, .mv (.t 4), none⟩, ⟨some 24, .buildSl 1 1 [.nilp] [(0, (1, .t 23))], none⟩, ⟨some 25, .append 1 8 (.t 22) (.t 24), none⟩, ⟨some 26, .nilCk (.t 19), none⟩, ⟨none, .store 1 (.t 26) (.t 25), none⟩]
def code135 : C := .seq (.ops p135_1) (.seq (.ops p135_2) (.cond (.t 11) (.seq (.ops p135_3) (.ops p135_4)) .skip))
def base135 : FnI := ⟨27, 2, code135, [], .raw⟩

def base : FuncId → Option FnI
  | 7 => some base7
  | 8 => some base8
  | 9 => some base9
  | 40 => some base40
  | 41 => some base41
  | 42 => some base42
  | 43 => some base43
  | 44 => some base44
  | 45 => some base45
  | 46 => some base46
  | 47 => some base47
  | 48 => some base48
  | 49 => some base49
  | 50 => some base50
  | 51 => some base51
  | 52 => some base52
  | 53 => some base53
  | 76 => some base76
  | 77 => some base77
  | 78 => some base78
  | 79 => some base79
  | 80 => some base80
  | 81 => some base81
  | 82 => some base82
  | 101 => some base101
  | 102 => some base102
  | 126 => some base126
  | 127 => some base127
  | 128 => some base128
  | 129 => some base129
  | 130 => some base130
  | 131 => some base131
  | 132 => some base132
  | 133 => some base133
  | 134 => some base134
  | 135 => some base135
  | _ => none

def tab (h : FuncId → Hint) : Table := fun f => (base f).map fun b => { b with hint := h f }

theorem ok7 : FnOk Try.prog 7 base7 := ⟨fun _ h => (nomatch h), ⟨Try.f7, Try.f7.body.getD .skip, Try.func7, by decide, rfl, by kernel_rfl, rfl, by kernel_rfl, by decide⟩⟩
theorem tab7 (h : FuncId → Hint) : tab h 7 = some ⟨133, 2, code7, [.tmp 4], h 7⟩ := rfl
theorem ok8 : FnOk Try.prog 8 base8 := ⟨fun _ h => (nomatch h), ⟨Try.f8, Try.f8.body.getD .skip, Try.func8, by decide, rfl, by kernel_rfl, rfl, by kernel_rfl, by decide⟩⟩
theorem tab8 (h : FuncId → Hint) : tab h 8 = some ⟨134, 3, code8, [.tmp 6], h 8⟩ := rfl
theorem ok9 : FnOk Try.prog 9 base9 := ⟨fun _ h => (nomatch h), ⟨Try.f9, Try.f9.body.getD .skip, Try.func9, by decide, rfl, by kernel_rfl, rfl, by kernel_rfl, by decide⟩⟩
theorem tab9 (h : FuncId → Hint) : tab h 9 = some ⟨191, 2, code9, [.tmp 4], h 9⟩ := rfl
theorem ok40 : FnOk Try.prog 40 base40 := ⟨fun _ h => (nomatch h), ⟨Try.f40, Try.f40.body.getD .skip, Try.func40, by decide, rfl, by kernel_rfl, rfl, by kernel_rfl, by decide⟩⟩
theorem tab40 (h : FuncId → Hint) : tab h 40 = some ⟨14, 1, code40, [.tmp 2, .tmp 3], h 40⟩ := rfl
theorem ok41 : FnOk Try.prog 41 base41 := ⟨fun _ h => (nomatch h), ⟨Try.f41, Try.f41.body.getD .skip, Try.func41, by decide, rfl, by kernel_rfl, rfl, by kernel_rfl, by decide⟩⟩
theorem tab41 (h : FuncId → Hint) : tab h 41 = some ⟨38, 0, code41, [.tmp 0], h 41⟩ := rfl
theorem ok42 : FnOk Try.prog 42 base42 := ⟨fun _ h => (nomatch h), ⟨Try.f42, Try.f42.body.getD .skip, Try.func42, by decide, rfl, by kernel_rfl, rfl, by kernel_rfl, by decide⟩⟩
theorem tab42 (h : FuncId → Hint) : tab h 42 = some ⟨64, 5, code42, [.tmp 10], h 42⟩ := rfl
theorem ok43 : FnOk Try.prog 43 base43 := ⟨fun _ h => (nomatch h), ⟨Try.f43, Try.f43.body.getD .skip, Try.func43, by decide, rfl, by kernel_rfl, rfl, by kernel_rfl, by decide⟩⟩
theorem tab43 (h : FuncId → Hint) : tab h 43 = some ⟨43, 1, code43, [.tmp 2], h 43⟩ := rfl
theorem ok44 : FnOk Try.prog 44 base44 := ⟨fun _ h => (nomatch h), ⟨Try.f44, Try.f44.body.getD .skip, Try.func44, by decide, rfl, by kernel_rfl, rfl, by kernel_rfl, by decide⟩⟩
theorem tab44 (h : FuncId → Hint) : tab h 44 = some ⟨18, 2, code44, [.tmp 4], h 44⟩ := rfl
theorem ok45 : FnOk Try.prog 45 base45 := ⟨fun _ h => (nomatch h), ⟨Try.f45, Try.f45.body.getD .skip, Try.func45, by decide, rfl, by kernel_rfl, rfl, by kernel_rfl, by decide⟩⟩
theorem tab45 (h : FuncId → Hint) : tab h 45 = some ⟨9, 1, code45, [.tmp 2], h 45⟩ := rfl
theorem ok46 : FnOk Try.prog 46 base46 := ⟨fun _ h => (nomatch h), ⟨Try.f46, Try.f46.body.getD .skip, Try.func46, by decide, rfl, by kernel_rfl, rfl, by kernel_rfl, by decide⟩⟩
theorem tab46 (h : FuncId → Hint) : tab h 46 = some ⟨10, 1, code46, [.tmp 2], h 46⟩ := rfl
theorem ok47 : FnOk Try.prog 47 base47 := ⟨fun _ h => (nomatch h), ⟨Try.f47, Try.f47.body.getD .skip, Try.func47, by decide, rfl, by kernel_rfl, rfl, by kernel_rfl, by decide⟩⟩
theorem tab47 (h : FuncId → Hint) : tab h 47 = some ⟨8, 2, code47, [.tmp 4], h 47⟩ := rfl
theorem ok48 : FnOk Try.prog 48 base48 := ⟨fun _ h => (nomatch h), ⟨Try.f48, Try.f48.body.getD .skip, Try.func48, by decide, rfl, by kernel_rfl, rfl, by kernel_rfl, by decide⟩⟩
theorem tab48 (h : FuncId → Hint) : tab h 48 = some ⟨20, 2, code48, [.tmp 4], h 48⟩ := rfl
theorem ok49 : FnOk Try.prog 49 base49 := ⟨fun _ h => (nomatch h), ⟨Try.f49, Try.f49.body.getD .skip, Try.func49, by decide, rfl, by kernel_rfl, rfl, by kernel_rfl, by decide⟩⟩
theorem tab49 (h : FuncId → Hint) : tab h 49 = some ⟨31, 3, code49, [.tmp 6], h 49⟩ := rfl
theorem ok50 : FnOk Try.prog 50 base50 := ⟨fun _ h => (nomatch h), ⟨Try.f50, Try.f50.body.getD .skip, Try.func50, by decide, rfl, by kernel_rfl, rfl, by kernel_rfl, by decide⟩⟩
theorem tab50 (h : FuncId → Hint) : tab h 50 = some ⟨23, 2, code50, [.tmp 4], h 50⟩ := rfl
theorem ok51 : FnOk Try.prog 51 base51 := ⟨fun _ h => (nomatch h), ⟨Try.f51, Try.f51.body.getD .skip, Try.func51, by decide, rfl, by kernel_rfl, rfl, by kernel_rfl, by decide⟩⟩
theorem tab51 (h : FuncId → Hint) : tab h 51 = some ⟨41, 2, code51, [.tmp 4], h 51⟩ := rfl
theorem ok52 : FnOk Try.prog 52 base52 := ⟨fun _ h => (nomatch h), ⟨Try.f52, Try.f52.body.getD .skip, Try.func52, by decide, rfl, by kernel_rfl, rfl, by kernel_rfl, by decide⟩⟩
theorem tab52 (h : FuncId → Hint) : tab h 52 = some ⟨62, 2, code52, [.tmp 4, .tmp 5], h 52⟩ := rfl
theorem ok53 : FnOk Try.prog 53 base53 := ⟨fun _ h => (nomatch h), ⟨Try.f53, Try.f53.body.getD .skip, Try.func53, by decide, rfl, by kernel_rfl, rfl, by kernel_rfl, by decide⟩⟩
theorem tab53 (h : FuncId → Hint) : tab h 53 = some ⟨19, 1, code53, [.tmp 2], h 53⟩ := rfl
theorem ok76 : FnOk Try.prog 76 base76 := ⟨fun _ h => (nomatch h), ⟨Try.f76, Try.f76.body.getD .skip, Try.func76, by decide, rfl, by kernel_rfl, rfl, by kernel_rfl, by decide⟩⟩
theorem tab76 (h : FuncId → Hint) : tab h 76 = some ⟨12, 2, code76, [], h 76⟩ := rfl
theorem ok77 : FnOk Try.prog 77 base77 := ⟨fun _ h => (nomatch h), ⟨Try.f77, Try.f77.body.getD .skip, Try.func77, by decide, rfl, by kernel_rfl, rfl, by kernel_rfl, by decide⟩⟩
theorem tab77 (h : FuncId → Hint) : tab h 77 = some ⟨30, 3, code77, [.tmp 6], h 77⟩ := rfl
theorem ok78 : FnOk Try.prog 78 base78 := ⟨fun _ h => (nomatch h), ⟨Try.f78, Try.f78.body.getD .skip, Try.func78, by decide, rfl, by kernel_rfl, rfl, by kernel_rfl, by decide⟩⟩
theorem tab78 (h : FuncId → Hint) : tab h 78 = some ⟨8, 2, code78, [.tmp 4], h 78⟩ := rfl
theorem ok79 : FnOk Try.prog 79 base79 := ⟨fun _ h => (nomatch h), ⟨Try.f79, Try.f79.body.getD .skip, Try.func79, by decide, rfl, by kernel_rfl, rfl, by kernel_rfl, by decide⟩⟩
theorem tab79 (h : FuncId → Hint) : tab h 79 = some ⟨13, 2, code79, [.tmp 4], h 79⟩ := rfl
theorem ok80 : FnOk Try.prog 80 base80 := ⟨fun _ h => (nomatch h), ⟨Try.f80, Try.f80.body.getD .skip, Try.func80, by decide, rfl, by kernel_rfl, rfl, by kernel_rfl, by decide⟩⟩
theorem tab80 (h : FuncId → Hint) : tab h 80 = some ⟨13, 2, code80, [], h 80⟩ := rfl
theorem ok81 : FnOk Try.prog 81 base81 := ⟨fun _ h => (nomatch h), ⟨Try.f81, Try.f81.body.getD .skip, Try.func81, by decide, rfl, by kernel_rfl, rfl, by kernel_rfl, by decide⟩⟩
theorem tab81 (h : FuncId → Hint) : tab h 81 = some ⟨26, 2, code81, [.tmp 4], h 81⟩ := rfl
theorem ok82 : FnOk Try.prog 82 base82 := ⟨fun _ h => (nomatch h), ⟨Try.f82, Try.f82.body.getD .skip, Try.func82, by decide, rfl, by kernel_rfl, rfl, by kernel_rfl, by decide⟩⟩
theorem tab82 (h : FuncId → Hint) : tab h 82 = some ⟨36, 2, code82, [.tmp 4], h 82⟩ := rfl
theorem ok101 : FnOk Try.prog 101 base101 := ⟨fun _ h => (nomatch h), ⟨Try.f101, Try.f101.body.getD .skip, Try.func101, by decide, rfl, by kernel_rfl, rfl, by kernel_rfl, by decide⟩⟩
theorem tab101 (h : FuncId → Hint) : tab h 101 = some ⟨23, 2, code101, [], h 101⟩ := rfl
theorem ok102 : FnOk Try.prog 102 base102 := ⟨fun _ h => (nomatch h), ⟨Try.f102, Try.f102.body.getD .skip, Try.func102, by decide, rfl, by kernel_rfl, rfl, by kernel_rfl, by decide⟩⟩
theorem tab102 (h : FuncId → Hint) : tab h 102 = some ⟨48, 3, code102, [.tmp 6], h 102⟩ := rfl
theorem ok126 : FnOk Try.prog 126 base126 := ⟨fun _ h => (nomatch h), ⟨Try.f126, Try.f126.body.getD .skip, Try.func126, by decide, rfl, by kernel_rfl, rfl, by kernel_rfl, by decide⟩⟩
theorem tab126 (h : FuncId → Hint) : tab h 126 = some ⟨5, 1, code126, [.tmp 2], h 126⟩ := rfl
theorem ok127 : FnOk Try.prog 127 base127 := ⟨fun _ h => (nomatch h), ⟨Try.f127, Try.f127.body.getD .skip, Try.func127, by decide, rfl, by kernel_rfl, rfl, by kernel_rfl, by decide⟩⟩
theorem tab127 (h : FuncId → Hint) : tab h 127 = some ⟨51, 3, code127, [.tmp 6], h 127⟩ := rfl
theorem ok128 : FnOk Try.prog 128 base128 := ⟨fun _ h => (nomatch h), ⟨Try.f128, Try.f128.body.getD .skip, Try.func128, by decide, rfl, by kernel_rfl, rfl, by kernel_rfl, by decide⟩⟩
theorem tab128 (h : FuncId → Hint) : tab h 128 = some ⟨34, 3, code128, [], h 128⟩ := rfl
theorem ok129 : FnOk Try.prog 129 base129 := ⟨fun _ h => (nomatch h), ⟨Try.f129, Try.f129.body.getD .skip, Try.func129, by decide, rfl, by kernel_rfl, rfl, by kernel_rfl, by decide⟩⟩
theorem tab129 (h : FuncId → Hint) : tab h 129 = some ⟨18, 1, code129, [.tmp 2], h 129⟩ := rfl
theorem ok130 : FnOk Try.prog 130 base130 := ⟨fun _ h => (nomatch h), ⟨Try.f130, Try.f130.body.getD .skip, Try.func130, by decide, rfl, by kernel_rfl, rfl, by kernel_rfl, by decide⟩⟩
theorem tab130 (h : FuncId → Hint) : tab h 130 = some ⟨20, 2, code130, [.tmp 4], h 130⟩ := rfl
theorem ok131 : FnOk Try.prog 131 base131 := ⟨fun _ h => (nomatch h), ⟨Try.f131, Try.f131.body.getD .skip, Try.func131, by decide, rfl, by kernel_rfl, rfl, by kernel_rfl, by decide⟩⟩
theorem tab131 (h : FuncId → Hint) : tab h 131 = some ⟨20, 2, code131, [.tmp 4], h 131⟩ := rfl
theorem ok132 : FnOk Try.prog 132 base132 := ⟨fun _ h => (nomatch h), ⟨Try.f132, Try.f132.body.getD .skip, Try.func132, by decide, rfl, by kernel_rfl, rfl, by kernel_rfl, by decide⟩⟩
theorem tab132 (h : FuncId → Hint) : tab h 132 = some ⟨6, 1, code132, [.tmp 2], h 132⟩ := rfl
theorem ok133 : FnOk Try.prog 133 base133 := ⟨fun _ h => (nomatch h), ⟨Try.f133, Try.f133.body.getD .skip, Try.func133, by decide, rfl, by kernel_rfl, rfl, by kernel_rfl, by decide⟩⟩
theorem tab133 (h : FuncId → Hint) : tab h 133 = some ⟨6, 1, code133, [.tmp 2], h 133⟩ := rfl
theorem ok134 : FnOk Try.prog 134 base134 := ⟨fun _ h => (nomatch h), ⟨Try.f134, Try.f134.body.getD .skip, Try.func134, by decide, rfl, by kernel_rfl, rfl, by kernel_rfl, by decide⟩⟩
theorem tab134 (h : FuncId → Hint) : tab h 134 = some ⟨28, 1, code134, [.tmp 2], h 134⟩ := rfl
theorem ok135 : FnOk Try.prog 135 base135 := ⟨fun _ h => (nomatch h), ⟨Try.f135, Try.f135.body.getD .skip, Try.func135, by decide, rfl, by kernel_rfl, rfl, by kernel_rfl, by decide⟩⟩
theorem tab135 (h : FuncId → Hint) : tab h 135 = some ⟨27, 2, code135, [], h 135⟩ := rfl

theorem base_ok : ∀ f b, base f = some b → FnOk Try.prog f b := by
  intro f b h
  unfold base at h
  split at h <;> simp only [Option.some.injEq, reduceCtorEq] at h <;> subst h
  · exact ok7
  · exact ok8
  · exact ok9
  · exact ok40
  · exact ok41
  · exact ok42
  · exact ok43
  · exact ok44
  · exact ok45
  · exact ok46
  · exact ok47
  · exact ok48
  · exact ok49
  · exact ok50
  · exact ok51
  · exact ok52
  · exact ok53
  · exact ok76
  · exact ok77
  · exact ok78
  · exact ok79
  · exact ok80
  · exact ok81
  · exact ok82
  · exact ok101
  · exact ok102
  · exact ok126
  · exact ok127
  · exact ok128
  · exact ok129
  · exact ok130
  · exact ok131
  · exact ok132
  · exact ok133
  · exact ok134
  · exact ok135

theorem tab_ok (h : FuncId → Hint) (hk : ∀ f g, h f = .known g → Known Try.prog f g) : ∀ f fi, tab h f = some fi → FnOk Try.prog f fi := by
  intro f fi hf
  simp only [tab, Option.map_eq_some_iff] at hf
  obtain ⟨b, hb, rfl⟩ := hf
  obtain ⟨fn, code, h1, h2, h3, h4, h5, h6, h7⟩ := (base_ok f b hb).is
  exact ⟨hk f, ⟨fn, code, h1, h2, h3, h4, h5, h6, h7⟩⟩

theorem tab_sound (h : FuncId → Hint) (hk : ∀ f g, h f = .known g → Known Try.prog f g) : SoundE Try.prog (ev (tab h)) := ev_sound Try.checked.mixed (tab_ok h hk)
end Go.Proofs.Ytkhalpmmdlppkaa
