/- The code of the functions of this seat, as the evaluator has it; by program (gen.py). Each is the compilation of the loaded function. -/
import Derived.Test.YtchiiiahgmfofaaVn
import Derived.Test.YtchiiiahgmfofaaProg
import Derived.KernelRfl
namespace Go.Proofs.Ytchiiiahgmfofaa
open Go Go.Vv Go.Proofs
set_option maxRecDepth 100000

/-! additive/additivelaw40.EmitCommands -/
def c11_0 : List LOper := [⟨some 3, .box (.t 1), none⟩, ⟨some 4, .mov (.c (.bool false)), none⟩]
def c11_1 : List LOper := [⟨some 9, .mov (.t 0), none⟩, ⟨some 10, .callz 35 [(.t 9)], none⟩, ⟨some 0, .mov (.t 10), none⟩]
def c11_2 : List LOper := [⟨some 12, .mov (.t 0), none⟩, ⟨some 13, .load true 20 (.t 3), none⟩, ⟨some 14, .callz 36 [(.t 12), (.t 13)], none⟩, ⟨some 11, .mov (.t 14), none⟩, ⟨some 15, .ext (.t 11) 0, none⟩, ⟨some 16, .ext (.t 11) 1, none⟩, ⟨some 5, .mov (.t 15), none⟩, ⟨some 6, .mov (.t 16), none⟩]
def c11_3 : List LOper := [⟨some 18, .mov (.t 0), none⟩, ⟨some 19, .load true 20 (.t 3), none⟩, ⟨some 20, .callz 37 [(.t 18), (.t 19)], none⟩, ⟨some 17, .mov (.t 20), none⟩, ⟨some 21, .ext (.t 17) 0, none⟩, ⟨some 22, .ext (.t 17) 1, none⟩, ⟨some 7, .mov (.t 21), none⟩, ⟨some 8, .mov (.t 22), none⟩]
def c11_4 : List LOper := [⟨some 23, .mov (.t 5), none⟩, ⟨some 24, .mov (.t 7), none⟩, ⟨some 25, .callp 38 [(.t 23), (.t 24)], none⟩, ⟨some 26, .mov (.t 25), none⟩, ⟨some 27, .mov (.t 6), some (26, true)⟩, ⟨some 28, .mov (.t 8), some (26, true)⟩, ⟨some 29, .ibin .eql (.t 27) (.t 28), some (26, true)⟩, ⟨some 30, .pick (.t 26) (.t 29) (.c (.bool false)), none⟩, ⟨some 31, .mov (.t 30), none⟩, ⟨some 32, .callp 39 [], some (31, true)⟩, ⟨some 33, .pick (.t 31) (.t 32) (.c (.bool false)), none⟩, ⟨some 4, .mov (.t 33), none⟩]
def lc11 : LC := (.seq (.reg false c11_0) (.seq (.reg false c11_1) (.seq (.reg false c11_2) (.seq (.reg false c11_3) (.seq (.reg false c11_4) .ret)))))
def lf11 : LFunc := ⟨2, [.tmp 4], true, lc11⟩
def hi11 : Hints := ⟨[(10, .z), (14, .z), (20, .z)], [none, none, none, none, none, none], []⟩
theorem lf11_ok : compF Try.prog hi11 true Try.f11 = some lf11 := by kernel_rfl

/-! additive/additivelaw40.EmitValid -/
def c12_0 : List LOper := [⟨some 3, .box (.t 1), none⟩, ⟨some 4, .mov (.c (.bool false)), none⟩]
def c12_1 : List LOper := [⟨some 12, .mov (.t 0), none⟩, ⟨some 13, .callz 35 [(.t 12)], none⟩, ⟨some 0, .mov (.t 13), none⟩]
def c12_2 : List LOper := [⟨some 15, .mov (.t 0), none⟩, ⟨some 16, .load true 20 (.t 3), none⟩, ⟨some 17, .callz 36 [(.t 15), (.t 16)], none⟩, ⟨some 14, .mov (.t 17), none⟩, ⟨some 18, .ext (.t 14) 0, none⟩, ⟨some 19, .ext (.t 14) 1, none⟩, ⟨some 5, .mov (.t 18), none⟩, ⟨some 6, .mov (.t 19), none⟩]
def c12_3 : List LOper := [⟨some 20, .mov (.t 6), none⟩, ⟨some 21, .ibin .neq (.t 20) (.c (.int .i64 0)), none⟩]
def c12_4 : List LOper := [⟨some 22, .mov (.t 5), none⟩, ⟨some 23, .len (.t 22), none⟩, ⟨some 24, .ibin .eql (.t 23) (.c (.int .i64 0)), none⟩, ⟨some 25, .mov (.t 24), none⟩, ⟨some 26, .callp 39 [], some (25, true)⟩, ⟨some 27, .pick (.t 25) (.t 26) (.c (.bool false)), none⟩, ⟨some 4, .mov (.t 27), none⟩]
def c12_5 : List LOper := [⟨some 7, .mov (.c (.int .i64 0)), none⟩]
def c12_6 : List LOper := [⟨some 8, .mov (.c (.int .i64 0)), none⟩]
def c12_7 : List LOper := [⟨some 9, .mov (.c (.int .i64 0)), none⟩]
def c12_8 : List LOper := [⟨some 28, .mov (.t 9), none⟩, ⟨some 29, .mov (.t 5), none⟩, ⟨some 30, .len (.t 29), none⟩, ⟨some 31, .ibin .lss (.t 28) (.t 30), none⟩]
def c12_9 : List LOper := [⟨some 34, .mov (.t 5), none⟩, ⟨some 35, .mov (.t 9), none⟩, ⟨some 36, .iaddr 8 (.t 34) (.t 35), none⟩, ⟨some 37, .load true 8 (.t 36), none⟩, ⟨some 38, .callp 40 [(.t 37)], none⟩, ⟨some 39, .un .not (.t 38), none⟩]
def c12_10 : List LOper := [⟨some 4, .mov (.c (.bool false)), none⟩]
def c12_11 : List LOper := [⟨some 40, .mov (.t 5), none⟩, ⟨some 41, .mov (.t 9), none⟩, ⟨some 42, .iaddr 8 (.t 40) (.t 41), none⟩, ⟨some 43, .faddr 1 (.t 42), none⟩, ⟨some 44, .load false 1 (.t 43), none⟩, ⟨some 45, .ibin .and (.t 44) (.c (.int .i64 16)), none⟩, ⟨some 46, .ibin .neq (.t 45) (.c (.int .i64 0)), none⟩]
def c12_12 : List LOper := [⟨some 47, .mov (.t 5), none⟩, ⟨some 48, .mov (.t 9), none⟩, ⟨some 49, .iaddr 8 (.t 47) (.t 48), none⟩, ⟨some 50, .faddr 6 (.t 49), none⟩, ⟨some 51, .load false 1 (.t 50), none⟩, ⟨some 52, .mov (.t 7), none⟩, ⟨some 53, .ibin .eql (.t 51) (.t 52), none⟩]
def c12_13 : List LOper := [⟨some 4, .mov (.c (.bool false)), none⟩]
def c12_14 : List LOper := [⟨some 54, .mov (.t 5), none⟩, ⟨some 55, .mov (.t 9), none⟩, ⟨some 56, .iaddr 8 (.t 54) (.t 55), none⟩, ⟨some 57, .faddr 6 (.t 56), none⟩, ⟨some 58, .load false 1 (.t 57), none⟩, ⟨some 7, .mov (.t 58), none⟩]
def c12_15 : List LOper := [⟨some 59, .mov (.t 5), none⟩, ⟨some 60, .mov (.t 9), none⟩, ⟨some 61, .iaddr 8 (.t 59) (.t 60), none⟩, ⟨some 62, .faddr 1 (.t 61), none⟩, ⟨some 63, .load false 1 (.t 62), none⟩, ⟨some 64, .ibin .and (.t 63) (.c (.int .i64 8)), none⟩, ⟨some 65, .ibin .neq (.t 64) (.c (.int .i64 0)), none⟩]
def c12_16 : List LOper := [⟨some 66, .mov (.t 5), none⟩, ⟨some 67, .mov (.t 9), none⟩, ⟨some 68, .iaddr 8 (.t 66) (.t 67), none⟩, ⟨some 69, .faddr 5 (.t 68), none⟩, ⟨some 70, .load false 1 (.t 69), none⟩, ⟨some 8, .mov (.t 70), none⟩]
def c12_17 : List LOper := [⟨some 32, .mov (.t 9), none⟩, ⟨some 33, .ibin .add (.t 32) (.c (.int .i64 1)), none⟩, ⟨some 9, .mov (.t 33), none⟩]
def c12_L0 : LC := (.seq (.seq (.reg false c12_8) (.cond (.t 31) .skip (.seq (.trim [0, 3, 8]) (.exit 0)))) (.seq (.blk 1 (.seq (.seq (.reg false c12_9) (.cond (.t 39) (.seq (.reg false c12_10) (.seq (.trim [4]) .ret)) .skip)) (.seq (.seq (.reg false c12_11) (.cond (.t 46) (.seq (.seq (.reg false c12_12) (.cond (.t 53) (.seq (.reg false c12_13) (.seq (.trim [4]) .ret)) .skip)) (.reg false c12_14)) .skip)) (.seq (.reg false c12_15) (.cond (.t 65) (.reg false c12_16) .skip))))) (.reg false c12_17)))
def c12_19 : List LOper := [⟨some 72, .mov (.t 0), none⟩, ⟨some 73, .load true 20 (.t 3), none⟩, ⟨some 74, .callz 41 [(.t 72), (.t 73)], none⟩, ⟨some 71, .mov (.t 74), none⟩, ⟨some 75, .ext (.t 71) 0, none⟩, ⟨some 76, .ext (.t 71) 1, none⟩, ⟨some 10, .mov (.t 75), none⟩, ⟨some 11, .mov (.t 76), none⟩]
def c12_20 : List LOper := [⟨some 77, .mov (.t 11), none⟩, ⟨some 78, .ibin .eql (.t 77) (.c (.int .i64 0)), none⟩, ⟨some 79, .mov (.t 78), none⟩, ⟨some 80, .mov (.t 10), some (79, true)⟩, ⟨some 81, .len (.t 80), some (79, true)⟩, ⟨some 82, .ibin .eql (.t 81) (.c (.int .i64 0)), some (79, true)⟩, ⟨some 83, .mov (.t 82), some (79, true)⟩, ⟨some 84, .mov (.t 10), some (83, false)⟩, ⟨some 85, .mov (.t 10), some (83, false)⟩, ⟨some 86, .len (.t 85), some (83, false)⟩, ⟨some 87, .ibin .sub (.t 86) (.c (.int .i64 1)), some (83, false)⟩, ⟨some 88, .iaddr 1 (.t 84) (.t 87), some (83, false)⟩, ⟨some 89, .load false 1 (.t 88), some (83, false)⟩, ⟨some 90, .mov (.t 8), some (83, false)⟩, ⟨some 91, .ibin .eql (.t 89) (.t 90), some (83, false)⟩, ⟨some 92, .pick (.t 83) (.c (.bool true)) (.t 91), some (79, true)⟩, ⟨some 93, .pick (.t 79) (.t 92) (.c (.bool false)), none⟩, ⟨some 94, .mov (.t 93), none⟩, ⟨some 95, .callp 39 [], some (94, true)⟩, ⟨some 96, .pick (.t 94) (.t 95) (.c (.bool false)), none⟩, ⟨some 4, .mov (.t 96), none⟩]
def lc12 : LC := (.seq (.reg false c12_0) (.seq (.reg false c12_1) (.seq (.reg false c12_2) (.seq (.seq (.reg false c12_3) (.cond (.t 21) (.seq (.reg false c12_4) .ret) .skip)) (.seq (.reg false c12_5) (.seq (.reg false c12_6) (.seq (.seq (.reg false c12_7) (.blk 0 (.loop [0, 3, 5, 7, 8, 9] c12_L0))) (.seq (.reg false c12_19) (.seq (.reg false c12_20) .ret)))))))))
def lf12 : LFunc := ⟨2, [.tmp 4], true, lc12⟩
def hi12 : Hints := ⟨[(13, .z), (17, .z), (74, .z)], [none, none, none, none, none, none, none, none, none, none, some [0, 3, 5, 7, 8, 9], none, some [0, 3, 8], none, none, none, some [4], none, none, none, none, some [4], none, none, none, none, none, none, none, none], []⟩
theorem lf12_ok : compF Try.prog hi12 true Try.f12 = some lf12 := by kernel_rfl

/-! additive/additivelaw40.EmitFollows -/
def c13_0 : List LOper := [⟨some 3, .box (.t 1), none⟩, ⟨some 4, .mov (.c (.bool false)), none⟩]
def c13_1 : List LOper := [⟨some 13, .mov (.t 0), none⟩, ⟨some 14, .callz 35 [(.t 13)], none⟩, ⟨some 0, .mov (.t 14), none⟩]
def c13_2 : List LOper := [⟨some 16, .mov (.t 0), none⟩, ⟨some 17, .load true 20 (.t 3), none⟩, ⟨some 18, .callz 36 [(.t 16), (.t 17)], none⟩, ⟨some 15, .mov (.t 18), none⟩, ⟨some 19, .ext (.t 15) 0, none⟩, ⟨some 20, .ext (.t 15) 1, none⟩, ⟨some 5, .mov (.t 19), none⟩, ⟨some 6, .mov (.t 20), none⟩]
def c13_3 : List LOper := [⟨some 22, .mov (.t 0), none⟩, ⟨some 23, .callz 42 [(.t 22)], none⟩, ⟨some 21, .mov (.t 23), none⟩, ⟨some 24, .ext (.t 21) 0, none⟩, ⟨some 25, .ext (.t 21) 1, none⟩, ⟨some 7, .mov (.t 24), none⟩, ⟨some 8, .mov (.t 25), none⟩]
def c13_4 : List LOper := [⟨some 26, .mov (.t 6), none⟩, ⟨some 27, .ibin .neq (.t 26) (.c (.int .i64 0)), none⟩, ⟨some 28, .mov (.t 27), none⟩, ⟨some 29, .mov (.t 8), some (28, false)⟩, ⟨some 30, .un .not (.t 29), some (28, false)⟩, ⟨some 31, .pick (.t 28) (.c (.bool true)) (.t 30), none⟩]
def c13_5 : List LOper := [⟨some 32, .callp 39 [], none⟩, ⟨some 4, .mov (.t 32), none⟩]
def c13_6 : List LOper := [⟨some 33, .build [.int .i64 0, .int .i64 0] [], none⟩, ⟨some 9, .alloc [.int .i64 0, .int .i64 0], none⟩, ⟨none, .store 2 (.t 9) (.t 33), none⟩]
def c13_7 : List LOper := [⟨some 10, .mov (.c (.int .i64 0)), none⟩]
def c13_8 : List LOper := [⟨some 11, .mov (.c (.int .i64 0)), none⟩]
def c13_9 : List LOper := [⟨some 34, .mov (.t 11), none⟩, ⟨some 35, .mov (.t 5), none⟩, ⟨some 36, .len (.t 35), none⟩, ⟨some 37, .ibin .lss (.t 34) (.t 36), none⟩]
def c13_10 : List LOper := [⟨some 40, .mov (.t 5), none⟩, ⟨some 41, .mov (.t 11), none⟩, ⟨some 42, .iaddr 8 (.t 40) (.t 41), none⟩, ⟨some 43, .faddr 1 (.t 42), none⟩, ⟨some 44, .load false 1 (.t 43), none⟩, ⟨some 45, .ibin .and (.t 44) (.c (.int .i64 1)), none⟩, ⟨some 46, .ibin .eql (.t 45) (.c (.int .i64 0)), none⟩]
def c13_11 : List LOper := [⟨some 47, .mov (.t 5), none⟩, ⟨some 48, .mov (.t 11), none⟩, ⟨some 49, .iaddr 8 (.t 47) (.t 48), none⟩, ⟨some 50, .faddr 2 (.t 49), none⟩, ⟨some 51, .load false 1 (.t 50), none⟩, ⟨some 52, .faddr 0 (.t 3), none⟩, ⟨some 53, .load false 1 (.t 52), none⟩, ⟨some 54, .ibin .quo (.t 53) (.c (.int .i64 2)), none⟩, ⟨some 55, .ibin .sub (.t 51) (.t 54), none⟩, ⟨some 56, .faddr 0 (.t 3), none⟩, ⟨some 57, .load false 1 (.t 56), none⟩, ⟨some 58, .ibin .quo (.t 55) (.t 57), none⟩, ⟨some 59, .mov (.t 5), none⟩, ⟨some 60, .mov (.t 11), none⟩, ⟨some 61, .iaddr 8 (.t 59) (.t 60), none⟩, ⟨some 62, .faddr 3 (.t 61), none⟩, ⟨some 63, .load false 1 (.t 62), none⟩, ⟨some 64, .faddr 0 (.t 3), none⟩, ⟨some 65, .load false 1 (.t 64), none⟩, ⟨some 66, .ibin .quo (.t 65) (.c (.int .i64 2)), none⟩, ⟨some 67, .ibin .sub (.t 63) (.t 66), none⟩, ⟨some 68, .faddr 0 (.t 3), none⟩, ⟨some 69, .load false 1 (.t 68), none⟩, ⟨some 70, .ibin .quo (.t 67) (.t 69), none⟩, ⟨some 71, .build [.int .i64 0, .int .i64 0] [(0, 1, (.t 58)), (1, 1, (.t 70))], none⟩, ⟨some 12, .alloc [.int .i64 0, .int .i64 0], none⟩, ⟨none, .store 2 (.t 12) (.t 71), none⟩]
def c13_12 : List LOper := [⟨some 72, .mov (.t 5), none⟩, ⟨some 73, .mov (.t 11), none⟩, ⟨some 74, .iaddr 8 (.t 72) (.t 73), none⟩, ⟨some 75, .faddr 1 (.t 74), none⟩, ⟨some 76, .load false 1 (.t 75), none⟩, ⟨some 77, .ibin .and (.t 76) (.c (.int .i64 2)), none⟩, ⟨some 78, .ibin .eql (.t 77) (.c (.int .i64 0)), none⟩, ⟨some 79, .mov (.t 78), none⟩, ⟨some 80, .faddr 0 (.t 12), some (79, false)⟩, ⟨some 81, .load false 1 (.t 80), some (79, false)⟩, ⟨some 82, .faddr 0 (.t 3), some (79, false)⟩, ⟨some 83, .load false 1 (.t 82), some (79, false)⟩, ⟨some 84, .ibin .mul (.t 81) (.t 83), some (79, false)⟩, ⟨some 85, .faddr 0 (.t 3), some (79, false)⟩, ⟨some 86, .load false 1 (.t 85), some (79, false)⟩, ⟨some 87, .ibin .quo (.t 86) (.c (.int .i64 2)), some (79, false)⟩, ⟨some 88, .ibin .add (.t 84) (.t 87), some (79, false)⟩, ⟨some 89, .mov (.t 5), some (79, false)⟩, ⟨some 90, .mov (.t 11), some (79, false)⟩, ⟨some 91, .iaddr 8 (.t 89) (.t 90), some (79, false)⟩, ⟨some 92, .faddr 2 (.t 91), some (79, false)⟩, ⟨some 93, .load false 1 (.t 92), some (79, false)⟩, ⟨some 94, .ibin .neq (.t 88) (.t 93), some (79, false)⟩, ⟨some 95, .pick (.t 79) (.c (.bool true)) (.t 94), none⟩, ⟨some 96, .mov (.t 95), none⟩, ⟨some 97, .faddr 1 (.t 12), some (96, false)⟩, ⟨some 98, .load false 1 (.t 97), some (96, false)⟩, ⟨some 99, .faddr 0 (.t 3), some (96, false)⟩, ⟨some 100, .load false 1 (.t 99), some (96, false)⟩, ⟨some 101, .ibin .mul (.t 98) (.t 100), some (96, false)⟩, ⟨some 102, .faddr 0 (.t 3), some (96, false)⟩, ⟨some 103, .load false 1 (.t 102), some (96, false)⟩, ⟨some 104, .ibin .quo (.t 103) (.c (.int .i64 2)), some (96, false)⟩, ⟨some 105, .ibin .add (.t 101) (.t 104), some (96, false)⟩, ⟨some 106, .mov (.t 5), some (96, false)⟩, ⟨some 107, .mov (.t 11), some (96, false)⟩, ⟨some 108, .iaddr 8 (.t 106) (.t 107), some (96, false)⟩, ⟨some 109, .faddr 3 (.t 108), some (96, false)⟩, ⟨some 110, .load false 1 (.t 109), some (96, false)⟩, ⟨some 111, .ibin .neq (.t 105) (.t 110), some (96, false)⟩, ⟨some 112, .pick (.t 96) (.c (.bool true)) (.t 111), none⟩, ⟨some 113, .mov (.t 112), none⟩, ⟨some 114, .faddr 0 (.t 9), some (113, false)⟩, ⟨some 115, .load false 1 (.t 114), some (113, false)⟩, ⟨some 116, .faddr 0 (.t 12), some (113, false)⟩, ⟨some 117, .load false 1 (.t 116), some (113, false)⟩, ⟨some 118, .ibin .eql (.t 115) (.t 117), some (113, false)⟩, ⟨some 119, .faddr 1 (.t 9), some (113, false)⟩, ⟨some 120, .load false 1 (.t 119), some (113, false)⟩, ⟨some 121, .faddr 1 (.t 12), some (113, false)⟩, ⟨some 122, .load false 1 (.t 121), some (113, false)⟩, ⟨some 123, .ibin .eql (.t 120) (.t 122), some (113, false)⟩, ⟨some 124, .eqv false false [true] (.t 118) (.t 123), some (113, false)⟩, ⟨some 125, .pick (.t 113) (.c (.bool true)) (.t 124), none⟩]
def c13_13 : List LOper := [⟨some 4, .mov (.c (.bool false)), none⟩]
def c13_14 : List LOper := [⟨some 126, .load true 2 (.t 9), none⟩, ⟨some 127, .load true 2 (.t 12), none⟩, ⟨some 128, .eqv true true [false, false] (.t 126) (.t 127), none⟩]
def c13_15 : List LOper := [⟨some 129, .faddr 0 (.t 9), none⟩, ⟨some 130, .load false 1 (.t 129), none⟩, ⟨some 131, .faddr 0 (.t 12), none⟩, ⟨some 132, .load false 1 (.t 131), none⟩, ⟨some 133, .callp 43 [(.t 130), (.t 132)], none⟩, ⟨some 134, .faddr 1 (.t 9), none⟩, ⟨some 135, .load false 1 (.t 134), none⟩, ⟨some 136, .faddr 1 (.t 12), none⟩, ⟨some 137, .load false 1 (.t 136), none⟩, ⟨some 138, .callp 43 [(.t 135), (.t 137)], none⟩, ⟨some 139, .build [.int .i64 0, .int .i64 0] [(0, 1, (.t 133)), (1, 1, (.t 138))], none⟩, ⟨none, .store 2 (.t 9) (.t 139), none⟩]
def c13_16 : List LOper := [⟨some 140, .mov (.t 10), none⟩, ⟨some 141, .mov (.t 7), none⟩, ⟨some 142, .len (.t 141), none⟩, ⟨some 143, .ibin .geq (.t 140) (.t 142), none⟩, ⟨some 144, .mov (.t 143), none⟩, ⟨some 145, .mov (.t 7), some (144, false)⟩, ⟨some 146, .mov (.t 10), some (144, false)⟩, ⟨some 147, .iaddr 2 (.t 145) (.t 146), some (144, false)⟩, ⟨some 148, .load true 2 (.t 147), some (144, false)⟩, ⟨some 149, .load true 2 (.t 9), some (144, false)⟩, ⟨some 150, .eqv true true [false, false] (.t 148) (.t 149), some (144, false)⟩, ⟨some 151, .pick (.t 144) (.c (.bool true)) (.t 150), none⟩]
def c13_17 : List LOper := [⟨some 4, .mov (.c (.bool false)), none⟩]
def c13_18 : List LOper := [⟨some 152, .mov (.t 10), none⟩, ⟨some 153, .ibin .add (.t 152) (.c (.int .i64 1)), none⟩, ⟨some 10, .mov (.t 153), none⟩]
def c13_L0 : LC := (.seq (.seq (.reg false c13_14) (.cond (.t 128) .skip (.seq (.trim [3, 5, 7, 9, 10, 11]) (.exit 2)))) (.blk 3 (.seq (.reg true c13_15) (.seq (.seq (.reg true c13_16) (.cond (.t 151) (.seq (.reg false c13_17) (.seq (.trim [4]) .ret)) .skip)) (.reg false c13_18)))))
def c13_20 : List LOper := [⟨some 38, .mov (.t 11), none⟩, ⟨some 39, .ibin .add (.t 38) (.c (.int .i64 1)), none⟩, ⟨some 11, .mov (.t 39), none⟩]
def c13_L1 : LC := (.seq (.seq (.reg false c13_9) (.cond (.t 37) .skip (.seq (.trim [7, 10]) (.exit 0)))) (.seq (.blk 1 (.seq (.seq (.reg false c13_10) (.cond (.t 46) (.exit 1) .skip)) (.seq (.reg true c13_11) (.seq (.seq (.reg true c13_12) (.cond (.t 125) (.seq (.reg false c13_13) (.seq (.trim [4]) .ret)) .skip)) (.blk 2 (.loop [3, 5, 7, 9, 10, 11, 12] c13_L0)))))) (.reg false c13_20)))
def c13_22 : List LOper := [⟨some 154, .mov (.t 10), none⟩, ⟨some 155, .mov (.t 7), none⟩, ⟨some 156, .len (.t 155), none⟩, ⟨some 157, .ibin .eql (.t 154) (.t 156), none⟩, ⟨some 158, .mov (.t 157), none⟩, ⟨some 159, .callp 39 [], some (158, true)⟩, ⟨some 160, .pick (.t 158) (.t 159) (.c (.bool false)), none⟩, ⟨some 4, .mov (.t 160), none⟩]
def lc13 : LC := (.seq (.reg false c13_0) (.seq (.reg false c13_1) (.seq (.reg false c13_2) (.seq (.reg false c13_3) (.seq (.seq (.reg false c13_4) (.cond (.t 31) (.seq (.reg false c13_5) .ret) .skip)) (.seq (.reg false c13_6) (.seq (.reg false c13_7) (.seq (.seq (.reg false c13_8) (.blk 0 (.loop [3, 5, 7, 9, 10, 11] c13_L1))) (.seq (.reg false c13_22) .ret)))))))))
def lf13 : LFunc := ⟨2, [.tmp 4], true, lc13⟩
def hi13 : Hints := ⟨[(14, .z), (18, .z), (23, .z)], [none, none, none, none, none, none, none, none, none, none, none, some [3, 5, 7, 9, 10, 11], none, some [7, 10], none, none, none, none, none, none, none, some [4], none, some [3, 5, 7, 9, 10, 11, 12], none, some [3, 5, 7, 9, 10, 11], none, none, none, none, some [4], none, none, none, none, none], []⟩
theorem lf13_ok : compF Try.prog hi13 true Try.f13 = some lf13 := by kernel_rfl

/-! additive/additivelaw40.EmitPrefix -/
def c14_0 : List LOper := [⟨some 4, .box (.t 1), none⟩, ⟨some 6, .mov (.c (.bool false)), none⟩]
def c14_1 : List LOper := [⟨some 11, .mov (.t 0), none⟩, ⟨some 12, .callz 35 [(.t 11)], none⟩, ⟨some 0, .mov (.t 12), none⟩]
def c14_2 : List LOper := [⟨some 14, .mov (.t 0), none⟩, ⟨some 15, .load true 20 (.t 4), none⟩, ⟨some 16, .callz 36 [(.t 14), (.t 15)], none⟩, ⟨some 13, .mov (.t 16), none⟩, ⟨some 17, .ext (.t 13) 0, none⟩, ⟨some 18, .ext (.t 13) 1, none⟩, ⟨some 7, .mov (.t 17), none⟩, ⟨some 8, .mov (.t 18), none⟩]
def c14_3 : List LOper := [⟨some 19, .mov (.t 8), none⟩, ⟨some 20, .ibin .neq (.t 19) (.c (.int .i64 0)), none⟩, ⟨some 21, .mov (.t 20), none⟩, ⟨some 22, .mov (.t 2), some (21, false)⟩, ⟨some 23, .ibin .lss (.t 22) (.c (.int .i64 0)), some (21, false)⟩, ⟨some 24, .pick (.t 21) (.c (.bool true)) (.t 23), none⟩, ⟨some 25, .mov (.t 24), none⟩, ⟨some 26, .mov (.t 2), some (25, false)⟩, ⟨some 27, .mov (.t 0), some (25, false)⟩, ⟨some 28, .len (.t 27), some (25, false)⟩, ⟨some 29, .ibin .gtr (.t 26) (.t 28), some (25, false)⟩, ⟨some 30, .pick (.t 25) (.c (.bool true)) (.t 29), none⟩]
def c14_4 : List LOper := [⟨some 31, .callp 39 [], none⟩, ⟨some 6, .mov (.t 31), none⟩]
def c14_5 : List LOper := [⟨some 33, .mov (.t 0), none⟩, ⟨some 34, .mov (.t 2), none⟩, ⟨some 35, .slc 6 (.t 33) none (some (.t 34)), none⟩, ⟨some 36, .load true 20 (.t 4), none⟩, ⟨some 37, .callz 36 [(.t 35), (.t 36)], none⟩, ⟨some 32, .mov (.t 37), none⟩, ⟨some 38, .ext (.t 32) 0, none⟩, ⟨some 39, .ext (.t 32) 1, none⟩, ⟨some 9, .mov (.t 38), none⟩, ⟨some 10, .mov (.t 39), none⟩]
def c14_6 : List LOper := [⟨some 40, .mov (.t 10), none⟩, ⟨some 41, .ibin .eql (.t 40) (.c (.int .i64 0)), none⟩, ⟨some 42, .mov (.t 41), none⟩, ⟨some 43, .mov (.t 9), some (42, true)⟩, ⟨some 44, .len (.t 43), some (42, true)⟩, ⟨some 45, .mov (.t 7), some (42, true)⟩, ⟨some 46, .len (.t 45), some (42, true)⟩, ⟨some 47, .ibin .leq (.t 44) (.t 46), some (42, true)⟩, ⟨some 48, .pick (.t 42) (.t 47) (.c (.bool false)), none⟩, ⟨some 49, .mov (.t 48), none⟩, ⟨some 50, .mov (.t 9), some (49, true)⟩, ⟨some 51, .mov (.t 7), some (49, true)⟩, ⟨some 52, .mov (.t 9), some (49, true)⟩, ⟨some 53, .len (.t 52), some (49, true)⟩, ⟨some 54, .slc 8 (.t 51) none (some (.t 53)), some (49, true)⟩, ⟨some 55, .callp 38 [(.t 50), (.t 54)], some (49, true)⟩, ⟨some 56, .pick (.t 49) (.t 55) (.c (.bool false)), none⟩, ⟨some 57, .mov (.t 56), none⟩, ⟨some 58, .callp 39 [], some (57, true)⟩, ⟨some 59, .pick (.t 57) (.t 58) (.c (.bool false)), none⟩, ⟨some 6, .mov (.t 59), none⟩]
def lc14 : LC := (.seq (.reg false c14_0) (.seq (.reg false c14_1) (.seq (.reg false c14_2) (.seq (.seq (.reg false c14_3) (.cond (.t 30) (.seq (.reg false c14_4) .ret) .skip)) (.seq (.reg true c14_5) (.seq (.reg false c14_6) .ret))))))
def lf14 : LFunc := ⟨3, [.tmp 6], true, lc14⟩
def hi14 : Hints := ⟨[(12, .z), (16, .z), (37, .z)], [none, none, none, none, none, none, none, none, none, none], []⟩
theorem lf14_ok : compF Try.prog hi14 true Try.f14 = some lf14 := by kernel_rfl

/-! additive/additivelaw40.few -/
def c35_0 : List LOper := [⟨some 2, .mov (.c (.nils)), none⟩]
def c35_1 : List LOper := [⟨some 3, .mov (.c (.nils)), none⟩]
def c35_2 : List LOper := [⟨some 4, .mov (.c (.int .i64 0)), none⟩]
def c35_3 : List LOper := [⟨some 6, .mov (.t 4), none⟩, ⟨some 7, .mov (.t 0), none⟩, ⟨some 8, .len (.t 7), none⟩, ⟨some 9, .ibin .lss (.t 6) (.t 8), none⟩, ⟨some 10, .mov (.t 9), none⟩, ⟨some 11, .mov (.t 4), some (10, true)⟩, ⟨some 12, .ibin .lss (.t 11) (.c (.int .i64 30)), some (10, true)⟩, ⟨some 13, .pick (.t 10) (.t 12) (.c (.bool false)), none⟩]
def c35_4 : List LOper := [⟨some 16, .mov (.t 0), none⟩, ⟨some 17, .mov (.t 4), none⟩, ⟨some 18, .iaddr 6 (.t 16) (.t 17), none⟩, ⟨some 19, .load true 6 (.t 18), none⟩, ⟨some 5, .alloc [.int .i64 0, .int .i64 0, .int .i64 0, .int .i64 0, .int .i64 0, .nils], none⟩, ⟨none, .store 6 (.t 5) (.t 19), none⟩]
def c35_5 : List LOper := [⟨some 20, .faddr 5 (.t 5), none⟩, ⟨some 21, .load false 1 (.t 20), none⟩, ⟨some 22, .len (.t 21), none⟩, ⟨some 23, .ibin .gtr (.t 22) (.c (.int .i64 40)), none⟩]
def c35_6 : List LOper := [⟨some 24, .faddr 5 (.t 5), none⟩, ⟨some 25, .load false 1 (.t 24), none⟩, ⟨some 26, .slc 2 (.t 25) none (some (.c (.int .i64 40))), none⟩, ⟨some 27, .faddr 5 (.t 5), none⟩, ⟨none, .store 1 (.t 27) (.t 26), none⟩]
def c35_7 : List LOper := [⟨some 28, .mov (.t 3), none⟩, ⟨some 29, .load true 6 (.t 5), none⟩, ⟨some 30, .bslice 1 6 101 [.int .i64 0, .int .i64 0, .int .i64 0, .int .i64 0, .int .i64 0, .nils] [(0, 6, (.t 29))], none⟩, ⟨some 31, .app 6 64 101 [.int .i64 0, .int .i64 0, .int .i64 0, .int .i64 0, .int .i64 0, .nils] (.t 28) (.t 30), none⟩, ⟨some 3, .mov (.t 31), none⟩]
def c35_8 : List LOper := [⟨some 14, .mov (.t 4), none⟩, ⟨some 15, .ibin .add (.t 14) (.c (.int .i64 1)), none⟩, ⟨some 4, .mov (.t 15), none⟩]
def c35_L0 : LC := (.seq (.seq (.reg false c35_3) (.cond (.t 13) .skip (.seq (.trim [3]) (.exit 0)))) (.seq (.blk 1 (.seq (.reg false c35_4) (.seq (.seq (.reg false c35_5) (.cond (.t 23) (.reg false c35_6) .skip)) (.reg false c35_7)))) (.reg false c35_8)))
def c35_10 : List LOper := [⟨some 32, .mov (.t 3), none⟩, ⟨some 2, .mov (.t 32), none⟩]
def lc35 : LC := (.seq (.reg false c35_0) (.seq (.reg false c35_1) (.seq (.seq (.reg false c35_2) (.blk 0 (.loop [0, 3, 4] c35_L0))) (.seq (.reg false c35_10) .ret))))
def lf35 : LFunc := ⟨1, [.tmp 2], true, lc35⟩
def hi35 : Hints := ⟨[], [none, none, none, some [0, 3, 4], none, some [3], none, none, none, none, none, none, none, none], []⟩
theorem lf35_ok : compF Try.prog hi35 true Try.f35 = some lf35 := by kernel_rfl

/-! additive/emit.Commands -/
def c36_0 : List LOper := [⟨some 3, .box (.t 1), none⟩, ⟨some 4, .mov (.c (.nils)), none⟩, ⟨some 5, .mov (.c (.int .i64 0)), none⟩]
def c36_1 : List LOper := [⟨some 12, .mov (.t 0), none⟩, ⟨some 13, .load true 20 (.t 3), none⟩, ⟨some 14, .callz 70 [(.t 12), (.t 13)], none⟩, ⟨some 11, .mov (.t 14), none⟩, ⟨some 15, .ext (.t 11) 0, none⟩, ⟨some 16, .ext (.t 11) 1, none⟩, ⟨some 6, .mov (.t 15), none⟩, ⟨some 7, .mov (.t 16), none⟩]
def c36_2 : List LOper := [⟨some 17, .mov (.t 7), none⟩, ⟨some 18, .ibin .neq (.t 17) (.c (.int .i64 0)), none⟩]
def c36_3 : List LOper := [⟨some 19, .mov (.t 7), none⟩, ⟨some 4, .mov (.c (.nils)), none⟩, ⟨some 5, .mov (.t 19), none⟩]
def c36_4 : List LOper := [⟨some 20, .load true 20 (.t 3), none⟩, ⟨some 21, .build [.int .i64 0, .int .i64 0, .int .i64 0, .int .i64 0, .int .i64 0, .int .i64 0, .int .i64 0, .bool false, .int .i64 0, .int .i64 0, .int .i64 0, .int .i64 0, .int .i64 0, .int .i64 0, .int .i64 0, .int .i64 0, .int .i64 0, .int .i64 0, .int .i64 0, .int .i64 0, .int .i64 0, .int .i64 0, .int .i64 0, .int .i64 0, .int .i64 0, .bool false, .nils, .int .i64 0] [(0, 20, (.t 20))], none⟩, ⟨some 22, .box (.t 21), none⟩, ⟨some 8, .mov (.t 22), none⟩]
def c36_5 : List LOper := [⟨some 23, .mov (.t 0), none⟩, ⟨some 24, .len (.t 23), none⟩, ⟨some 25, .mov (.c (.int .i64 0)), none⟩]
def c36_6 : List LOper := [⟨some 26, .ibin .lss (.t 25) (.t 24), none⟩]
def c36_7 : List LOper := [⟨some 27, .mov (.t 25), none⟩, ⟨some 28, .iaddr 6 (.t 23) (.t 25), none⟩, ⟨some 29, .load true 6 (.t 28), none⟩, ⟨some 10, .alloc [.int .i64 0, .int .i64 0, .int .i64 0, .int .i64 0, .int .i64 0, .nils], none⟩, ⟨some 9, .mov (.t 27), none⟩, ⟨none, .store 6 (.t 10) (.t 29), none⟩]
def c36_8 : List LOper := [⟨some 30, .faddr 5 (.t 10), none⟩, ⟨some 31, .load false 1 (.t 30), none⟩, ⟨some 32, .callp 71 [(.t 31)], none⟩, ⟨some 33, .un .not (.t 32), none⟩]
def c36_9 : List LOper := [⟨some 4, .mov (.c (.nils)), none⟩, ⟨some 5, .mov (.c (.int .i64 8)), none⟩]
def c36_10 : List LOper := [⟨some 34, .mov (.t 8), none⟩, ⟨some 35, .mov (.t 6), none⟩, ⟨some 36, .mov (.t 9), none⟩, ⟨some 37, .iaddr 1 (.t 35) (.t 36), none⟩, ⟨some 38, .load false 1 (.t 37), none⟩, ⟨some 39, .nilck (.t 34), none⟩, ⟨some 40, .faddr 20 (.t 39), none⟩, ⟨none, .store 1 (.t 40) (.t 38), none⟩]
def c36_11 : List LOper := [⟨some 41, .faddr 0 (.t 10), none⟩, ⟨some 42, .load false 1 (.t 41), none⟩, ⟨some 43, .callp 72 [(.t 42)], none⟩, ⟨some 44, .mov (.t 8), none⟩, ⟨some 45, .load true 6 (.t 10), none⟩, ⟨some 46, .callw (.t 43) [(.t 44), (.t 45)], none⟩]
def c36_12 : List LOper := [⟨some 47, .mov (.t 8), none⟩, ⟨some 48, .nilck (.t 47), none⟩, ⟨some 49, .faddr 27 (.t 48), none⟩, ⟨some 50, .load false 1 (.t 49), none⟩, ⟨some 51, .ibin .neq (.t 50) (.c (.int .i64 0)), none⟩]
def c36_13 : List LOper := [⟨some 52, .mov (.t 8), none⟩, ⟨some 53, .nilck (.t 52), none⟩, ⟨some 54, .faddr 27 (.t 53), none⟩, ⟨some 55, .load false 1 (.t 54), none⟩, ⟨some 4, .mov (.c (.nils)), none⟩, ⟨some 5, .mov (.t 55), none⟩]
def c36_14 : List LOper := [⟨some 56, .ibin .add (.t 25) (.c (.int .i64 1)), none⟩, ⟨some 25, .mov (.t 56), none⟩]
def c36_L0 : LC := (.seq (.reg false c36_6) (.seq (.cond (.t 26) .skip (.seq (.trim [8]) (.exit 0))) (.seq (.blk 1 (.seq (.reg false c36_7) (.seq (.seq (.reg false c36_8) (.cond (.t 33) (.seq (.reg false c36_9) (.seq (.trim [4, 5]) .ret)) .skip)) (.seq (.reg false c36_10) (.seq (.reg true c36_11) (.seq (.reg false c36_12) (.cond (.t 51) (.seq (.reg true c36_13) (.seq (.trim [4, 5]) .ret)) .skip))))))) (.reg false c36_14))))
def c36_16 : List LOper := [⟨some 57, .mov (.t 8), none⟩, ⟨some 58, .nilck (.t 57), none⟩, ⟨some 59, .faddr 26 (.t 58), none⟩, ⟨some 60, .load false 1 (.t 59), none⟩, ⟨some 4, .mov (.t 60), none⟩, ⟨some 5, .mov (.c (.int .i64 0)), none⟩]
def lc36 : LC := (.seq (.reg false c36_0) (.seq (.reg false c36_1) (.seq (.seq (.reg false c36_2) (.cond (.t 18) (.seq (.reg false c36_3) .ret) .skip)) (.seq (.reg false c36_4) (.seq (.seq (.reg false c36_5) (.blk 0 (.loop [6, 8, 23, 24, 25] c36_L0))) (.seq (.reg false c36_16) .ret))))))
def lf36 : LFunc := ⟨2, [.tmp 4, .tmp 5], true, lc36⟩
def hi36 : Hints := ⟨[(14, .z), (46, .r)], [none, none, none, none, none, none, none, none, some [6, 8, 23, 24, 25], none, some [8], none, none, none, none, some [4, 5], none, none, none, none, none, some [4, 5], none, none, none, none], []⟩
theorem lf36_ok : compF Try.prog hi36 true Try.f36 = some lf36 := by kernel_rfl

/-! additive/additiveref40.Commands -/
def c37_0 : List LOper := [⟨some 3, .box (.t 1), none⟩, ⟨some 4, .mov (.c (.nils)), none⟩, ⟨some 5, .mov (.c (.int .i64 0)), none⟩]
def c37_1 : List LOper := [⟨some 12, .mov (.t 0), none⟩, ⟨some 13, .load true 20 (.t 3), none⟩, ⟨some 14, .callz 41 [(.t 12), (.t 13)], none⟩, ⟨some 11, .mov (.t 14), none⟩, ⟨some 15, .ext (.t 11) 0, none⟩, ⟨some 16, .ext (.t 11) 1, none⟩, ⟨some 6, .mov (.t 15), none⟩, ⟨some 7, .mov (.t 16), none⟩]
def c37_2 : List LOper := [⟨some 17, .mov (.t 7), none⟩, ⟨some 18, .ibin .neq (.t 17) (.c (.int .i64 0)), none⟩]
def c37_3 : List LOper := [⟨some 19, .mov (.t 7), none⟩, ⟨some 4, .mov (.c (.nils)), none⟩, ⟨some 5, .mov (.t 19), none⟩]
def c37_4 : List LOper := [⟨some 20, .load true 20 (.t 3), none⟩, ⟨some 21, .build [.int .i64 0, .int .i64 0, .int .i64 0, .int .i64 0, .int .i64 0, .int .i64 0, .int .i64 0, .bool false, .int .i64 0, .int .i64 0, .int .i64 0, .int .i64 0, .int .i64 0, .int .i64 0, .int .i64 0, .int .i64 0, .int .i64 0, .int .i64 0, .int .i64 0, .int .i64 0, .int .i64 0, .int .i64 0, .int .i64 0, .int .i64 0, .nils, .bool false] [(0, 20, (.t 20))], none⟩, ⟨some 22, .box (.t 21), none⟩, ⟨some 8, .mov (.t 22), none⟩]
def c37_5 : List LOper := [⟨some 9, .mov (.c (.int .i64 0)), none⟩]
def c37_6 : List LOper := [⟨some 23, .mov (.t 9), none⟩, ⟨some 24, .mov (.t 0), none⟩, ⟨some 25, .len (.t 24), none⟩, ⟨some 26, .ibin .lss (.t 23) (.t 25), none⟩]
def c37_7 : List LOper := [⟨some 10, .mov (.c (.int .i64 0)), none⟩]
def c37_8 : List LOper := [⟨some 29, .mov (.t 10), none⟩, ⟨some 30, .mov (.t 0), none⟩, ⟨some 31, .mov (.t 9), none⟩, ⟨some 32, .iaddr 6 (.t 30) (.t 31), none⟩, ⟨some 33, .faddr 5 (.t 32), none⟩, ⟨some 34, .load false 1 (.t 33), none⟩, ⟨some 35, .len (.t 34), none⟩, ⟨some 36, .ibin .lss (.t 29) (.t 35), none⟩]
def c37_9 : List LOper := [⟨some 39, .mov (.t 0), none⟩, ⟨some 40, .mov (.t 9), none⟩, ⟨some 41, .iaddr 6 (.t 39) (.t 40), none⟩, ⟨some 42, .faddr 5 (.t 41), none⟩, ⟨some 43, .load false 1 (.t 42), none⟩, ⟨some 44, .mov (.t 10), none⟩, ⟨some 45, .iaddr 2 (.t 43) (.t 44), none⟩, ⟨some 46, .load true 2 (.t 45), none⟩, ⟨some 47, .callp 73 [(.t 46)], none⟩, ⟨some 48, .un .not (.t 47), none⟩]
def c37_10 : List LOper := [⟨some 4, .mov (.c (.nils)), none⟩, ⟨some 5, .mov (.c (.int .i64 8)), none⟩]
def c37_11 : List LOper := [⟨some 37, .mov (.t 10), none⟩, ⟨some 38, .ibin .add (.t 37) (.c (.int .i64 1)), none⟩, ⟨some 10, .mov (.t 38), none⟩]
def c37_L0 : LC := (.seq (.seq (.reg false c37_8) (.cond (.t 36) .skip (.seq (.trim [0, 6, 8, 9]) (.exit 2)))) (.seq (.blk 3 (.seq (.reg false c37_9) (.cond (.t 48) (.seq (.reg false c37_10) (.seq (.trim [4, 5]) .ret)) .skip))) (.reg false c37_11)))
def c37_13 : List LOper := [⟨some 49, .mov (.t 8), none⟩, ⟨some 50, .mov (.t 0), none⟩, ⟨some 51, .mov (.t 9), none⟩, ⟨some 52, .iaddr 6 (.t 50) (.t 51), none⟩, ⟨some 53, .load true 6 (.t 52), none⟩, ⟨some 54, .mov (.t 6), none⟩, ⟨some 55, .mov (.t 9), none⟩, ⟨some 56, .iaddr 1 (.t 54) (.t 55), none⟩, ⟨some 57, .load false 1 (.t 56), none⟩, ⟨some 58, .callr 74 [(.t 49), (.t 53), (.t 57)], none⟩]
def c37_14 : List LOper := [⟨some 59, .mov (.t 8), none⟩, ⟨some 60, .nilck (.t 59), none⟩, ⟨some 61, .faddr 25 (.t 60), none⟩, ⟨some 62, .load false 1 (.t 61), none⟩]
def c37_15 : List LOper := [⟨some 4, .mov (.c (.nils)), none⟩, ⟨some 5, .mov (.c (.int .i64 8)), none⟩]
def c37_16 : List LOper := [⟨some 27, .mov (.t 9), none⟩, ⟨some 28, .ibin .add (.t 27) (.c (.int .i64 1)), none⟩, ⟨some 9, .mov (.t 28), none⟩]
def c37_L1 : LC := (.seq (.seq (.reg false c37_6) (.cond (.t 26) .skip (.seq (.trim [8]) (.exit 0)))) (.seq (.blk 1 (.seq (.seq (.reg false c37_7) (.blk 2 (.loop [0, 6, 8, 9, 10] c37_L0))) (.seq (.reg true c37_13) (.seq (.reg false c37_14) (.cond (.t 62) (.seq (.reg false c37_15) (.seq (.trim [4, 5]) .ret)) .skip))))) (.reg false c37_16)))
def c37_18 : List LOper := [⟨some 63, .mov (.t 8), none⟩, ⟨some 64, .nilck (.t 63), none⟩, ⟨some 65, .faddr 24 (.t 64), none⟩, ⟨some 66, .load false 1 (.t 65), none⟩, ⟨some 4, .mov (.t 66), none⟩, ⟨some 5, .mov (.c (.int .i64 0)), none⟩]
def lc37 : LC := (.seq (.reg false c37_0) (.seq (.reg false c37_1) (.seq (.seq (.reg false c37_2) (.cond (.t 18) (.seq (.reg false c37_3) .ret) .skip)) (.seq (.reg false c37_4) (.seq (.seq (.reg false c37_5) (.blk 0 (.loop [0, 6, 8, 9] c37_L1))) (.seq (.reg false c37_18) .ret))))))
def lf37 : LFunc := ⟨2, [.tmp 4, .tmp 5], true, lc37⟩
def hi37 : Hints := ⟨[(14, .z), (58, .r)], [none, none, none, none, none, none, none, none, some [0, 6, 8, 9], none, some [8], none, none, some [0, 6, 8, 9, 10], none, some [0, 6, 8, 9], none, none, none, some [4, 5], none, none, none, none, none, some [4, 5], none, none, none, none], []⟩
theorem lf37_ok : compF Try.prog hi37 true Try.f37 = some lf37 := by kernel_rfl

/-! additive/additiveref40.SameCmds -/
def c38_0 : List LOper := [⟨some 4, .mov (.c (.bool false)), none⟩]
def c38_1 : List LOper := [⟨some 6, .mov (.t 0), none⟩, ⟨some 7, .len (.t 6), none⟩, ⟨some 8, .mov (.t 1), none⟩, ⟨some 9, .len (.t 8), none⟩, ⟨some 10, .ibin .neq (.t 7) (.t 9), none⟩]
def c38_2 : List LOper := [⟨some 4, .mov (.c (.bool false)), none⟩]
def c38_3 : List LOper := [⟨some 5, .mov (.c (.int .i64 0)), none⟩]
def c38_4 : List LOper := [⟨some 11, .mov (.t 5), none⟩, ⟨some 12, .mov (.t 0), none⟩, ⟨some 13, .len (.t 12), none⟩, ⟨some 14, .ibin .lss (.t 11) (.t 13), none⟩]
def c38_5 : List LOper := [⟨some 17, .mov (.t 0), none⟩, ⟨some 18, .mov (.t 5), none⟩, ⟨some 19, .iaddr 8 (.t 17) (.t 18), none⟩, ⟨some 20, .load true 8 (.t 19), none⟩, ⟨some 21, .mov (.t 1), none⟩, ⟨some 22, .mov (.t 5), none⟩, ⟨some 23, .iaddr 8 (.t 21) (.t 22), none⟩, ⟨some 24, .load true 8 (.t 23), none⟩, ⟨some 25, .eqv true true [false, false, false, false, false, false, false, false] (.t 20) (.t 24), none⟩]
def c38_6 : List LOper := [⟨some 4, .mov (.c (.bool false)), none⟩]
def c38_7 : List LOper := [⟨some 15, .mov (.t 5), none⟩, ⟨some 16, .ibin .add (.t 15) (.c (.int .i64 1)), none⟩, ⟨some 5, .mov (.t 16), none⟩]
def c38_L0 : LC := (.seq (.seq (.reg false c38_4) (.cond (.t 14) .skip (.seq (.trim []) (.exit 0)))) (.seq (.blk 1 (.seq (.reg true c38_5) (.cond (.t 25) (.seq (.reg false c38_6) (.seq (.trim [4]) .ret)) .skip))) (.reg false c38_7)))
def c38_9 : List LOper := [⟨some 4, .mov (.c (.bool true)), none⟩]
def lc38 : LC := (.seq (.reg false c38_0) (.seq (.seq (.reg false c38_1) (.cond (.t 10) (.seq (.reg false c38_2) .ret) .skip)) (.seq (.seq (.reg false c38_3) (.blk 0 (.loop [0, 1, 5] c38_L0))) (.seq (.reg false c38_9) .ret))))
def lf38 : LFunc := ⟨2, [.tmp 4], true, lc38⟩
def hi38 : Hints := ⟨[], [none, none, none, none, none, none, some [0, 1, 5], none, some [], none, none, none, some [4], none, none, none, none], []⟩
theorem lf38_ok : compF Try.prog hi38 true Try.f38 = some lf38 := by kernel_rfl

/-! additive/additivelaw40.awake -/
def c39_0 : List LOper := [⟨some 0, .mov (.c (.bool false)), none⟩]
def c39_1 : List LOper := [⟨some 5, .build [.int .i64 0, .int .i64 0] [(0, 1, (.c (.int .i64 1)))], none⟩, ⟨some 1, .alloc [.int .i64 0, .int .i64 0], none⟩, ⟨none, .store 2 (.t 1) (.t 5), none⟩]
def c39_2 : List LOper := [⟨some 6, .build [.int .i64 0, .int .i64 0] [(0, 1, (.c (.int .i64 2)))], none⟩, ⟨some 2, .alloc [.int .i64 0, .int .i64 0], none⟩, ⟨none, .store 2 (.t 2) (.t 6), none⟩]
def c39_3 : List LOper := [⟨some 8, .build [.int .i64 0, .int .i64 0, .int .i64 0, .int .i64 0, .int .i64 0, .nils] [(0, 1, (.c (.int .i64 1))), (3, 1, (.c (.int .i64 20)))], none⟩, ⟨some 9, .load true 2 (.t 1), none⟩, ⟨some 12, .load true 2 (.t 1), none⟩, ⟨some 13, .load true 2 (.t 2), none⟩, ⟨some 17, .callp 75 [], none⟩, ⟨some 10, .bslz 1 2 26 [.int .i64 0, .int .i64 0] [(0, 2, (.t 9))], none⟩, ⟨some 11, .build [.int .i64 0, .int .i64 0, .int .i64 0, .int .i64 0, .int .i64 0, .nils] [(0, 1, (.c (.int .i64 2))), (4, 1, (.c (.int .i64 2))), (5, 1, (.t 10))], none⟩, ⟨some 14, .bslz 2 2 26 [.int .i64 0, .int .i64 0] [(0, 2, (.t 12)), (2, 2, (.t 13))], none⟩, ⟨some 15, .build [.int .i64 0, .int .i64 0, .int .i64 0, .int .i64 0, .int .i64 0, .nils] [(0, 1, (.c (.int .i64 3))), (4, 1, (.c (.int .i64 1))), (5, 1, (.t 14))], none⟩, ⟨some 16, .bslice 3 6 101 [.int .i64 0, .int .i64 0, .int .i64 0, .int .i64 0, .int .i64 0, .nils] [(0, 6, (.t 8)), (6, 6, (.t 11)), (12, 6, (.t 15))], none⟩, ⟨some 18, .callz 36 [(.t 16), (.t 17)], none⟩, ⟨some 7, .mov (.t 18), none⟩, ⟨some 19, .ext (.t 7) 0, none⟩, ⟨some 20, .ext (.t 7) 1, none⟩, ⟨some 3, .mov (.t 19), none⟩, ⟨some 4, .mov (.t 20), none⟩]
def c39_4 : List LOper := [⟨some 21, .mov (.t 4), none⟩, ⟨some 22, .ibin .eql (.t 21) (.c (.int .i64 0)), none⟩, ⟨some 23, .mov (.t 22), none⟩, ⟨some 24, .mov (.t 3), some (23, true)⟩, ⟨some 25, .len (.t 24), some (23, true)⟩, ⟨some 26, .ibin .eql (.t 25) (.c (.int .i64 4)), some (23, true)⟩, ⟨some 27, .pick (.t 23) (.t 26) (.c (.bool false)), none⟩, ⟨some 28, .mov (.t 27), none⟩, ⟨some 29, .mov (.t 3), some (28, true)⟩, ⟨some 30, .iaddr 8 (.t 29) (.c (.int .i64 0)), some (28, true)⟩, ⟨some 31, .faddr 4 (.t 30), some (28, true)⟩, ⟨some 32, .load false 1 (.t 31), some (28, true)⟩, ⟨some 33, .ibin .eql (.t 32) (.c (.int .i64 20)), some (28, true)⟩, ⟨some 34, .pick (.t 28) (.t 33) (.c (.bool false)), none⟩, ⟨some 35, .mov (.t 34), none⟩, ⟨some 36, .mov (.t 3), some (35, true)⟩, ⟨some 37, .iaddr 8 (.t 36) (.c (.int .i64 0)), some (35, true)⟩, ⟨some 38, .faddr 6 (.t 37), some (35, true)⟩, ⟨some 39, .load false 1 (.t 38), some (35, true)⟩, ⟨some 40, .ibin .eql (.t 39) (.c (.int .i64 80)), some (35, true)⟩, ⟨some 41, .pick (.t 35) (.t 40) (.c (.bool false)), none⟩, ⟨some 42, .mov (.t 41), none⟩, ⟨some 43, .mov (.t 3), some (42, true)⟩, ⟨some 44, .iaddr 8 (.t 43) (.c (.int .i64 1)), some (42, true)⟩, ⟨some 45, .faddr 2 (.t 44), some (42, true)⟩, ⟨some 46, .load false 1 (.t 45), some (42, true)⟩, ⟨some 47, .ibin .eql (.t 46) (.c (.int .i64 60)), some (42, true)⟩, ⟨some 48, .pick (.t 42) (.t 47) (.c (.bool false)), none⟩, ⟨some 49, .mov (.t 48), none⟩, ⟨some 50, .mov (.t 3), some (49, true)⟩, ⟨some 51, .iaddr 8 (.t 50) (.c (.int .i64 1)), some (49, true)⟩, ⟨some 52, .faddr 3 (.t 51), some (49, true)⟩, ⟨some 53, .load false 1 (.t 52), some (49, true)⟩, ⟨some 54, .ibin .eql (.t 53) (.c (.int .i64 20)), some (49, true)⟩, ⟨some 55, .pick (.t 49) (.t 54) (.c (.bool false)), none⟩, ⟨some 56, .mov (.t 55), none⟩, ⟨some 57, .mov (.t 3), some (56, true)⟩, ⟨some 58, .iaddr 8 (.t 57) (.c (.int .i64 2)), some (56, true)⟩, ⟨some 59, .faddr 5 (.t 58), some (56, true)⟩, ⟨some 60, .load false 1 (.t 59), some (56, true)⟩, ⟨some 61, .ibin .eql (.t 60) (.c (.int .i64 32)), some (56, true)⟩, ⟨some 62, .pick (.t 56) (.t 61) (.c (.bool false)), none⟩, ⟨some 63, .mov (.t 62), none⟩, ⟨some 64, .mov (.t 3), some (63, true)⟩, ⟨some 65, .iaddr 8 (.t 64) (.c (.int .i64 2)), some (63, true)⟩, ⟨some 66, .faddr 6 (.t 65), some (63, true)⟩, ⟨some 67, .load false 1 (.t 66), some (63, true)⟩, ⟨some 68, .ibin .eql (.t 67) (.c (.int .i64 40)), some (63, true)⟩, ⟨some 69, .pick (.t 63) (.t 68) (.c (.bool false)), none⟩, ⟨some 70, .mov (.t 69), none⟩, ⟨some 71, .mov (.t 3), some (70, true)⟩, ⟨some 72, .iaddr 8 (.t 71) (.c (.int .i64 3)), some (70, true)⟩, ⟨some 73, .faddr 2 (.t 72), some (70, true)⟩, ⟨some 74, .load false 1 (.t 73), some (70, true)⟩, ⟨some 75, .ibin .eql (.t 74) (.c (.int .i64 100)), some (70, true)⟩, ⟨some 76, .pick (.t 70) (.t 75) (.c (.bool false)), none⟩, ⟨some 77, .mov (.t 76), none⟩, ⟨some 78, .mov (.t 3), some (77, true)⟩, ⟨some 79, .iaddr 8 (.t 78) (.c (.int .i64 3)), some (77, true)⟩, ⟨some 80, .faddr 5 (.t 79), some (77, true)⟩, ⟨some 81, .load false 1 (.t 80), some (77, true)⟩, ⟨some 82, .ibin .eql (.t 81) (.c (.int .i64 64)), some (77, true)⟩, ⟨some 83, .pick (.t 77) (.t 82) (.c (.bool false)), none⟩, ⟨some 0, .mov (.t 83), none⟩]
def lc39 : LC := (.seq (.reg false c39_0) (.seq (.reg false c39_1) (.seq (.reg false c39_2) (.seq (.reg true c39_3) (.seq (.reg false c39_4) .ret)))))
def lf39 : LFunc := ⟨0, [.tmp 0], true, lc39⟩
def hi39 : Hints := ⟨[(10, .z), (14, .z), (18, .z)], [none, none, none, none, none, none], [(3, [0, 1, 4, 5, 9, 2, 3, 6, 7, 8, 10, 11, 12, 13, 14, 15])]⟩
theorem lf39_ok : compF Try.prog hi39 true Try.f39 = some lf39 := by kernel_rfl

/-! additive/additiveref39.Valid -/
def c40_0 : List LOper := [⟨some 1, .box (.t 0), none⟩, ⟨some 2, .mov (.c (.bool false)), none⟩]
def c40_1 : List LOper := [⟨some 6, .faddr 0 (.t 1), none⟩, ⟨some 7, .load false 1 (.t 6), none⟩, ⟨some 8, .callp 76 [(.t 7)], none⟩, ⟨some 9, .un .not (.t 8), none⟩, ⟨some 10, .mov (.t 9), none⟩, ⟨some 11, .faddr 1 (.t 1), some (10, false)⟩, ⟨some 12, .load false 1 (.t 11), some (10, false)⟩, ⟨some 13, .ibin .lss (.t 12) (.c (.int .i64 0)), some (10, false)⟩, ⟨some 14, .pick (.t 10) (.c (.bool true)) (.t 13), none⟩, ⟨some 15, .mov (.t 14), none⟩, ⟨some 16, .faddr 1 (.t 1), some (15, false)⟩, ⟨some 17, .load false 1 (.t 16), some (15, false)⟩, ⟨some 18, .faddr 0 (.t 1), some (15, false)⟩, ⟨some 19, .load false 1 (.t 18), some (15, false)⟩, ⟨some 20, .callp 77 [(.t 19)], some (15, false)⟩, ⟨some 21, .ibin .andNot (.t 17) (.t 20), some (15, false)⟩, ⟨some 22, .ibin .neq (.t 21) (.c (.int .i64 0)), some (15, false)⟩, ⟨some 23, .pick (.t 15) (.c (.bool true)) (.t 22), none⟩, ⟨some 24, .mov (.t 23), none⟩, ⟨some 25, .faddr 0 (.t 1), some (24, false)⟩, ⟨some 26, .load false 1 (.t 25), some (24, false)⟩, ⟨some 27, .faddr 1 (.t 1), some (24, false)⟩, ⟨some 28, .load false 1 (.t 27), some (24, false)⟩, ⟨some 29, .callp 78 [(.t 26), (.t 28)], some (24, false)⟩, ⟨some 30, .un .not (.t 29), some (24, false)⟩, ⟨some 31, .pick (.t 24) (.c (.bool true)) (.t 30), none⟩]
def c40_2 : List LOper := [⟨some 2, .mov (.c (.bool false)), none⟩]
def c40_3 : List LOper := [⟨some 32, .load true 8 (.t 1), none⟩, ⟨some 33, .callp 79 [(.t 32)], none⟩, ⟨some 3, .mov (.t 33), none⟩]
def c40_4 : List LOper := [⟨some 4, .mov (.c (.int .i64 0)), none⟩]
def c40_5 : List LOper := [⟨some 34, .mov (.t 4), none⟩, ⟨some 35, .mov (.t 3), none⟩, ⟨some 36, .len (.t 35), none⟩, ⟨some 37, .ibin .lss (.t 34) (.t 36), none⟩]
def c40_6 : List LOper := [⟨some 40, .faddr 1 (.t 1), none⟩, ⟨some 41, .load false 1 (.t 40), none⟩, ⟨some 42, .mov (.t 4), none⟩, ⟨some 43, .conv .u64 (.t 42), none⟩, ⟨some 44, .shf .shr (.t 41) (.t 43), none⟩, ⟨some 45, .ibin .and (.t 44) (.c (.int .i64 1)), none⟩, ⟨some 46, .ibin .eql (.t 45) (.c (.int .i64 1)), none⟩, ⟨some 5, .mov (.t 46), none⟩]
def c40_7 : List LOper := [⟨some 47, .mov (.t 5), none⟩, ⟨some 48, .mov (.t 47), none⟩, ⟨some 49, .faddr 0 (.t 1), some (48, true)⟩, ⟨some 50, .load false 1 (.t 49), some (48, true)⟩, ⟨some 51, .mov (.t 4), some (48, true)⟩, ⟨some 52, .mov (.t 3), some (48, true)⟩, ⟨some 53, .mov (.t 4), some (48, true)⟩, ⟨some 54, .iaddr 1 (.t 52) (.t 53), some (48, true)⟩, ⟨some 55, .load false 1 (.t 54), some (48, true)⟩, ⟨some 56, .callp 80 [(.t 50), (.t 51), (.t 55)], some (48, true)⟩, ⟨some 57, .un .not (.t 56), some (48, true)⟩, ⟨some 58, .pick (.t 48) (.t 57) (.c (.bool false)), none⟩, ⟨some 59, .mov (.t 58), none⟩, ⟨some 60, .mov (.t 5), some (59, false)⟩, ⟨some 61, .un .not (.t 60), some (59, false)⟩, ⟨some 62, .mov (.t 61), some (59, false)⟩, ⟨some 63, .mov (.t 3), some (62, true)⟩, ⟨some 64, .mov (.t 4), some (62, true)⟩, ⟨some 65, .iaddr 1 (.t 63) (.t 64), some (62, true)⟩, ⟨some 66, .load false 1 (.t 65), some (62, true)⟩, ⟨some 67, .ibin .neq (.t 66) (.c (.int .i64 0)), some (62, true)⟩, ⟨some 68, .pick (.t 62) (.t 67) (.c (.bool false)), some (59, false)⟩, ⟨some 69, .pick (.t 59) (.c (.bool true)) (.t 68), none⟩]
def c40_8 : List LOper := [⟨some 2, .mov (.c (.bool false)), none⟩]
def c40_9 : List LOper := [⟨some 38, .mov (.t 4), none⟩, ⟨some 39, .ibin .add (.t 38) (.c (.int .i64 1)), none⟩, ⟨some 4, .mov (.t 39), none⟩]
def c40_L0 : LC := (.seq (.seq (.reg false c40_5) (.cond (.t 37) .skip (.seq (.trim []) (.exit 0)))) (.seq (.blk 1 (.seq (.reg false c40_6) (.seq (.reg true c40_7) (.cond (.t 69) (.seq (.reg false c40_8) (.seq (.trim [2]) .ret)) .skip)))) (.reg false c40_9)))
def c40_11 : List LOper := [⟨some 2, .mov (.c (.bool true)), none⟩]
def lc40 : LC := (.seq (.reg false c40_0) (.seq (.seq (.reg true c40_1) (.cond (.t 31) (.seq (.reg false c40_2) .ret) .skip)) (.seq (.reg false c40_3) (.seq (.seq (.reg false c40_4) (.blk 0 (.loop [1, 3, 4] c40_L0))) (.seq (.reg false c40_11) .ret)))))
def lf40 : LFunc := ⟨1, [.tmp 2], true, lc40⟩
def hi40 : Hints := ⟨[], [none, none, none, none, none, none, none, some [1, 3, 4], none, some [], none, none, none, none, some [2], none, none, none, none], []⟩
theorem lf40_ok : compF Try.prog hi40 true Try.f40 = some lf40 := by kernel_rfl

/-! additive/additiveref35.Amounts -/
def c41_0 : List LOper := [⟨some 3, .box (.t 1), none⟩, ⟨some 4, .mov (.c (.nils)), none⟩, ⟨some 5, .mov (.c (.int .i64 0)), none⟩]
def c41_1 : List LOper := [⟨some 12, .load true 20 (.t 3), none⟩, ⟨some 13, .callp 81 [(.t 12)], none⟩, ⟨some 14, .un .not (.t 13), none⟩]
def c41_2 : List LOper := [⟨some 4, .mov (.c (.nils)), none⟩, ⟨some 5, .mov (.c (.int .i64 1)), none⟩]
def c41_3 : List LOper := [⟨some 6, .mov (.c (.nils)), none⟩]
def c41_4 : List LOper := [⟨some 7, .mov (.c (.int .i64 0)), none⟩]
def c41_5 : List LOper := [⟨some 8, .mov (.c (.bool false)), none⟩]
def c41_6 : List LOper := [⟨some 9, .mov (.c (.int .i64 0)), none⟩]
def c41_7 : List LOper := [⟨some 15, .mov (.t 9), none⟩, ⟨some 16, .mov (.t 0), none⟩, ⟨some 17, .len (.t 16), none⟩, ⟨some 18, .ibin .lss (.t 15) (.t 17), none⟩]
def c41_8 : List LOper := [⟨some 21, .mov (.t 0), none⟩, ⟨some 22, .mov (.t 9), none⟩, ⟨some 23, .iaddr 6 (.t 21) (.t 22), none⟩, ⟨some 24, .faddr 0 (.t 23), none⟩, ⟨some 25, .load false 1 (.t 24), none⟩, ⟨some 10, .mov (.t 25), none⟩]
def c41_9 : List LOper := [⟨some 26, .mov (.t 8), none⟩, ⟨some 27, .mov (.t 26), none⟩, ⟨some 28, .mov (.t 10), some (27, true)⟩, ⟨some 29, .ibin .eql (.t 28) (.c (.int .i64 3)), some (27, true)⟩, ⟨some 30, .mov (.t 29), some (27, true)⟩, ⟨some 31, .mov (.t 10), some (30, false)⟩, ⟨some 32, .ibin .eql (.t 31) (.c (.int .i64 4)), some (30, false)⟩, ⟨some 33, .pick (.t 30) (.c (.bool true)) (.t 32), some (27, true)⟩, ⟨some 34, .pick (.t 27) (.t 33) (.c (.bool false)), none⟩, ⟨some 35, .mov (.t 34), none⟩, ⟨some 36, .mov (.t 8), some (35, false)⟩, ⟨some 37, .un .not (.t 36), some (35, false)⟩, ⟨some 38, .mov (.t 37), some (35, false)⟩, ⟨some 39, .mov (.t 10), some (38, true)⟩, ⟨some 40, .ibin .eql (.t 39) (.c (.int .i64 5)), some (38, true)⟩, ⟨some 41, .pick (.t 38) (.t 40) (.c (.bool false)), some (35, false)⟩, ⟨some 42, .pick (.t 35) (.c (.bool true)) (.t 41), none⟩]
def c41_10 : List LOper := [⟨some 4, .mov (.c (.nils)), none⟩, ⟨some 5, .mov (.c (.int .i64 11)), none⟩]
def c41_11 : List LOper := [⟨some 43, .mov (.t 10), none⟩, ⟨some 44, .ibin .eql (.t 43) (.c (.int .i64 3)), none⟩]
def c41_12 : List LOper := [⟨some 45, .mov (.t 7), none⟩, ⟨some 46, .mov (.t 0), none⟩, ⟨some 47, .mov (.t 9), none⟩, ⟨some 48, .iaddr 6 (.t 46) (.t 47), none⟩, ⟨some 49, .faddr 5 (.t 48), none⟩, ⟨some 50, .load false 1 (.t 49), none⟩, ⟨some 51, .len (.t 50), none⟩, ⟨some 52, .ibin .add (.t 45) (.t 51), none⟩, ⟨some 7, .mov (.t 52), none⟩]
def c41_13 : List LOper := [⟨some 53, .mov (.t 7), none⟩, ⟨some 54, .ibin .gtr (.t 53) (.c (.int .i64 1048576)), none⟩]
def c41_14 : List LOper := [⟨some 4, .mov (.c (.nils)), none⟩, ⟨some 5, .mov (.c (.int .i64 2)), none⟩]
def c41_15 : List LOper := [⟨some 55, .mov (.t 10), none⟩, ⟨some 56, .ibin .eql (.t 55) (.c (.int .i64 4)), none⟩]
def c41_16 : List LOper := [⟨some 8, .mov (.c (.bool true)), none⟩]
def c41_17 : List LOper := [⟨some 57, .mov (.t 10), none⟩, ⟨some 58, .ibin .eql (.t 57) (.c (.int .i64 5)), none⟩]
def c41_18 : List LOper := [⟨some 8, .mov (.c (.bool false)), none⟩]
def c41_19 : List LOper := [⟨some 59, .mov (.t 7), none⟩, ⟨some 60, .load true 20 (.t 3), none⟩, ⟨some 61, .callp 82 [(.t 59), (.t 60)], none⟩, ⟨some 62, .faddr 12 (.t 3), none⟩, ⟨some 63, .load false 1 (.t 62), none⟩, ⟨some 64, .ibin .quo (.t 61) (.t 63), none⟩, ⟨some 11, .mov (.t 64), none⟩]
def c41_20 : List LOper := [⟨some 65, .mov (.t 8), none⟩]
def c41_21 : List LOper := [⟨some 66, .mov (.t 11), none⟩, ⟨some 67, .faddr 15 (.t 3), none⟩, ⟨some 68, .load false 1 (.t 67), none⟩, ⟨some 69, .ibin .sub (.t 66) (.t 68), none⟩, ⟨some 11, .mov (.t 69), none⟩]
def c41_22 : List LOper := [⟨some 70, .mov (.t 6), none⟩, ⟨some 71, .mov (.t 11), none⟩, ⟨some 72, .bslice 1 1 3 [.int .i64 0] [(0, 1, (.t 71))], none⟩, ⟨some 73, .app 1 8 3 [.int .i64 0] (.t 70) (.t 72), none⟩, ⟨some 6, .mov (.t 73), none⟩]
def c41_23 : List LOper := [⟨some 19, .mov (.t 9), none⟩, ⟨some 20, .ibin .add (.t 19) (.c (.int .i64 1)), none⟩, ⟨some 9, .mov (.t 20), none⟩]
def c41_L0 : LC := (.seq (.seq (.reg false c41_7) (.cond (.t 18) .skip (.seq (.trim [6]) (.exit 0)))) (.seq (.blk 1 (.seq (.reg false c41_8) (.seq (.seq (.reg false c41_9) (.cond (.t 42) (.seq (.reg false c41_10) (.seq (.trim [4, 5]) .ret)) .skip)) (.seq (.seq (.reg false c41_11) (.cond (.t 44) (.reg false c41_12) .skip)) (.seq (.seq (.reg false c41_13) (.cond (.t 54) (.seq (.reg false c41_14) (.seq (.trim [4, 5]) .ret)) .skip)) (.seq (.seq (.reg false c41_15) (.cond (.t 56) (.reg false c41_16) .skip)) (.seq (.seq (.reg false c41_17) (.cond (.t 58) (.reg false c41_18) .skip)) (.seq (.reg true c41_19) (.seq (.seq (.reg false c41_20) (.cond (.t 65) (.reg false c41_21) .skip)) (.reg false c41_22)))))))))) (.reg false c41_23)))
def c41_25 : List LOper := [⟨some 74, .mov (.t 6), none⟩, ⟨some 4, .mov (.t 74), none⟩, ⟨some 5, .mov (.c (.int .i64 0)), none⟩]
def lc41 : LC := (.seq (.reg false c41_0) (.seq (.seq (.reg false c41_1) (.cond (.t 14) (.seq (.reg false c41_2) .ret) .skip)) (.seq (.reg false c41_3) (.seq (.reg false c41_4) (.seq (.reg false c41_5) (.seq (.seq (.reg false c41_6) (.blk 0 (.loop [0, 3, 6, 7, 8, 9] c41_L0))) (.seq (.reg false c41_25) .ret)))))))
def lf41 : LFunc := ⟨2, [.tmp 4, .tmp 5], true, lc41⟩
def hi41 : Hints := ⟨[], [none, none, none, none, none, none, none, none, none, some [0, 3, 6, 7, 8, 9], none, some [6], none, none, none, none, some [4, 5], none, none, none, none, none, some [4, 5], none, none, none, none, none, none, none, none, none, none, none, none], []⟩
theorem lf41_ok : compF Try.prog hi41 true Try.f41 = some lf41 := by kernel_rfl

/-! additive/additivelaw40.visited -/
def c42_0 : List LOper := [⟨some 2, .mov (.c (.nils)), none⟩, ⟨some 3, .mov (.c (.bool false)), none⟩]
def c42_1 : List LOper := [⟨some 4, .mov (.c (.nils)), none⟩]
def c42_2 : List LOper := [⟨some 9, .build [.int .i64 0, .int .i64 0] [], none⟩, ⟨some 5, .alloc [.int .i64 0, .int .i64 0], none⟩, ⟨none, .store 2 (.t 5) (.t 9), none⟩]
def c42_3 : List LOper := [⟨some 6, .mov (.c (.int .i64 0)), none⟩]
def c42_4 : List LOper := [⟨some 10, .mov (.t 6), none⟩, ⟨some 11, .mov (.t 0), none⟩, ⟨some 12, .len (.t 11), none⟩, ⟨some 13, .ibin .lss (.t 10) (.t 12), none⟩]
def c42_5 : List LOper := [⟨some 16, .mov (.t 0), none⟩, ⟨some 17, .mov (.t 6), none⟩, ⟨some 18, .iaddr 6 (.t 16) (.t 17), none⟩, ⟨some 19, .faddr 0 (.t 18), none⟩, ⟨some 20, .load false 1 (.t 19), none⟩, ⟨some 21, .ibin .neq (.t 20) (.c (.int .i64 2)), none⟩, ⟨some 22, .mov (.t 21), none⟩, ⟨some 23, .mov (.t 0), some (22, true)⟩, ⟨some 24, .mov (.t 6), some (22, true)⟩, ⟨some 25, .iaddr 6 (.t 23) (.t 24), some (22, true)⟩, ⟨some 26, .faddr 0 (.t 25), some (22, true)⟩, ⟨some 27, .load false 1 (.t 26), some (22, true)⟩, ⟨some 28, .ibin .neq (.t 27) (.c (.int .i64 3)), some (22, true)⟩, ⟨some 29, .pick (.t 22) (.t 28) (.c (.bool false)), none⟩]
def c42_6 : List LOper := [⟨some 7, .mov (.c (.int .i64 0)), none⟩]
def c42_7 : List LOper := [⟨some 30, .mov (.t 7), none⟩, ⟨some 31, .mov (.t 0), none⟩, ⟨some 32, .mov (.t 6), none⟩, ⟨some 33, .iaddr 6 (.t 31) (.t 32), none⟩, ⟨some 34, .faddr 5 (.t 33), none⟩, ⟨some 35, .load false 1 (.t 34), none⟩, ⟨some 36, .len (.t 35), none⟩, ⟨some 37, .ibin .lss (.t 30) (.t 36), none⟩]
def c42_8 : List LOper := [⟨some 40, .mov (.t 0), none⟩, ⟨some 41, .mov (.t 6), none⟩, ⟨some 42, .iaddr 6 (.t 40) (.t 41), none⟩, ⟨some 43, .faddr 5 (.t 42), none⟩, ⟨some 44, .load false 1 (.t 43), none⟩, ⟨some 45, .mov (.t 7), none⟩, ⟨some 46, .iaddr 2 (.t 44) (.t 45), none⟩, ⟨some 47, .load true 2 (.t 46), none⟩, ⟨some 8, .alloc [.int .i64 0, .int .i64 0], none⟩, ⟨none, .store 2 (.t 8) (.t 47), none⟩]
def c42_9 : List LOper := [⟨some 48, .mov (.t 7), none⟩, ⟨some 49, .ibin .eql (.t 48) (.c (.int .i64 0)), none⟩, ⟨some 50, .mov (.t 49), none⟩, ⟨some 51, .mov (.t 0), some (50, true)⟩, ⟨some 52, .mov (.t 6), some (50, true)⟩, ⟨some 53, .iaddr 6 (.t 51) (.t 52), some (50, true)⟩, ⟨some 54, .faddr 0 (.t 53), some (50, true)⟩, ⟨some 55, .load false 1 (.t 54), some (50, true)⟩, ⟨some 56, .ibin .eql (.t 55) (.c (.int .i64 3)), some (50, true)⟩, ⟨some 57, .pick (.t 50) (.t 56) (.c (.bool false)), none⟩, ⟨some 58, .mov (.t 57), none⟩, ⟨some 59, .load true 2 (.t 8), some (58, true)⟩, ⟨some 60, .load true 2 (.t 5), some (58, true)⟩, ⟨some 61, .eqv false true [false, false] (.t 59) (.t 60), some (58, true)⟩, ⟨some 62, .pick (.t 58) (.t 61) (.c (.bool false)), none⟩]
def c42_10 : List LOper := [⟨some 63, .load true 2 (.t 5), none⟩, ⟨some 64, .load true 2 (.t 8), none⟩, ⟨some 65, .callp 83 [(.t 63), (.t 64)], none⟩, ⟨some 66, .un .not (.t 65), none⟩]
def c42_11 : List LOper := [⟨some 2, .mov (.c (.nils)), none⟩, ⟨some 3, .mov (.c (.bool false)), none⟩]
def c42_12 : List LOper := [⟨some 67, .mov (.t 4), none⟩, ⟨some 68, .load true 2 (.t 8), none⟩, ⟨some 69, .bslice 1 2 26 [.int .i64 0, .int .i64 0] [(0, 2, (.t 68))], none⟩, ⟨some 70, .app 2 16 26 [.int .i64 0, .int .i64 0] (.t 67) (.t 69), none⟩, ⟨some 4, .mov (.t 70), none⟩]
def c42_13 : List LOper := [⟨some 71, .load true 2 (.t 8), none⟩, ⟨none, .store 2 (.t 5) (.t 71), none⟩]
def c42_14 : List LOper := [⟨some 38, .mov (.t 7), none⟩, ⟨some 39, .ibin .add (.t 38) (.c (.int .i64 1)), none⟩, ⟨some 7, .mov (.t 39), none⟩]
def c42_L0 : LC := (.seq (.seq (.reg false c42_7) (.cond (.t 37) .skip (.seq (.trim [0, 4, 5, 6]) (.exit 2)))) (.seq (.blk 3 (.seq (.reg false c42_8) (.seq (.seq (.reg false c42_9) (.cond (.t 62) (.exit 3) .skip)) (.seq (.seq (.reg false c42_10) (.cond (.t 66) (.seq (.reg false c42_11) (.seq (.trim [2, 3]) .ret)) .skip)) (.seq (.reg false c42_12) (.reg false c42_13)))))) (.reg false c42_14)))
def c42_16 : List LOper := [⟨some 14, .mov (.t 6), none⟩, ⟨some 15, .ibin .add (.t 14) (.c (.int .i64 1)), none⟩, ⟨some 6, .mov (.t 15), none⟩]
def c42_L1 : LC := (.seq (.seq (.reg false c42_4) (.cond (.t 13) .skip (.seq (.trim [4]) (.exit 0)))) (.seq (.blk 1 (.seq (.seq (.reg false c42_5) (.cond (.t 29) (.exit 1) .skip)) (.seq (.reg false c42_6) (.blk 2 (.loop [0, 4, 5, 6, 7] c42_L0))))) (.reg false c42_16)))
def c42_18 : List LOper := [⟨some 72, .mov (.t 4), none⟩, ⟨some 2, .mov (.t 72), none⟩, ⟨some 3, .mov (.c (.bool true)), none⟩]
def lc42 : LC := (.seq (.reg false c42_0) (.seq (.reg false c42_1) (.seq (.reg false c42_2) (.seq (.seq (.reg false c42_3) (.blk 0 (.loop [0, 4, 5, 6] c42_L1))) (.seq (.reg false c42_18) .ret)))))
def lf42 : LFunc := ⟨1, [.tmp 2, .tmp 3], true, lc42⟩
def hi42 : Hints := ⟨[], [none, none, none, none, some [0, 4, 5, 6], none, some [4], none, none, none, none, none, some [0, 4, 5, 6, 7], none, some [0, 4, 5, 6], none, none, none, none, none, none, none, some [2, 3], none, none, none, none, none, none, none], []⟩
theorem lf42_ok : compF Try.prog hi42 true Try.f42 = some lf42 := by kernel_rfl

/-! additive/additivelaw40.towards -/
def c43_0 : List LOper := [⟨some 4, .mov (.c (.int .i64 0)), none⟩]
def c43_1 : List LOper := [⟨some 5, .mov (.t 0), none⟩, ⟨some 6, .mov (.t 1), none⟩, ⟨some 7, .ibin .lss (.t 5) (.t 6), none⟩]
def c43_2 : List LOper := [⟨some 8, .mov (.t 0), none⟩, ⟨some 9, .ibin .add (.t 8) (.c (.int .i64 1)), none⟩, ⟨some 4, .mov (.t 9), none⟩]
def c43_3 : List LOper := [⟨some 10, .mov (.t 0), none⟩, ⟨some 11, .mov (.t 1), none⟩, ⟨some 12, .ibin .gtr (.t 10) (.t 11), none⟩]
def c43_4 : List LOper := [⟨some 13, .mov (.t 0), none⟩, ⟨some 14, .ibin .sub (.t 13) (.c (.int .i64 1)), none⟩, ⟨some 4, .mov (.t 14), none⟩]
def c43_5 : List LOper := [⟨some 15, .mov (.t 0), none⟩, ⟨some 4, .mov (.t 15), none⟩]
def lc43 : LC := (.seq (.reg false c43_0) (.seq (.seq (.reg false c43_1) (.cond (.t 7) (.seq (.reg false c43_2) .ret) .skip)) (.seq (.seq (.reg false c43_3) (.cond (.t 12) (.seq (.reg false c43_4) .ret) .skip)) (.seq (.reg false c43_5) .ret))))
def lf43 : LFunc := ⟨2, [.tmp 4], true, lc43⟩
def hi43 : Hints := ⟨[], [none, none, none, none, none, none, none, none, none, none, none], []⟩
theorem lf43_ok : compF Try.prog hi43 true Try.f43 = some lf43 := by kernel_rfl

/-! additive/flow.Amounts -/
def c70_0 : List LOper := [⟨some 3, .box (.t 1), none⟩, ⟨some 4, .mov (.c (.nils)), none⟩, ⟨some 5, .mov (.c (.int .i64 0)), none⟩]
def c70_1 : List LOper := [⟨some 13, .load true 20 (.t 3), none⟩, ⟨some 14, .callp 97 [(.t 13)], none⟩, ⟨some 15, .un .not (.t 14), none⟩]
def c70_2 : List LOper := [⟨some 4, .mov (.c (.nils)), none⟩, ⟨some 5, .mov (.c (.int .i64 1)), none⟩]
def c70_3 : List LOper := [⟨some 16, .mov (.t 0), none⟩, ⟨some 17, .len (.t 16), none⟩, ⟨some 18, .mkS 1 8 3 [.int .i64 0] (.c (.int .i64 0)) (.t 17), none⟩, ⟨some 6, .mov (.t 18), none⟩]
def c70_4 : List LOper := [⟨some 7, .mov (.c (.int .i64 0)), none⟩, ⟨some 8, .mov (.c (.bool false)), none⟩]
def c70_5 : List LOper := [⟨some 19, .mov (.t 0), none⟩, ⟨some 20, .len (.t 19), none⟩, ⟨some 21, .mov (.c (.int .i64 0)), none⟩]
def c70_6 : List LOper := [⟨some 22, .ibin .lss (.t 21) (.t 20), none⟩]
def c70_7 : List LOper := [⟨some 23, .iaddr 6 (.t 19) (.t 21), none⟩, ⟨some 24, .load true 6 (.t 23), none⟩, ⟨some 10, .alloc [.int .i64 0, .int .i64 0, .int .i64 0, .int .i64 0, .int .i64 0, .nils], none⟩, ⟨none, .store 6 (.t 10) (.t 24), none⟩]
def c70_8 : List LOper := [⟨some 25, .faddr 0 (.t 10), none⟩, ⟨some 26, .load false 1 (.t 25), none⟩]
def c70_9 : List LOper := [⟨some 28, .ibin .eql (.t 26) (.c (.int .i64 3)), none⟩, ⟨some 27, .mov (.t 28), none⟩]
def c70_10 : List LOper := [⟨some 29, .ibin .eql (.t 26) (.c (.int .i64 4)), none⟩, ⟨some 27, .mov (.t 29), none⟩]
def c70_11 : List LOper := [⟨some 30, .mov (.t 8), none⟩]
def c70_12 : List LOper := [⟨some 4, .mov (.c (.nils)), none⟩, ⟨some 5, .mov (.c (.int .i64 11)), none⟩]
def c70_13 : List LOper := [⟨some 31, .faddr 0 (.t 10), none⟩, ⟨some 32, .load false 1 (.t 31), none⟩, ⟨some 33, .ibin .eql (.t 32) (.c (.int .i64 4)), none⟩]
def c70_14 : List LOper := [⟨some 8, .mov (.c (.bool true)), none⟩]
def c70_15 : List LOper := [⟨some 34, .mov (.t 7), none⟩, ⟨some 35, .faddr 5 (.t 10), none⟩, ⟨some 36, .load false 1 (.t 35), none⟩, ⟨some 37, .len (.t 36), none⟩, ⟨some 38, .ibin .add (.t 34) (.t 37), none⟩, ⟨some 7, .mov (.t 38), none⟩]
def c70_16 : List LOper := [⟨some 40, .ibin .eql (.t 26) (.c (.int .i64 5)), none⟩, ⟨some 39, .mov (.t 40), none⟩]
def c70_17 : List LOper := [⟨some 41, .mov (.t 8), none⟩, ⟨some 42, .un .not (.t 41), none⟩]
def c70_18 : List LOper := [⟨some 4, .mov (.c (.nils)), none⟩, ⟨some 5, .mov (.c (.int .i64 11)), none⟩]
def c70_19 : List LOper := [⟨some 8, .mov (.c (.bool false)), none⟩]
def c70_20 : List LOper := [⟨some 43, .mov (.t 7), none⟩, ⟨some 44, .ibin .gtr (.t 43) (.c (.int .i64 1048576)), none⟩]
def c70_21 : List LOper := [⟨some 4, .mov (.c (.nils)), none⟩, ⟨some 5, .mov (.c (.int .i64 2)), none⟩]
def c70_22 : List LOper := [⟨some 46, .mov (.t 7), none⟩, ⟨some 47, .load true 20 (.t 3), none⟩, ⟨some 48, .callp 99 [(.t 46), (.t 47)], none⟩, ⟨some 49, .faddr 12 (.t 3), none⟩, ⟨some 50, .load false 1 (.t 49), none⟩, ⟨some 51, .callp 98 [(.t 48), (.t 50)], none⟩, ⟨some 45, .mov (.t 51), none⟩, ⟨some 52, .ext (.t 45) 0, none⟩, ⟨some 53, .ext (.t 45) 1, none⟩, ⟨some 11, .mov (.t 52), none⟩, ⟨some 12, .mov (.t 53), none⟩]
def c70_23 : List LOper := [⟨some 54, .mov (.t 8), none⟩]
def c70_24 : List LOper := [⟨some 55, .mov (.t 11), none⟩, ⟨some 56, .faddr 15 (.t 3), none⟩, ⟨some 57, .load false 1 (.t 56), none⟩, ⟨some 58, .ibin .sub (.t 55) (.t 57), none⟩, ⟨some 11, .mov (.t 58), none⟩]
def c70_25 : List LOper := [⟨some 59, .mov (.t 6), none⟩, ⟨some 60, .mov (.t 11), none⟩, ⟨some 61, .bslice 1 1 3 [.int .i64 0] [(0, 1, (.t 60))], none⟩, ⟨some 62, .app 1 8 3 [.int .i64 0] (.t 59) (.t 61), none⟩, ⟨some 6, .mov (.t 62), none⟩]
def c70_26 : List LOper := [⟨some 63, .ibin .add (.t 21) (.c (.int .i64 1)), none⟩, ⟨some 21, .mov (.t 63), none⟩]
def c70_L0 : LC := (.seq (.reg false c70_6) (.seq (.cond (.t 22) .skip (.seq (.trim [6]) (.exit 0))) (.seq (.blk 1 (.seq (.reg false c70_7) (.seq (.seq (.reg false c70_8) (.blk 2 (.seq (.seq (.reg false c70_9) (.cond (.t 27) .skip (.reg false c70_10))) (.cond (.t 27) (.seq (.seq (.reg false c70_11) (.cond (.t 30) (.seq (.reg false c70_12) (.seq (.trim [4, 5]) .ret)) .skip)) (.seq (.reg false c70_13) (.cond (.t 33) (.reg false c70_14) (.reg false c70_15)))) (.seq (.reg false c70_16) (.cond (.t 39) (.seq (.seq (.reg false c70_17) (.cond (.t 42) (.seq (.reg false c70_18) (.seq (.trim [4, 5]) .ret)) .skip)) (.reg false c70_19)) .skip)))))) (.seq (.seq (.reg false c70_20) (.cond (.t 44) (.seq (.reg false c70_21) (.seq (.trim [4, 5]) .ret)) .skip)) (.seq (.reg true c70_22) (.seq (.seq (.reg false c70_23) (.cond (.t 54) (.reg false c70_24) .skip)) (.reg false c70_25))))))) (.reg false c70_26))))
def c70_28 : List LOper := [⟨some 64, .mov (.t 6), none⟩, ⟨some 4, .mov (.t 64), none⟩, ⟨some 5, .mov (.c (.int .i64 0)), none⟩]
def lc70 : LC := (.seq (.reg false c70_0) (.seq (.seq (.reg false c70_1) (.cond (.t 15) (.seq (.reg false c70_2) .ret) .skip)) (.seq (.reg false c70_3) (.seq (.reg false c70_4) (.seq (.seq (.reg false c70_5) (.blk 0 (.loop [3, 6, 7, 8, 19, 20, 21] c70_L0))) (.seq (.reg false c70_28) .ret))))))
def lf70 : LFunc := ⟨2, [.tmp 4, .tmp 5], true, lc70⟩
def hi70 : Hints := ⟨[], [none, none, none, none, none, none, none, none, some [3, 6, 7, 8, 19, 20, 21], none, some [6], none, none, none, none, none, none, none, some [4, 5], none, none, none, none, none, some [4, 5], none, none, none, none, some [4, 5], none, none, none, none, none, none, none, none], []⟩
theorem lf70_ok : compF Try.prog hi70 true Try.f70 = some lf70 := by kernel_rfl

/-! additive/emit.inside -/
def c71_0 : List LOper := [⟨some 2, .mov (.c (.bool false)), none⟩]
def c71_1 : List LOper := [⟨some 5, .mov (.t 0), none⟩, ⟨some 6, .len (.t 5), none⟩, ⟨some 7, .mov (.c (.int .i64 0)), none⟩]
def c71_2 : List LOper := [⟨some 8, .ibin .lss (.t 7) (.t 6), none⟩]
def c71_3 : List LOper := [⟨some 9, .iaddr 2 (.t 5) (.t 7), none⟩, ⟨some 10, .load true 2 (.t 9), none⟩, ⟨some 4, .alloc [.int .i64 0, .int .i64 0], none⟩, ⟨none, .store 2 (.t 4) (.t 10), none⟩]
def c71_4 : List LOper := [⟨some 11, .load true 2 (.t 4), none⟩, ⟨some 12, .callp 84 [(.t 11)], none⟩, ⟨some 13, .un .not (.t 12), none⟩]
def c71_5 : List LOper := [⟨some 2, .mov (.c (.bool false)), none⟩]
def c71_6 : List LOper := [⟨some 14, .ibin .add (.t 7) (.c (.int .i64 1)), none⟩, ⟨some 7, .mov (.t 14), none⟩]
def c71_L0 : LC := (.seq (.reg false c71_2) (.seq (.cond (.t 8) .skip (.seq (.trim []) (.exit 0))) (.seq (.blk 1 (.seq (.reg false c71_3) (.seq (.reg false c71_4) (.cond (.t 13) (.seq (.reg false c71_5) (.seq (.trim [2]) .ret)) .skip)))) (.reg false c71_6))))
def c71_8 : List LOper := [⟨some 2, .mov (.c (.bool true)), none⟩]
def lc71 : LC := (.seq (.reg false c71_0) (.seq (.seq (.reg false c71_1) (.blk 0 (.loop [5, 6, 7] c71_L0))) (.seq (.reg false c71_8) .ret)))
def lf71 : LFunc := ⟨1, [.tmp 2], true, lc71⟩
def hi71 : Hints := ⟨[], [none, none, some [5, 6, 7], none, some [], none, none, none, none, some [2], none, none, none, none], []⟩
theorem lf71_ok : compF Try.prog hi71 true Try.f71 = some lf71 := by kernel_rfl

/-! additive/emit.handler -/
def c72_0 : List LOper := [⟨some 2, .mov (.c (.nilf)), none⟩]
def c72_1 : List LOper := [⟨some 3, .mov (.t 0), none⟩]
def c72_2 : List LOper := [⟨some 5, .ibin .eql (.t 3) (.c (.int .i64 1)), none⟩, ⟨some 4, .mov (.t 5), none⟩]
def c72_3 : List LOper := [⟨some 2, .mov (.c (.fn 100 [])), none⟩]
def c72_4 : List LOper := [⟨some 7, .ibin .eql (.t 3) (.c (.int .i64 2)), none⟩, ⟨some 6, .mov (.t 7), none⟩]
def c72_5 : List LOper := [⟨some 2, .mov (.c (.fn 101 [])), none⟩]
def c72_6 : List LOper := [⟨some 9, .ibin .eql (.t 3) (.c (.int .i64 3)), none⟩, ⟨some 8, .mov (.t 9), none⟩]
def c72_7 : List LOper := [⟨some 2, .mov (.c (.fn 102 [])), none⟩]
def c72_8 : List LOper := [⟨some 11, .ibin .eql (.t 3) (.c (.int .i64 4)), none⟩, ⟨some 10, .mov (.t 11), none⟩]
def c72_9 : List LOper := [⟨some 12, .ibin .eql (.t 3) (.c (.int .i64 5)), none⟩, ⟨some 10, .mov (.t 12), none⟩]
def c72_10 : List LOper := [⟨some 2, .mov (.c (.fn 103 [])), none⟩]
def c72_11 : List LOper := [⟨some 14, .ibin .eql (.t 3) (.c (.int .i64 6)), none⟩, ⟨some 13, .mov (.t 14), none⟩]
def c72_12 : List LOper := [⟨some 2, .mov (.c (.fn 104 [])), none⟩]
def c72_13 : List LOper := [⟨some 2, .mov (.c (.fn 105 [])), none⟩]
def lc72 : LC := (.seq (.reg false c72_0) (.seq (.seq (.reg false c72_1) (.blk 0 (.seq (.reg false c72_2) (.cond (.t 4) (.seq (.reg false c72_3) .ret) (.seq (.reg false c72_4) (.cond (.t 6) (.seq (.reg false c72_5) .ret) (.seq (.reg false c72_6) (.cond (.t 8) (.seq (.reg false c72_7) .ret) (.seq (.seq (.reg false c72_8) (.cond (.t 10) .skip (.reg false c72_9))) (.cond (.t 10) (.seq (.reg false c72_10) .ret) (.seq (.reg false c72_11) (.cond (.t 13) (.seq (.reg false c72_12) .ret) .skip)))))))))))) (.seq (.reg false c72_13) .ret)))
def lf72 : LFunc := ⟨1, [.tmp 2], true, lc72⟩
def hi72 : Hints := ⟨[], [none, none, none, none, none, none, none, none, none, none, none, none, none, none, none, none, none, none, none, none, none], []⟩
theorem lf72_ok : compF Try.prog hi72 true Try.f72 = some lf72 := by kernel_rfl

/-! additive/additiveref40.ok -/
def c73_0 : List LOper := [⟨some 1, .box (.t 0), none⟩, ⟨some 2, .mov (.c (.bool false)), none⟩]
def c73_1 : List LOper := [⟨some 3, .faddr 0 (.t 1), none⟩, ⟨some 4, .load false 1 (.t 3), none⟩, ⟨some 5, .ibin .geq (.t 4) (.c (.int .i64 (-4096))), none⟩, ⟨some 6, .mov (.t 5), none⟩, ⟨some 7, .faddr 0 (.t 1), some (6, true)⟩, ⟨some 8, .load false 1 (.t 7), some (6, true)⟩, ⟨some 9, .ibin .lss (.t 8) (.c (.int .i64 4096)), some (6, true)⟩, ⟨some 10, .pick (.t 6) (.t 9) (.c (.bool false)), none⟩, ⟨some 11, .mov (.t 10), none⟩, ⟨some 12, .faddr 1 (.t 1), some (11, true)⟩, ⟨some 13, .load false 1 (.t 12), some (11, true)⟩, ⟨some 14, .ibin .geq (.t 13) (.c (.int .i64 (-4096))), some (11, true)⟩, ⟨some 15, .pick (.t 11) (.t 14) (.c (.bool false)), none⟩, ⟨some 16, .mov (.t 15), none⟩, ⟨some 17, .faddr 1 (.t 1), some (16, true)⟩, ⟨some 18, .load false 1 (.t 17), some (16, true)⟩, ⟨some 19, .ibin .lss (.t 18) (.c (.int .i64 4096)), some (16, true)⟩, ⟨some 20, .pick (.t 16) (.t 19) (.c (.bool false)), none⟩, ⟨some 2, .mov (.t 20), none⟩]
def lc73 : LC := (.seq (.reg false c73_0) (.seq (.reg false c73_1) .ret))
def lf73 : LFunc := ⟨1, [.tmp 2], true, lc73⟩
def hi73 : Hints := ⟨[], [none, none, none], []⟩
theorem lf73_ok : compF Try.prog hi73 true Try.f73 = some lf73 := by kernel_rfl

/-! (*additive/additiveref40.state).op -/
def c74_0 : List LOper := [⟨some 4, .box (.t 1), none⟩]
def c74_1 : List LOper := [⟨some 6, .faddr 0 (.t 4), none⟩, ⟨some 7, .load false 1 (.t 6), none⟩]
def c74_2 : List LOper := [⟨some 9, .ibin .eql (.t 7) (.c (.int .i64 1)), none⟩, ⟨some 8, .mov (.t 9), none⟩]
def c74_3 : List LOper := [⟨some 10, .mov (.t 0), none⟩, ⟨some 11, .faddr 3 (.t 4), none⟩, ⟨some 12, .load false 1 (.t 11), none⟩, ⟨some 13, .build [.int .i64 0, .int .i64 0, .int .i64 0, .int .i64 0, .int .i64 0, .int .i64 0, .int .i64 0, .int .i64 0] [(0, 1, (.c (.int .i64 0))), (1, 1, (.c (.int .i64 4))), (4, 1, (.t 12))], none⟩, ⟨some 14, .mov (.t 0), none⟩, ⟨some 15, .nilck (.t 14), none⟩, ⟨some 16, .faddr 0 (.t 15), none⟩, ⟨some 17, .faddr 14 (.t 16), none⟩, ⟨some 18, .load false 1 (.t 17), none⟩, ⟨some 19, .callr 106 [(.t 10), (.t 13), (.t 18)], none⟩]
def c74_4 : List LOper := [⟨some 21, .ibin .eql (.t 7) (.c (.int .i64 2)), none⟩, ⟨some 20, .mov (.t 21), none⟩]
def c74_5 : List LOper := [⟨some 22, .ibin .eql (.t 7) (.c (.int .i64 3)), none⟩, ⟨some 20, .mov (.t 22), none⟩]
def c74_6 : List LOper := [⟨some 23, .mov (.t 0), none⟩, ⟨some 24, .load true 6 (.t 4), none⟩, ⟨some 25, .callr 107 [(.t 23), (.t 24)], none⟩]
def c74_7 : List LOper := [⟨some 27, .ibin .eql (.t 7) (.c (.int .i64 4)), none⟩, ⟨some 26, .mov (.t 27), none⟩]
def c74_8 : List LOper := [⟨some 28, .ibin .eql (.t 7) (.c (.int .i64 5)), none⟩, ⟨some 26, .mov (.t 28), none⟩]
def c74_9 : List LOper := [⟨some 29, .mov (.t 0), none⟩, ⟨some 30, .mov (.t 2), none⟩, ⟨some 31, .build [.int .i64 0, .int .i64 0, .int .i64 0, .int .i64 0, .int .i64 0, .int .i64 0, .int .i64 0, .int .i64 0] [(0, 1, (.c (.int .i64 1))), (1, 1, (.c (.int .i64 8))), (5, 1, (.t 30))], none⟩, ⟨some 32, .callr 106 [(.t 29), (.t 31), (.c (.int .i64 0))], none⟩]
def c74_10 : List LOper := [⟨some 34, .ibin .eql (.t 7) (.c (.int .i64 6)), none⟩, ⟨some 33, .mov (.t 34), none⟩]
def c74_11 : List LOper := [⟨some 35, .faddr 4 (.t 4), none⟩, ⟨some 36, .load false 1 (.t 35), none⟩, ⟨some 37, .ibin .eql (.t 36) (.c (.int .i64 0)), none⟩]
def c74_12 : List LOper := [⟨some 38, .mov (.t 0), none⟩, ⟨some 39, .build [.int .i64 0, .int .i64 0, .int .i64 0, .int .i64 0, .int .i64 0, .int .i64 0, .int .i64 0, .int .i64 0] [(0, 1, (.c (.int .i64 1107)))], none⟩, ⟨some 40, .callr 106 [(.t 38), (.t 39), (.c (.int .i64 0))], none⟩]
def c74_13 : List LOper := [⟨some 41, .mov (.t 0), none⟩, ⟨some 42, .faddr 4 (.t 4), none⟩, ⟨some 43, .load false 1 (.t 42), none⟩, ⟨some 44, .build [.int .i64 0, .int .i64 0, .int .i64 0, .int .i64 0, .int .i64 0, .int .i64 0, .int .i64 0, .int .i64 0] [(0, 1, (.c (.int .i64 1106))), (1, 1, (.c (.int .i64 32))), (7, 1, (.t 43))], none⟩, ⟨some 45, .callr 106 [(.t 41), (.t 44), (.c (.int .i64 0))], none⟩]
def lc74 : LC := (.seq (.reg false c74_0) (.seq (.reg false c74_1) (.blk 0 (.seq (.reg false c74_2) (.cond (.t 8) (.reg true c74_3) (.seq (.seq (.reg false c74_4) (.cond (.t 20) .skip (.reg false c74_5))) (.cond (.t 20) (.reg false c74_6) (.seq (.seq (.reg false c74_7) (.cond (.t 26) .skip (.reg false c74_8))) (.cond (.t 26) (.reg false c74_9) (.seq (.reg false c74_10) (.cond (.t 33) (.seq (.reg false c74_11) (.cond (.t 37) (.reg false c74_12) (.reg false c74_13))) .skip)))))))))))
def lf74 : LFunc := ⟨3, [], false, lc74⟩
def hi74 : Hints := ⟨[(19, .r), (25, .r), (32, .r), (40, .r), (45, .r)], [none, none, none, none, none, none, none, none, none], []⟩
theorem lf74_ok : compF Try.prog hi74 false Try.f74 = some lf74 := by kernel_rfl

/-! additive/additivelaw40.usual -/
def c75_0 : List LOper := [⟨some 0, .alloc [.int .i64 0, .int .i64 0, .int .i64 0, .int .i64 0, .int .i64 0, .int .i64 0, .int .i64 0, .bool false, .int .i64 0, .int .i64 0, .int .i64 0, .int .i64 0, .int .i64 0, .int .i64 0, .int .i64 0, .int .i64 0, .int .i64 0, .int .i64 0, .int .i64 0, .int .i64 0], none⟩]
def c75_1 : List LOper := [⟨some 1, .build [.int .i64 0, .int .i64 0, .int .i64 0, .int .i64 0, .int .i64 0, .int .i64 0, .int .i64 0, .bool false, .int .i64 0, .int .i64 0, .int .i64 0, .int .i64 0, .int .i64 0, .int .i64 0, .int .i64 0, .int .i64 0, .int .i64 0, .int .i64 0, .int .i64 0, .int .i64 0] [(0, 1, (.c (.int .i64 40))), (1, 1, (.c (.int .i64 20))), (6, 1, (.c (.int .i64 2))), (12, 1, (.c (.int .i64 1000))), (13, 1, (.c (.int .i64 40))), (14, 1, (.c (.int .i64 80))), (15, 1, (.c (.int .i64 5))), (17, 1, (.c (.int .i64 1)))], none⟩, ⟨none, .store 20 (.t 0) (.t 1), none⟩]
def lc75 : LC := (.seq (.reg false c75_0) (.seq (.reg false c75_1) .ret))
def lf75 : LFunc := ⟨0, [.cell 0 true 20], true, lc75⟩
def hi75 : Hints := ⟨[], [none, none, none], []⟩
theorem lf75_ok : compF Try.prog hi75 true Try.f75 = some lf75 := by kernel_rfl

/-! additive/additiveref39.known -/
def c76_0 : List LOper := [⟨some 2, .mov (.c (.bool false)), none⟩]
def c76_1 : List LOper := [⟨some 5, .callp 108 [], none⟩, ⟨some 3, .mov (.t 5), none⟩]
def c76_2 : List LOper := [⟨some 4, .mov (.c (.int .i64 0)), none⟩]
def c76_3 : List LOper := [⟨some 6, .mov (.t 4), none⟩, ⟨some 7, .mov (.t 3), none⟩, ⟨some 8, .len (.t 7), none⟩, ⟨some 9, .ibin .lss (.t 6) (.t 8), none⟩]
def c76_4 : List LOper := [⟨some 12, .mov (.t 3), none⟩, ⟨some 13, .mov (.t 4), none⟩, ⟨some 14, .iaddr 1 (.t 12) (.t 13), none⟩, ⟨some 15, .load false 1 (.t 14), none⟩, ⟨some 16, .mov (.t 0), none⟩, ⟨some 17, .ibin .eql (.t 15) (.t 16), none⟩]
def c76_5 : List LOper := [⟨some 2, .mov (.c (.bool true)), none⟩]
def c76_6 : List LOper := [⟨some 10, .mov (.t 4), none⟩, ⟨some 11, .ibin .add (.t 10) (.c (.int .i64 1)), none⟩, ⟨some 4, .mov (.t 11), none⟩]
def c76_L0 : LC := (.seq (.seq (.reg false c76_3) (.cond (.t 9) .skip (.seq (.trim []) (.exit 0)))) (.seq (.blk 1 (.seq (.reg false c76_4) (.cond (.t 17) (.seq (.reg false c76_5) (.seq (.trim [2]) .ret)) .skip))) (.reg false c76_6)))
def c76_8 : List LOper := [⟨some 2, .mov (.c (.bool false)), none⟩]
def lc76 : LC := (.seq (.reg false c76_0) (.seq (.reg false c76_1) (.seq (.seq (.reg false c76_2) (.blk 0 (.loop [0, 3, 4] c76_L0))) (.seq (.reg false c76_8) .ret))))
def lf76 : LFunc := ⟨1, [.tmp 2], true, lc76⟩
def hi76 : Hints := ⟨[], [none, none, none, some [0, 3, 4], none, some [], none, none, none, some [2], none, none, none, none], []⟩
theorem lf76_ok : compF Try.prog hi76 true Try.f76 = some lf76 := by kernel_rfl

/-! additive/additiveref39.allowed -/
def c77_0 : List LOper := [⟨some 2, .mov (.c (.int .i64 0)), none⟩]
def c77_1 : List LOper := [⟨some 3, .mov (.t 0), none⟩]
def c77_2 : List LOper := [⟨some 5, .ibin .eql (.t 3) (.c (.int .i64 0)), none⟩, ⟨some 4, .mov (.t 5), none⟩]
def c77_3 : List LOper := [⟨some 2, .mov (.c (.int .i64 23)), none⟩]
def c77_4 : List LOper := [⟨some 7, .ibin .eql (.t 3) (.c (.int .i64 1)), none⟩, ⟨some 6, .mov (.t 7), none⟩]
def c77_5 : List LOper := [⟨some 2, .mov (.c (.int .i64 31)), none⟩]
def c77_6 : List LOper := [⟨some 9, .ibin .eql (.t 3) (.c (.int .i64 4)), none⟩, ⟨some 8, .mov (.t 9), none⟩]
def c77_7 : List LOper := [⟨some 10, .ibin .eql (.t 3) (.c (.int .i64 1104)), none⟩, ⟨some 8, .mov (.t 10), none⟩]
def c77_8 : List LOper := [⟨some 11, .ibin .eql (.t 3) (.c (.int .i64 1109)), none⟩, ⟨some 8, .mov (.t 11), none⟩]
def c77_9 : List LOper := [⟨some 12, .ibin .eql (.t 3) (.c (.int .i64 1140)), none⟩, ⟨some 8, .mov (.t 12), none⟩]
def c77_10 : List LOper := [⟨some 13, .ibin .eql (.t 3) (.c (.int .i64 1190)), none⟩, ⟨some 8, .mov (.t 13), none⟩]
def c77_11 : List LOper := [⟨some 14, .ibin .eql (.t 3) (.c (.int .i64 1106)), none⟩, ⟨some 8, .mov (.t 14), none⟩]
def c77_12 : List LOper := [⟨some 2, .mov (.c (.int .i64 32)), none⟩]
def c77_13 : List LOper := [⟨some 2, .mov (.c (.int .i64 0)), none⟩]
def lc77 : LC := (.seq (.reg false c77_0) (.seq (.seq (.reg false c77_1) (.blk 0 (.seq (.reg false c77_2) (.cond (.t 4) (.seq (.reg false c77_3) .ret) (.seq (.reg false c77_4) (.cond (.t 6) (.seq (.reg false c77_5) .ret) (.seq (.seq (.reg false c77_6) (.cond (.t 8) .skip (.seq (.reg false c77_7) (.cond (.t 8) .skip (.seq (.reg false c77_8) (.cond (.t 8) .skip (.seq (.reg false c77_9) (.cond (.t 8) .skip (.seq (.reg false c77_10) (.cond (.t 8) .skip (.reg false c77_11))))))))))) (.cond (.t 8) (.seq (.reg false c77_12) .ret) .skip)))))))) (.seq (.reg false c77_13) .ret)))
def lf77 : LFunc := ⟨1, [.tmp 2], true, lc77⟩
def hi77 : Hints := ⟨[], [none, none, none, none, none, none, none, none, none, none, none, none, none, none, none, none, none, none, none], []⟩
theorem lf77_ok : compF Try.prog hi77 true Try.f77 = some lf77 := by kernel_rfl

/-! additive/additiveref39.complete -/
def c78_0 : List LOper := [⟨some 4, .mov (.c (.bool false)), none⟩]
def c78_1 : List LOper := [⟨some 5, .mov (.t 0), none⟩, ⟨some 6, .callp 77 [(.t 5)], none⟩, ⟨some 7, .ibin .neq (.t 6) (.c (.int .i64 32)), none⟩, ⟨some 8, .mov (.t 7), none⟩, ⟨some 9, .mov (.t 1), some (8, false)⟩, ⟨some 10, .ibin .eql (.t 9) (.c (.int .i64 32)), some (8, false)⟩, ⟨some 11, .pick (.t 8) (.c (.bool true)) (.t 10), none⟩, ⟨some 4, .mov (.t 11), none⟩]
def lc78 : LC := (.seq (.reg false c78_0) (.seq (.reg false c78_1) .ret))
def lf78 : LFunc := ⟨2, [.tmp 4], true, lc78⟩
def hi78 : Hints := ⟨[], [none, none, none], []⟩
theorem lf78_ok : compF Try.prog hi78 true Try.f78 = some lf78 := by kernel_rfl

/-! additive/additiveref39.fields -/
def c79_0 : List LOper := [⟨some 1, .box (.t 0), none⟩, ⟨some 2, .mov (.c (.nils)), none⟩]
def c79_1 : List LOper := [⟨some 3, .faddr 2 (.t 1), none⟩, ⟨some 4, .load false 1 (.t 3), none⟩, ⟨some 5, .faddr 3 (.t 1), none⟩, ⟨some 6, .load false 1 (.t 5), none⟩, ⟨some 7, .faddr 4 (.t 1), none⟩, ⟨some 8, .load false 1 (.t 7), none⟩, ⟨some 9, .faddr 5 (.t 1), none⟩, ⟨some 10, .load false 1 (.t 9), none⟩, ⟨some 11, .faddr 6 (.t 1), none⟩, ⟨some 12, .load false 1 (.t 11), none⟩, ⟨some 13, .faddr 7 (.t 1), none⟩, ⟨some 14, .load false 1 (.t 13), none⟩, ⟨some 15, .bslice 6 1 3 [.int .i64 0] [(0, 1, (.t 4)), (1, 1, (.t 6)), (2, 1, (.t 8)), (3, 1, (.t 10)), (4, 1, (.t 12)), (5, 1, (.t 14))], none⟩, ⟨some 2, .mov (.t 15), none⟩]
def lc79 : LC := (.seq (.reg false c79_0) (.seq (.reg false c79_1) .ret))
def lf79 : LFunc := ⟨1, [.tmp 2], true, lc79⟩
def hi79 : Hints := ⟨[], [none, none, none], []⟩
theorem lf79_ok : compF Try.prog hi79 true Try.f79 = some lf79 := by kernel_rfl

/-! additive/additiveref39.ranged -/
def c80_0 : List LOper := [⟨some 6, .mov (.c (.bool false)), none⟩]
def c80_1 : List LOper := [⟨some 8, .mov (.t 1), none⟩, ⟨some 9, .ibin .lss (.t 8) (.c (.int .i64 4)), none⟩, ⟨some 7, .mov (.t 9), none⟩]
def c80_2 : List LOper := [⟨some 10, .mov (.t 2), none⟩, ⟨some 11, .ibin .geq (.t 10) (.c (.int .i64 (-1073741824))), none⟩, ⟨some 12, .mov (.t 11), none⟩, ⟨some 13, .mov (.t 2), some (12, true)⟩, ⟨some 14, .ibin .leq (.t 13) (.c (.int .i64 1073741824)), some (12, true)⟩, ⟨some 15, .pick (.t 12) (.t 14) (.c (.bool false)), none⟩, ⟨some 6, .mov (.t 15), none⟩]
def c80_3 : List LOper := [⟨some 17, .mov (.t 1), none⟩, ⟨some 18, .ibin .eql (.t 17) (.c (.int .i64 4)), none⟩, ⟨some 16, .mov (.t 18), none⟩]
def c80_4 : List LOper := [⟨some 19, .mov (.t 2), none⟩, ⟨some 20, .ibin .geq (.t 19) (.c (.int .i64 1)), none⟩, ⟨some 21, .mov (.t 20), none⟩, ⟨some 22, .mov (.t 2), some (21, true)⟩, ⟨some 23, .ibin .leq (.t 22) (.c (.int .i64 1048576)), some (21, true)⟩, ⟨some 24, .pick (.t 21) (.t 23) (.c (.bool false)), none⟩, ⟨some 6, .mov (.t 24), none⟩]
def c80_5 : List LOper := [⟨some 26, .mov (.t 0), none⟩, ⟨some 27, .ibin .eql (.t 26) (.c (.int .i64 4)), none⟩, ⟨some 25, .mov (.t 27), none⟩]
def c80_6 : List LOper := [⟨some 28, .mov (.t 2), none⟩, ⟨some 29, .ibin .geq (.t 28) (.c (.int .i64 0)), none⟩, ⟨some 30, .mov (.t 29), none⟩, ⟨some 31, .mov (.t 2), some (30, true)⟩, ⟨some 32, .ibin .leq (.t 31) (.c (.int .i64 1048576)), some (30, true)⟩, ⟨some 33, .pick (.t 30) (.t 32) (.c (.bool false)), none⟩, ⟨some 6, .mov (.t 33), none⟩]
def c80_7 : List LOper := [⟨some 35, .mov (.t 0), none⟩, ⟨some 36, .ibin .eql (.t 35) (.c (.int .i64 1106)), none⟩, ⟨some 34, .mov (.t 36), none⟩]
def c80_8 : List LOper := [⟨some 37, .mov (.t 2), none⟩, ⟨some 38, .ibin .geq (.t 37) (.c (.int .i64 0)), none⟩, ⟨some 39, .mov (.t 38), none⟩, ⟨some 40, .mov (.t 2), some (39, true)⟩, ⟨some 41, .ibin .leq (.t 40) (.c (.int .i64 255)), some (39, true)⟩, ⟨some 42, .pick (.t 39) (.t 41) (.c (.bool false)), none⟩, ⟨some 6, .mov (.t 42), none⟩]
def c80_9 : List LOper := [⟨some 43, .mov (.t 2), none⟩, ⟨some 44, .ibin .geq (.t 43) (.c (.int .i64 0)), none⟩, ⟨some 45, .mov (.t 44), none⟩, ⟨some 46, .mov (.t 2), some (45, true)⟩, ⟨some 47, .ibin .leq (.t 46) (.c (.int .i64 400000)), some (45, true)⟩, ⟨some 48, .pick (.t 45) (.t 47) (.c (.bool false)), none⟩, ⟨some 6, .mov (.t 48), none⟩]
def lc80 : LC := (.seq (.reg false c80_0) (.seq (.blk 0 (.seq (.reg false c80_1) (.cond (.t 7) (.seq (.reg false c80_2) .ret) (.seq (.reg false c80_3) (.cond (.t 16) (.seq (.reg false c80_4) .ret) (.seq (.reg false c80_5) (.cond (.t 25) (.seq (.reg false c80_6) .ret) (.seq (.reg false c80_7) (.cond (.t 34) (.seq (.reg false c80_8) .ret) .skip))))))))) (.seq (.reg false c80_9) .ret)))
def lf80 : LFunc := ⟨3, [.tmp 6], true, lc80⟩
def hi80 : Hints := ⟨[], [none, none, none, none, none, none, none, none, none, none, none, none, none, none, none, none], []⟩
theorem lf80_ok : compF Try.prog hi80 true Try.f80 = some lf80 := by kernel_rfl

/-! additive/additiveref35.Valid -/
def c81_0 : List LOper := [⟨some 1, .box (.t 0), none⟩, ⟨some 2, .mov (.c (.bool false)), none⟩]
def c81_1 : List LOper := [⟨some 3, .faddr 0 (.t 1), none⟩, ⟨some 4, .load false 1 (.t 3), none⟩, ⟨some 5, .callp 109 [(.t 4), (.c (.int .i64 32)), (.c (.int .i64 1024))], none⟩, ⟨some 6, .un .not (.t 5), none⟩, ⟨some 7, .mov (.t 6), none⟩, ⟨some 8, .faddr 0 (.t 1), some (7, false)⟩, ⟨some 9, .load false 1 (.t 8), some (7, false)⟩, ⟨some 10, .ibin .rem (.t 9) (.c (.int .i64 2)), some (7, false)⟩, ⟨some 11, .ibin .neq (.t 10) (.c (.int .i64 0)), some (7, false)⟩, ⟨some 12, .pick (.t 7) (.c (.bool true)) (.t 11), none⟩, ⟨some 13, .mov (.t 12), none⟩, ⟨some 14, .faddr 1 (.t 1), some (13, false)⟩, ⟨some 15, .load false 1 (.t 14), some (13, false)⟩, ⟨some 16, .callp 109 [(.t 15), (.c (.int .i64 4)), (.c (.int .i64 1024))], some (13, false)⟩, ⟨some 17, .un .not (.t 16), some (13, false)⟩, ⟨some 18, .pick (.t 13) (.c (.bool true)) (.t 17), none⟩, ⟨some 19, .mov (.t 18), none⟩, ⟨some 20, .faddr 1 (.t 1), some (19, false)⟩, ⟨some 21, .load false 1 (.t 20), some (19, false)⟩, ⟨some 22, .ibin .rem (.t 21) (.c (.int .i64 2)), some (19, false)⟩, ⟨some 23, .ibin .neq (.t 22) (.c (.int .i64 0)), some (19, false)⟩, ⟨some 24, .pick (.t 19) (.c (.bool true)) (.t 23), none⟩]
def c81_2 : List LOper := [⟨some 2, .mov (.c (.bool false)), none⟩]
def c81_3 : List LOper := [⟨some 25, .faddr 2 (.t 1), none⟩, ⟨some 26, .load false 1 (.t 25), none⟩, ⟨some 27, .callp 109 [(.t 26), (.c (.int .i64 0)), (.c (.int .i64 8))], none⟩, ⟨some 28, .un .not (.t 27), none⟩, ⟨some 29, .mov (.t 28), none⟩, ⟨some 30, .faddr 3 (.t 1), some (29, false)⟩, ⟨some 31, .load false 1 (.t 30), some (29, false)⟩, ⟨some 32, .callp 109 [(.t 31), (.c (.int .i64 0)), (.c (.int .i64 16))], some (29, false)⟩, ⟨some 33, .un .not (.t 32), some (29, false)⟩, ⟨some 34, .pick (.t 29) (.c (.bool true)) (.t 33), none⟩, ⟨some 35, .mov (.t 34), none⟩, ⟨some 36, .faddr 4 (.t 1), some (35, false)⟩, ⟨some 37, .load false 1 (.t 36), some (35, false)⟩, ⟨some 38, .callp 109 [(.t 37), (.c (.int .i64 0)), (.c (.int .i64 16))], some (35, false)⟩, ⟨some 39, .un .not (.t 38), some (35, false)⟩, ⟨some 40, .pick (.t 35) (.c (.bool true)) (.t 39), none⟩, ⟨some 41, .mov (.t 40), none⟩, ⟨some 42, .faddr 5 (.t 1), some (41, false)⟩, ⟨some 43, .load false 1 (.t 42), some (41, false)⟩, ⟨some 44, .callp 109 [(.t 43), (.c (.int .i64 0)), (.c (.int .i64 3))], some (41, false)⟩, ⟨some 45, .un .not (.t 44), some (41, false)⟩, ⟨some 46, .pick (.t 41) (.c (.bool true)) (.t 45), none⟩, ⟨some 47, .mov (.t 46), none⟩, ⟨some 48, .faddr 6 (.t 1), some (47, false)⟩, ⟨some 49, .load false 1 (.t 48), some (47, false)⟩, ⟨some 50, .callp 109 [(.t 49), (.c (.int .i64 1)), (.c (.int .i64 64))], some (47, false)⟩, ⟨some 51, .un .not (.t 50), some (47, false)⟩, ⟨some 52, .pick (.t 47) (.c (.bool true)) (.t 51), none⟩]
def c81_4 : List LOper := [⟨some 2, .mov (.c (.bool false)), none⟩]
def c81_5 : List LOper := [⟨some 53, .faddr 8 (.t 1), none⟩, ⟨some 54, .load false 1 (.t 53), none⟩, ⟨some 55, .callp 109 [(.t 54), (.c (.int .i64 0)), (.c (.int .i64 64))], none⟩, ⟨some 56, .un .not (.t 55), none⟩, ⟨some 57, .mov (.t 56), none⟩, ⟨some 58, .faddr 9 (.t 1), some (57, false)⟩, ⟨some 59, .load false 1 (.t 58), some (57, false)⟩, ⟨some 60, .callp 109 [(.t 59), (.c (.int .i64 0)), (.c (.int .i64 64))], some (57, false)⟩, ⟨some 61, .un .not (.t 60), some (57, false)⟩, ⟨some 62, .pick (.t 57) (.c (.bool true)) (.t 61), none⟩, ⟨some 63, .mov (.t 62), none⟩, ⟨some 64, .faddr 10 (.t 1), some (63, false)⟩, ⟨some 65, .load false 1 (.t 64), some (63, false)⟩, ⟨some 66, .callp 109 [(.t 65), (.c (.int .i64 0)), (.c (.int .i64 64))], some (63, false)⟩, ⟨some 67, .un .not (.t 66), some (63, false)⟩, ⟨some 68, .pick (.t 63) (.c (.bool true)) (.t 67), none⟩, ⟨some 69, .mov (.t 68), none⟩, ⟨some 70, .faddr 11 (.t 1), some (69, false)⟩, ⟨some 71, .load false 1 (.t 70), some (69, false)⟩, ⟨some 72, .callp 109 [(.t 71), (.c (.int .i64 0)), (.c (.int .i64 63))], some (69, false)⟩, ⟨some 73, .un .not (.t 72), some (69, false)⟩, ⟨some 74, .pick (.t 69) (.c (.bool true)) (.t 73), none⟩]
def c81_6 : List LOper := [⟨some 2, .mov (.c (.bool false)), none⟩]
def c81_7 : List LOper := [⟨some 75, .faddr 12 (.t 1), none⟩, ⟨some 76, .load false 1 (.t 75), none⟩, ⟨some 77, .callp 109 [(.t 76), (.c (.int .i64 1)), (.c (.int .i64 1073741824))], none⟩, ⟨some 78, .un .not (.t 77), none⟩, ⟨some 79, .mov (.t 78), none⟩, ⟨some 80, .faddr 13 (.t 1), some (79, false)⟩, ⟨some 81, .load false 1 (.t 80), some (79, false)⟩, ⟨some 82, .callp 109 [(.t 81), (.c (.int .i64 1)), (.c (.int .i64 1048576))], some (79, false)⟩, ⟨some 83, .un .not (.t 82), some (79, false)⟩, ⟨some 84, .pick (.t 79) (.c (.bool true)) (.t 83), none⟩, ⟨some 85, .mov (.t 84), none⟩, ⟨some 86, .faddr 14 (.t 1), some (85, false)⟩, ⟨some 87, .load false 1 (.t 86), some (85, false)⟩, ⟨some 88, .callp 109 [(.t 87), (.c (.int .i64 1)), (.c (.int .i64 1048576))], some (85, false)⟩, ⟨some 89, .un .not (.t 88), some (85, false)⟩, ⟨some 90, .pick (.t 85) (.c (.bool true)) (.t 89), none⟩, ⟨some 91, .mov (.t 90), none⟩, ⟨some 92, .faddr 15 (.t 1), some (91, false)⟩, ⟨some 93, .load false 1 (.t 92), some (91, false)⟩, ⟨some 94, .callp 109 [(.t 93), (.c (.int .i64 0)), (.c (.int .i64 65536))], some (91, false)⟩, ⟨some 95, .un .not (.t 94), some (91, false)⟩, ⟨some 96, .pick (.t 91) (.c (.bool true)) (.t 95), none⟩]
def c81_8 : List LOper := [⟨some 2, .mov (.c (.bool false)), none⟩]
def c81_9 : List LOper := [⟨some 97, .faddr 16 (.t 1), none⟩, ⟨some 98, .load false 1 (.t 97), none⟩, ⟨some 99, .callp 109 [(.t 98), (.c (.int .i64 0)), (.c (.int .i64 1048576))], none⟩, ⟨some 100, .mov (.t 99), none⟩, ⟨some 101, .faddr 17 (.t 1), some (100, true)⟩, ⟨some 102, .load false 1 (.t 101), some (100, true)⟩, ⟨some 103, .faddr 13 (.t 1), some (100, true)⟩, ⟨some 104, .load false 1 (.t 103), some (100, true)⟩, ⟨some 105, .callp 109 [(.t 102), (.c (.int .i64 1)), (.t 104)], some (100, true)⟩, ⟨some 106, .pick (.t 100) (.t 105) (.c (.bool false)), none⟩, ⟨some 107, .mov (.t 106), none⟩, ⟨some 108, .faddr 18 (.t 1), some (107, true)⟩, ⟨some 109, .load false 1 (.t 108), some (107, true)⟩, ⟨some 110, .callp 109 [(.t 109), (.c (.int .i64 0)), (.c (.int .i64 400000))], some (107, true)⟩, ⟨some 111, .pick (.t 107) (.t 110) (.c (.bool false)), none⟩, ⟨some 112, .mov (.t 111), none⟩, ⟨some 113, .faddr 19 (.t 1), some (112, true)⟩, ⟨some 114, .load false 1 (.t 113), some (112, true)⟩, ⟨some 115, .callp 109 [(.t 114), (.c (.int .i64 0)), (.c (.int .i64 400000))], some (112, true)⟩, ⟨some 116, .pick (.t 112) (.t 115) (.c (.bool false)), none⟩, ⟨some 2, .mov (.t 116), none⟩]
def lc81 : LC := (.seq (.reg false c81_0) (.seq (.seq (.reg false c81_1) (.cond (.t 24) (.seq (.reg false c81_2) .ret) .skip)) (.seq (.seq (.reg false c81_3) (.cond (.t 52) (.seq (.reg false c81_4) .ret) .skip)) (.seq (.seq (.reg false c81_5) (.cond (.t 74) (.seq (.reg false c81_6) .ret) .skip)) (.seq (.seq (.reg false c81_7) (.cond (.t 96) (.seq (.reg false c81_8) .ret) .skip)) (.seq (.reg false c81_9) .ret))))))
def lf81 : LFunc := ⟨1, [.tmp 2], true, lc81⟩
def hi81 : Hints := ⟨[], [none, none, none, none, none, none, none, none, none, none, none, none, none, none, none, none, none, none, none], []⟩
theorem lf81_ok : compF Try.prog hi81 true Try.f81 = some lf81 := by kernel_rfl

/-! additive/additiveref35.Volume -/
def c82_0 : List LOper := [⟨some 3, .box (.t 1), none⟩, ⟨some 4, .mov (.c (.int .i64 0)), none⟩]
def c82_1 : List LOper := [⟨some 5, .load true 20 (.t 3), none⟩, ⟨some 6, .callp 81 [(.t 5)], none⟩, ⟨some 7, .un .not (.t 6), none⟩, ⟨some 8, .mov (.t 7), none⟩, ⟨some 9, .mov (.t 0), some (8, false)⟩, ⟨some 10, .callp 109 [(.t 9), (.c (.int .i64 0)), (.c (.int .i64 1048576))], some (8, false)⟩, ⟨some 11, .un .not (.t 10), some (8, false)⟩, ⟨some 12, .pick (.t 8) (.c (.bool true)) (.t 11), none⟩]
def c82_2 : List LOper := [⟨some 4, .mov (.c (.int .i64 0)), none⟩]
def c82_3 : List LOper := [⟨some 13, .mov (.t 0), none⟩, ⟨some 14, .faddr 0 (.t 3), none⟩, ⟨some 15, .load false 1 (.t 14), none⟩, ⟨some 16, .ibin .mul (.t 13) (.t 15), none⟩, ⟨some 17, .faddr 0 (.t 3), none⟩, ⟨some 18, .load false 1 (.t 17), none⟩, ⟨some 19, .ibin .mul (.t 16) (.t 18), none⟩, ⟨some 20, .faddr 1 (.t 3), none⟩, ⟨some 21, .load false 1 (.t 20), none⟩, ⟨some 22, .ibin .mul (.t 19) (.t 21), none⟩, ⟨some 4, .mov (.t 22), none⟩]
def lc82 : LC := (.seq (.reg false c82_0) (.seq (.seq (.reg false c82_1) (.cond (.t 12) (.seq (.reg false c82_2) .ret) .skip)) (.seq (.reg false c82_3) .ret)))
def lf82 : LFunc := ⟨2, [.tmp 4], true, lc82⟩
def hi82 : Hints := ⟨[], [none, none, none, none, none, none, none], []⟩
theorem lf82_ok : compF Try.prog hi82 true Try.f82 = some lf82 := by kernel_rfl

/-! additive/additivelaw40.near -/
def c83_0 : List LOper := [⟨some 2, .box (.t 0), none⟩, ⟨some 3, .box (.t 1), none⟩, ⟨some 4, .mov (.c (.bool false)), none⟩]
def c83_1 : List LOper := [⟨some 7, .faddr 0 (.t 2), none⟩, ⟨some 8, .load false 1 (.t 7), none⟩, ⟨some 9, .faddr 0 (.t 3), none⟩, ⟨some 10, .load false 1 (.t 9), none⟩, ⟨some 11, .ibin .sub (.t 8) (.t 10), none⟩, ⟨some 5, .mov (.t 11), none⟩]
def c83_2 : List LOper := [⟨some 12, .faddr 1 (.t 2), none⟩, ⟨some 13, .load false 1 (.t 12), none⟩, ⟨some 14, .faddr 1 (.t 3), none⟩, ⟨some 15, .load false 1 (.t 14), none⟩, ⟨some 16, .ibin .sub (.t 13) (.t 15), none⟩, ⟨some 6, .mov (.t 16), none⟩]
def c83_3 : List LOper := [⟨some 17, .mov (.t 5), none⟩, ⟨some 18, .ibin .geq (.t 17) (.c (.int .i64 (-1))), none⟩, ⟨some 19, .mov (.t 18), none⟩, ⟨some 20, .mov (.t 5), some (19, true)⟩, ⟨some 21, .ibin .leq (.t 20) (.c (.int .i64 1)), some (19, true)⟩, ⟨some 22, .pick (.t 19) (.t 21) (.c (.bool false)), none⟩, ⟨some 23, .mov (.t 22), none⟩, ⟨some 24, .mov (.t 6), some (23, true)⟩, ⟨some 25, .ibin .geq (.t 24) (.c (.int .i64 (-1))), some (23, true)⟩, ⟨some 26, .pick (.t 23) (.t 25) (.c (.bool false)), none⟩, ⟨some 27, .mov (.t 26), none⟩, ⟨some 28, .mov (.t 6), some (27, true)⟩, ⟨some 29, .ibin .leq (.t 28) (.c (.int .i64 1)), some (27, true)⟩, ⟨some 30, .pick (.t 27) (.t 29) (.c (.bool false)), none⟩, ⟨some 31, .mov (.t 30), none⟩, ⟨some 32, .mov (.t 5), some (31, true)⟩, ⟨some 33, .mov (.t 5), some (31, true)⟩, ⟨some 34, .ibin .mul (.t 32) (.t 33), some (31, true)⟩, ⟨some 35, .mov (.t 6), some (31, true)⟩, ⟨some 36, .mov (.t 6), some (31, true)⟩, ⟨some 37, .ibin .mul (.t 35) (.t 36), some (31, true)⟩, ⟨some 38, .ibin .add (.t 34) (.t 37), some (31, true)⟩, ⟨some 39, .ibin .eql (.t 38) (.c (.int .i64 1)), some (31, true)⟩, ⟨some 40, .pick (.t 31) (.t 39) (.c (.bool false)), none⟩, ⟨some 4, .mov (.t 40), none⟩]
def lc83 : LC := (.seq (.reg false c83_0) (.seq (.reg false c83_1) (.seq (.reg false c83_2) (.seq (.reg false c83_3) .ret))))
def lf83 : LFunc := ⟨2, [.tmp 4], true, lc83⟩
def hi83 : Hints := ⟨[], [none, none, none, none, none], []⟩
theorem lf83_ok : compF Try.prog hi83 true Try.f83 = some lf83 := by kernel_rfl

/-! additive/emit.onGrid -/
def c84_0 : List LOper := [⟨some 1, .box (.t 0), none⟩, ⟨some 2, .mov (.c (.bool false)), none⟩]
def c84_1 : List LOper := [⟨some 3, .faddr 0 (.t 1), none⟩, ⟨some 4, .load false 1 (.t 3), none⟩, ⟨some 5, .ibin .geq (.t 4) (.c (.int .i64 (-4096))), none⟩, ⟨some 6, .mov (.t 5), none⟩, ⟨some 7, .faddr 0 (.t 1), some (6, true)⟩, ⟨some 8, .load false 1 (.t 7), some (6, true)⟩, ⟨some 9, .ibin .lss (.t 8) (.c (.int .i64 4096)), some (6, true)⟩, ⟨some 10, .pick (.t 6) (.t 9) (.c (.bool false)), none⟩, ⟨some 11, .mov (.t 10), none⟩, ⟨some 12, .faddr 1 (.t 1), some (11, true)⟩, ⟨some 13, .load false 1 (.t 12), some (11, true)⟩, ⟨some 14, .ibin .geq (.t 13) (.c (.int .i64 (-4096))), some (11, true)⟩, ⟨some 15, .pick (.t 11) (.t 14) (.c (.bool false)), none⟩, ⟨some 16, .mov (.t 15), none⟩, ⟨some 17, .faddr 1 (.t 1), some (16, true)⟩, ⟨some 18, .load false 1 (.t 17), some (16, true)⟩, ⟨some 19, .ibin .lss (.t 18) (.c (.int .i64 4096)), some (16, true)⟩, ⟨some 20, .pick (.t 16) (.t 19) (.c (.bool false)), none⟩, ⟨some 2, .mov (.t 20), none⟩]
def lc84 : LC := (.seq (.reg false c84_0) (.seq (.reg false c84_1) .ret))
def lf84 : LFunc := ⟨1, [.tmp 2], true, lc84⟩
def hi84 : Hints := ⟨[], [none, none, none], []⟩
theorem lf84_ok : compF Try.prog hi84 true Try.f84 = some lf84 := by kernel_rfl

/-! additive/emit.turns -/
def c85_0 : List LOper := [⟨some 3, .box (.t 1), none⟩, ⟨some 4, .mov (.c (.nils)), none⟩]
def c85_1 : List LOper := [⟨some 5, .mov (.c (.nils)), none⟩]
def c85_2 : List LOper := [⟨some 8, .mov (.t 0), none⟩, ⟨some 9, .len (.t 8), none⟩, ⟨some 10, .mov (.c (.int .i64 0)), none⟩]
def c85_3 : List LOper := [⟨some 11, .ibin .lss (.t 10) (.t 9), none⟩]
def c85_4 : List LOper := [⟨some 12, .mov (.t 10), none⟩, ⟨some 13, .iaddr 2 (.t 8) (.t 10), none⟩, ⟨some 14, .load true 2 (.t 13), none⟩, ⟨some 7, .alloc [.int .i64 0, .int .i64 0], none⟩, ⟨some 6, .mov (.t 12), none⟩, ⟨none, .store 2 (.t 7) (.t 14), none⟩]
def c85_5 : List LOper := [⟨some 15, .mov (.t 6), none⟩, ⟨some 16, .mov (.t 0), none⟩, ⟨some 17, .len (.t 16), none⟩, ⟨some 18, .ibin .sub (.t 17) (.c (.int .i64 1)), none⟩, ⟨some 19, .ibin .eql (.t 15) (.t 18), none⟩, ⟨some 20, .mov (.t 19), none⟩, ⟨some 21, .load true 2 (.t 3), some (20, false)⟩, ⟨some 22, .load true 2 (.t 7), some (20, false)⟩, ⟨some 23, .callp 110 [(.t 21), (.t 22)], some (20, false)⟩, ⟨some 24, .load true 2 (.t 7), some (20, false)⟩, ⟨some 25, .mov (.t 0), some (20, false)⟩, ⟨some 26, .mov (.t 6), some (20, false)⟩, ⟨some 27, .ibin .add (.t 26) (.c (.int .i64 1)), some (20, false)⟩, ⟨some 28, .iaddr 2 (.t 25) (.t 27), some (20, false)⟩, ⟨some 29, .load true 2 (.t 28), some (20, false)⟩, ⟨some 30, .callp 110 [(.t 24), (.t 29)], some (20, false)⟩, ⟨some 31, .eqv true true [false, false] (.t 23) (.t 30), some (20, false)⟩, ⟨some 32, .pick (.t 20) (.c (.bool true)) (.t 31), none⟩]
def c85_6 : List LOper := [⟨some 33, .mov (.t 5), none⟩, ⟨some 34, .mov (.t 6), none⟩, ⟨some 35, .bslice 1 1 3 [.int .i64 0] [(0, 1, (.t 34))], none⟩, ⟨some 36, .app 1 8 3 [.int .i64 0] (.t 33) (.t 35), none⟩, ⟨some 5, .mov (.t 36), none⟩]
def c85_7 : List LOper := [⟨some 37, .load true 2 (.t 7), none⟩, ⟨none, .store 2 (.t 3) (.t 37), none⟩]
def c85_8 : List LOper := [⟨some 38, .ibin .add (.t 10) (.c (.int .i64 1)), none⟩, ⟨some 10, .mov (.t 38), none⟩]
def c85_L0 : LC := (.seq (.reg false c85_3) (.seq (.cond (.t 11) .skip (.seq (.trim [5]) (.exit 0))) (.seq (.blk 1 (.seq (.reg false c85_4) (.seq (.seq (.reg true c85_5) (.cond (.t 32) (.reg false c85_6) .skip)) (.reg false c85_7)))) (.reg false c85_8))))
def c85_10 : List LOper := [⟨some 39, .mov (.t 5), none⟩, ⟨some 4, .mov (.t 39), none⟩]
def lc85 : LC := (.seq (.reg false c85_0) (.seq (.reg false c85_1) (.seq (.seq (.reg false c85_2) (.blk 0 (.loop [0, 3, 5, 8, 9, 10] c85_L0))) (.seq (.reg false c85_10) .ret))))
def lf85 : LFunc := ⟨2, [.tmp 4], true, lc85⟩
def hi85 : Hints := ⟨[], [none, none, none, some [0, 3, 5, 8, 9, 10], none, some [5], none, none, none, none, none, none, none, none], []⟩
theorem lf85_ok : compF Try.prog hi85 true Try.f85 = some lf85 := by kernel_rfl

/-! additive/additiveref40.corners -/
def c86_0 : List LOper := [⟨some 3, .box (.t 1), none⟩, ⟨some 4, .mov (.c (.nils)), none⟩]
def c86_1 : List LOper := [⟨some 5, .mov (.c (.nils)), none⟩]
def c86_2 : List LOper := [⟨some 8, .load true 2 (.t 3), none⟩, ⟨some 6, .alloc [.int .i64 0, .int .i64 0], none⟩, ⟨none, .store 2 (.t 6) (.t 8), none⟩]
def c86_3 : List LOper := [⟨some 7, .mov (.c (.int .i64 0)), none⟩]
def c86_4 : List LOper := [⟨some 9, .mov (.t 7), none⟩, ⟨some 10, .mov (.t 0), none⟩, ⟨some 11, .len (.t 10), none⟩, ⟨some 12, .ibin .lss (.t 9) (.t 11), none⟩]
def c86_5 : List LOper := [⟨some 15, .mov (.t 7), none⟩, ⟨some 16, .mov (.t 0), none⟩, ⟨some 17, .len (.t 16), none⟩, ⟨some 18, .ibin .sub (.t 17) (.c (.int .i64 1)), none⟩, ⟨some 19, .ibin .eql (.t 15) (.t 18), none⟩, ⟨some 20, .mov (.t 19), none⟩, ⟨some 21, .load true 2 (.t 6), some (20, false)⟩, ⟨some 22, .mov (.t 0), some (20, false)⟩, ⟨some 23, .mov (.t 7), some (20, false)⟩, ⟨some 24, .iaddr 2 (.t 22) (.t 23), some (20, false)⟩, ⟨some 25, .load true 2 (.t 24), some (20, false)⟩, ⟨some 26, .mov (.t 0), some (20, false)⟩, ⟨some 27, .mov (.t 7), some (20, false)⟩, ⟨some 28, .ibin .add (.t 27) (.c (.int .i64 1)), some (20, false)⟩, ⟨some 29, .iaddr 2 (.t 26) (.t 28), some (20, false)⟩, ⟨some 30, .load true 2 (.t 29), some (20, false)⟩, ⟨some 31, .callp 111 [(.t 21), (.t 25), (.t 30)], some (20, false)⟩, ⟨some 32, .pick (.t 20) (.c (.bool true)) (.t 31), none⟩]
def c86_6 : List LOper := [⟨some 33, .mov (.t 5), none⟩, ⟨some 34, .mov (.t 7), none⟩, ⟨some 35, .bslice 1 1 3 [.int .i64 0] [(0, 1, (.t 34))], none⟩, ⟨some 36, .app 1 8 3 [.int .i64 0] (.t 33) (.t 35), none⟩, ⟨some 5, .mov (.t 36), none⟩]
def c86_7 : List LOper := [⟨some 37, .mov (.t 0), none⟩, ⟨some 38, .mov (.t 7), none⟩, ⟨some 39, .iaddr 2 (.t 37) (.t 38), none⟩, ⟨some 40, .load true 2 (.t 39), none⟩, ⟨none, .store 2 (.t 6) (.t 40), none⟩]
def c86_8 : List LOper := [⟨some 13, .mov (.t 7), none⟩, ⟨some 14, .ibin .add (.t 13) (.c (.int .i64 1)), none⟩, ⟨some 7, .mov (.t 14), none⟩]
def c86_L0 : LC := (.seq (.seq (.reg false c86_4) (.cond (.t 12) .skip (.seq (.trim [5]) (.exit 0)))) (.seq (.blk 1 (.seq (.seq (.reg true c86_5) (.cond (.t 32) (.reg false c86_6) .skip)) (.reg false c86_7))) (.reg false c86_8)))
def c86_10 : List LOper := [⟨some 41, .mov (.t 5), none⟩, ⟨some 4, .mov (.t 41), none⟩]
def lc86 : LC := (.seq (.reg false c86_0) (.seq (.reg false c86_1) (.seq (.reg false c86_2) (.seq (.seq (.reg false c86_3) (.blk 0 (.loop [0, 5, 6, 7] c86_L0))) (.seq (.reg false c86_10) .ret)))))
def lf86 : LFunc := ⟨2, [.tmp 4], true, lc86⟩
def hi86 : Hints := ⟨[], [none, none, none, none, some [0, 5, 6, 7], none, some [5], none, none, none, none, none, none, none], []⟩
theorem lf86_ok : compF Try.prog hi86 true Try.f86 = some lf86 := by kernel_rfl

/-! additive/flow.Valid -/
def c97_0 : List LOper := [⟨some 1, .box (.t 0), none⟩, ⟨some 2, .mov (.c (.bool false)), none⟩]
def c97_1 : List LOper := [⟨some 3, .load true 20 (.t 1), none⟩, ⟨some 4, .callp 115 [(.t 3)], none⟩, ⟨some 5, .build [.bool false, .bool false, .bool false, .bool false, .bool false, .bool false, .bool false] [], none⟩, ⟨some 6, .eqv false true [true, true, true, true, true, true, true] (.t 4) (.t 5), none⟩, ⟨some 2, .mov (.t 6), none⟩]
def lc97 : LC := (.seq (.reg false c97_0) (.seq (.reg false c97_1) .ret))
def lf97 : LFunc := ⟨1, [.tmp 2], true, lc97⟩
def hi97 : Hints := ⟨[], [none, none, none], []⟩
theorem lf97_ok : compF Try.prog hi97 true Try.f97 = some lf97 := by kernel_rfl

/-! additive/num.Floor -/
def c98_0 : List LOper := [⟨some 4, .mov (.c (.int .i64 0)), none⟩, ⟨some 5, .mov (.c (.int .i64 0)), none⟩]
def c98_1 : List LOper := [⟨some 7, .mov (.t 1), none⟩, ⟨some 8, .ibin .eql (.t 7) (.c (.int .i64 0)), none⟩]
def c98_2 : List LOper := [⟨some 4, .mov (.c (.int .i64 0)), none⟩, ⟨some 5, .mov (.c (.int .i64 4)), none⟩]
def c98_3 : List LOper := [⟨some 9, .mov (.t 0), none⟩, ⟨some 10, .ibin .eql (.t 9) (.c (.int .i64 (-9223372036854775808))), none⟩, ⟨some 11, .mov (.t 10), none⟩, ⟨some 12, .mov (.t 1), some (11, true)⟩, ⟨some 13, .ibin .eql (.t 12) (.c (.int .i64 (-1))), some (11, true)⟩, ⟨some 14, .pick (.t 11) (.t 13) (.c (.bool false)), none⟩]
def c98_4 : List LOper := [⟨some 4, .mov (.c (.int .i64 0)), none⟩, ⟨some 5, .mov (.c (.int .i64 3)), none⟩]
def c98_5 : List LOper := [⟨some 15, .mov (.t 0), none⟩, ⟨some 16, .mov (.t 1), none⟩, ⟨some 17, .ibin .quo (.t 15) (.t 16), none⟩, ⟨some 6, .mov (.t 17), none⟩]
def c98_6 : List LOper := [⟨some 18, .mov (.t 0), none⟩, ⟨some 19, .mov (.t 1), none⟩, ⟨some 20, .ibin .rem (.t 18) (.t 19), none⟩, ⟨some 21, .ibin .neq (.t 20) (.c (.int .i64 0)), none⟩, ⟨some 22, .mov (.t 21), none⟩, ⟨some 23, .mov (.t 0), some (22, true)⟩, ⟨some 24, .ibin .lss (.t 23) (.c (.int .i64 0)), some (22, true)⟩, ⟨some 25, .mov (.t 1), some (22, true)⟩, ⟨some 26, .ibin .lss (.t 25) (.c (.int .i64 0)), some (22, true)⟩, ⟨some 27, .eqv true false [true] (.t 24) (.t 26), some (22, true)⟩, ⟨some 28, .pick (.t 22) (.t 27) (.c (.bool false)), none⟩]
def c98_7 : List LOper := [⟨some 29, .mov (.t 6), none⟩, ⟨some 30, .ibin .sub (.t 29) (.c (.int .i64 1)), none⟩, ⟨some 6, .mov (.t 30), none⟩]
def c98_8 : List LOper := [⟨some 31, .mov (.t 6), none⟩, ⟨some 4, .mov (.t 31), none⟩, ⟨some 5, .mov (.c (.int .i64 0)), none⟩]
def lc98 : LC := (.seq (.reg false c98_0) (.seq (.seq (.reg false c98_1) (.cond (.t 8) (.seq (.reg false c98_2) .ret) .skip)) (.seq (.seq (.reg false c98_3) (.cond (.t 14) (.seq (.reg false c98_4) .ret) .skip)) (.seq (.reg false c98_5) (.seq (.seq (.reg false c98_6) (.cond (.t 28) (.reg false c98_7) .skip)) (.seq (.reg false c98_8) .ret))))))
def lf98 : LFunc := ⟨2, [.tmp 4, .tmp 5], true, lc98⟩
def hi98 : Hints := ⟨[], [none, none, none, none, none, none, none, none, none, none, none, none, none, none], []⟩
theorem lf98_ok : compF Try.prog hi98 true Try.f98 = some lf98 := by kernel_rfl

/-! additive/flow.Volume -/
def c99_0 : List LOper := [⟨some 3, .box (.t 1), none⟩, ⟨some 4, .mov (.c (.int .i64 0)), none⟩]
def c99_1 : List LOper := [⟨some 5, .mov (.t 0), none⟩, ⟨some 6, .callp 116 [(.t 5), (.c (.int .i64 0)), (.c (.int .i64 1048576))], none⟩, ⟨some 7, .un .not (.t 6), none⟩, ⟨some 8, .mov (.t 7), none⟩, ⟨some 9, .load true 20 (.t 3), some (8, false)⟩, ⟨some 10, .callp 97 [(.t 9)], some (8, false)⟩, ⟨some 11, .un .not (.t 10), some (8, false)⟩, ⟨some 12, .pick (.t 8) (.c (.bool true)) (.t 11), none⟩]
def c99_2 : List LOper := [⟨some 4, .mov (.c (.int .i64 0)), none⟩]
def c99_3 : List LOper := [⟨some 13, .mov (.t 0), none⟩, ⟨some 14, .faddr 0 (.t 3), none⟩, ⟨some 15, .load false 1 (.t 14), none⟩, ⟨some 16, .ibin .mul (.t 13) (.t 15), none⟩, ⟨some 17, .faddr 0 (.t 3), none⟩, ⟨some 18, .load false 1 (.t 17), none⟩, ⟨some 19, .ibin .mul (.t 16) (.t 18), none⟩, ⟨some 20, .faddr 1 (.t 3), none⟩, ⟨some 21, .load false 1 (.t 20), none⟩, ⟨some 22, .ibin .mul (.t 19) (.t 21), none⟩, ⟨some 4, .mov (.t 22), none⟩]
def lc99 : LC := (.seq (.reg false c99_0) (.seq (.seq (.reg false c99_1) (.cond (.t 12) (.seq (.reg false c99_2) .ret) .skip)) (.seq (.reg false c99_3) .ret)))
def lf99 : LFunc := ⟨2, [.tmp 4], true, lc99⟩
def hi99 : Hints := ⟨[], [none, none, none, none, none, none, none], []⟩
theorem lf99_ok : compF Try.prog hi99 true Try.f99 = some lf99 := by kernel_rfl

/-! (*additive/emit.emitter).layer -/
def c100_0 : List LOper := [⟨some 3, .box (.t 1), none⟩]
def c100_1 : List LOper := [⟨some 4, .mov (.t 0), none⟩, ⟨some 5, .mov (.t 0), none⟩, ⟨some 6, .faddr 3 (.t 3), none⟩, ⟨some 7, .load false 1 (.t 6), none⟩, ⟨some 8, .build [.int .i64 0, .int .i64 0, .int .i64 0, .int .i64 0, .int .i64 0, .int .i64 0, .int .i64 0, .int .i64 0] [(0, 1, (.c (.int .i64 0))), (1, 1, (.c (.int .i64 4))), (4, 1, (.t 7))], none⟩, ⟨some 9, .mov (.t 0), none⟩, ⟨some 10, .nilck (.t 9), none⟩, ⟨some 11, .faddr 0 (.t 10), none⟩, ⟨some 12, .faddr 14 (.t 11), none⟩, ⟨some 13, .load false 1 (.t 12), none⟩, ⟨some 14, .callr 118 [(.t 5), (.t 8), (.t 13)], none⟩, ⟨some 15, .callr 117 [(.t 4), (.t 14)], none⟩]
def lc100 : LC := (.seq (.reg false c100_0) (.reg true c100_1))
def lf100 : LFunc := ⟨2, [], false, lc100⟩
def hi100 : Hints := ⟨[(14, .r), (15, .r)], [none], []⟩
theorem lf100_ok : compF Try.prog hi100 false Try.f100 = some lf100 := by kernel_rfl

/-! (*additive/emit.emitter).travel -/
def c101_0 : List LOper := [⟨some 3, .box (.t 1), none⟩]
def c101_1 : List LOper := [⟨some 6, .mov (.t 0), none⟩, ⟨some 7, .load true 6 (.t 3), none⟩, ⟨some 8, .callr 119 [(.t 6), (.t 7)], none⟩, ⟨some 9, .un .not (.t 8), none⟩]
def c101_2 : List LOper := [⟨some 10, .faddr 5 (.t 3), none⟩, ⟨some 11, .load false 1 (.t 10), none⟩, ⟨some 12, .mov (.t 0), none⟩, ⟨some 13, .nilck (.t 12), none⟩, ⟨some 14, .faddr 22 (.t 13), none⟩, ⟨some 15, .load true 2 (.t 14), none⟩, ⟨some 18, .mov (.c (.int .i64 0)), none⟩, ⟨some 16, .callz 85 [(.t 11), (.t 15)], none⟩, ⟨some 17, .len (.t 16), none⟩]
def c101_3 : List LOper := [⟨some 19, .ibin .lss (.t 18) (.t 17), none⟩]
def c101_4 : List LOper := [⟨some 20, .iaddr 1 (.t 16) (.t 18), none⟩, ⟨some 21, .load false 1 (.t 20), none⟩, ⟨some 5, .mov (.t 21), none⟩]
def c101_5 : List LOper := [⟨some 22, .mov (.t 0), none⟩, ⟨some 23, .mov (.t 0), none⟩, ⟨some 24, .mov (.t 0), none⟩, ⟨some 25, .faddr 5 (.t 3), none⟩, ⟨some 26, .load false 1 (.t 25), none⟩, ⟨some 27, .mov (.t 5), none⟩, ⟨some 28, .iaddr 2 (.t 26) (.t 27), none⟩, ⟨some 29, .load true 2 (.t 28), none⟩, ⟨some 30, .callq 120 [(.t 24), (.c (.int .i64 0)), (.t 29)], none⟩, ⟨some 31, .faddr 4 (.t 3), none⟩, ⟨some 32, .load false 1 (.t 31), none⟩, ⟨some 33, .mov (.t 0), none⟩, ⟨some 34, .nilck (.t 33), none⟩, ⟨some 35, .faddr 0 (.t 34), none⟩, ⟨some 36, .faddr 0 (.t 35), none⟩, ⟨some 37, .load false 1 (.t 36), none⟩, ⟨some 38, .ibin .mul (.t 32) (.t 37), none⟩, ⟨some 39, .callr 118 [(.t 23), (.t 30), (.t 38)], none⟩, ⟨some 40, .callr 117 [(.t 22), (.t 39)], none⟩]
def c101_6 : List LOper := [⟨some 41, .ibin .add (.t 18) (.c (.int .i64 1)), none⟩, ⟨some 18, .mov (.t 41), none⟩]
def c101_L0 : LC := (.seq (.reg false c101_3) (.seq (.cond (.t 19) .skip (.seq (.trim [0, 3]) (.exit 0))) (.seq (.blk 1 (.seq (.reg false c101_4) (.reg true c101_5))) (.reg false c101_6))))
def c101_8 : List LOper := [⟨some 42, .mov (.t 0), none⟩, ⟨some 43, .faddr 5 (.t 3), none⟩, ⟨some 44, .load false 1 (.t 43), none⟩, ⟨some 45, .faddr 5 (.t 3), none⟩, ⟨some 46, .load false 1 (.t 45), none⟩, ⟨some 47, .len (.t 46), none⟩, ⟨some 48, .ibin .sub (.t 47) (.c (.int .i64 1)), none⟩, ⟨some 49, .iaddr 2 (.t 44) (.t 48), none⟩, ⟨some 50, .load true 2 (.t 49), none⟩, ⟨some 51, .nilck (.t 42), none⟩, ⟨some 52, .faddr 22 (.t 51), none⟩, ⟨none, .store 2 (.t 52) (.t 50), none⟩]
def lc101 : LC := (.seq (.reg false c101_0) (.seq (.seq (.reg false c101_1) (.cond (.t 9) .ret .skip)) (.seq (.seq (.reg true c101_2) (.blk 0 (.loop [0, 3, 16, 17, 18] c101_L0))) (.reg false c101_8))))
def lf101 : LFunc := ⟨2, [], false, lc101⟩
def hi101 : Hints := ⟨[(8, .r), (16, .z), (30, .q), (39, .r), (40, .r)], [none, none, none, none, none, some [0, 3, 16, 17, 18], none, some [0, 3], none, none, none, none], [(2, [0, 1, 2, 3, 4, 5, 8, 6, 7])]⟩
theorem lf101_ok : compF Try.prog hi101 false Try.f101 = some lf101 := by kernel_rfl

/-! (*additive/emit.emitter).print -/
def c102_0 : List LOper := [⟨some 3, .box (.t 1), none⟩]
def c102_1 : List LOper := [⟨some 9, .mov (.t 0), none⟩, ⟨some 10, .load true 6 (.t 3), none⟩, ⟨some 11, .callr 119 [(.t 9), (.t 10)], none⟩, ⟨some 12, .un .not (.t 11), none⟩]
def c102_2 : List LOper := [⟨some 13, .faddr 4 (.t 3), none⟩, ⟨some 14, .load false 1 (.t 13), none⟩, ⟨some 15, .mov (.t 0), none⟩, ⟨some 16, .nilck (.t 15), none⟩, ⟨some 17, .faddr 0 (.t 16), none⟩, ⟨some 18, .faddr 0 (.t 17), none⟩, ⟨some 19, .load false 1 (.t 18), none⟩, ⟨some 20, .ibin .mul (.t 14) (.t 19), none⟩, ⟨some 4, .mov (.t 20), none⟩]
def c102_3 : List LOper := [⟨some 5, .mov (.c (.int .i64 0)), none⟩]
def c102_4 : List LOper := [⟨some 21, .faddr 5 (.t 3), none⟩, ⟨some 22, .load false 1 (.t 21), none⟩, ⟨some 23, .iaddr 2 (.t 22) (.c (.int .i64 0)), none⟩, ⟨some 24, .load true 2 (.t 23), none⟩, ⟨some 25, .mov (.t 0), none⟩, ⟨some 26, .nilck (.t 25), none⟩, ⟨some 27, .faddr 22 (.t 26), none⟩, ⟨some 28, .load true 2 (.t 27), none⟩, ⟨some 29, .eqv false true [false, false] (.t 24) (.t 28), none⟩]
def c102_5 : List LOper := [⟨some 30, .mov (.t 0), none⟩, ⟨some 31, .mov (.t 0), none⟩, ⟨some 32, .mov (.t 0), none⟩, ⟨some 33, .callq 121 [(.t 32), (.c (.int .i64 1))], none⟩, ⟨some 34, .build [.int .i64 0, .int .i64 0, .int .i64 0, .int .i64 0, .int .i64 0, .int .i64 0, .int .i64 0, .int .i64 0] [(0, 1, (.c (.int .i64 1))), (1, 1, (.c (.int .i64 8))), (5, 1, (.t 33))], none⟩, ⟨some 35, .mov (.t 4), none⟩, ⟨some 36, .callr 118 [(.t 31), (.t 34), (.t 35)], none⟩, ⟨some 37, .callr 117 [(.t 30), (.t 36)], none⟩]
def c102_6 : List LOper := [⟨some 5, .mov (.c (.int .i64 1)), none⟩]
def c102_7 : List LOper := [⟨some 38, .faddr 5 (.t 3), none⟩, ⟨some 39, .load false 1 (.t 38), none⟩, ⟨some 40, .mov (.t 5), none⟩, ⟨some 41, .slc 2 (.t 39) (some (.t 40)) none, none⟩, ⟨some 42, .mov (.t 0), none⟩, ⟨some 43, .nilck (.t 42), none⟩, ⟨some 44, .faddr 22 (.t 43), none⟩, ⟨some 45, .load true 2 (.t 44), none⟩, ⟨some 48, .mov (.c (.int .i64 0)), none⟩, ⟨some 46, .callz 85 [(.t 41), (.t 45)], none⟩, ⟨some 47, .len (.t 46), none⟩]
def c102_8 : List LOper := [⟨some 49, .ibin .lss (.t 48) (.t 47), none⟩]
def c102_9 : List LOper := [⟨some 50, .iaddr 1 (.t 46) (.t 48), none⟩, ⟨some 51, .load false 1 (.t 50), none⟩, ⟨some 7, .mov (.t 51), none⟩]
def c102_10 : List LOper := [⟨some 52, .mov (.t 0), none⟩, ⟨some 53, .faddr 5 (.t 3), none⟩, ⟨some 54, .load false 1 (.t 53), none⟩, ⟨some 55, .mov (.t 5), none⟩, ⟨some 56, .mov (.t 7), none⟩, ⟨some 57, .ibin .add (.t 55) (.t 56), none⟩, ⟨some 58, .iaddr 2 (.t 54) (.t 57), none⟩, ⟨some 59, .load true 2 (.t 58), none⟩, ⟨some 60, .callq 120 [(.t 52), (.c (.int .i64 1)), (.t 59)], none⟩, ⟨some 8, .alloc [.int .i64 0, .int .i64 0, .int .i64 0, .int .i64 0, .int .i64 0, .int .i64 0, .int .i64 0, .int .i64 0], none⟩, ⟨none, .store 8 (.t 8) (.t 60), none⟩]
def c102_11 : List LOper := [⟨some 61, .faddr 1 (.t 8), none⟩, ⟨some 62, .load false 1 (.t 61), none⟩, ⟨some 63, .ibin .or (.t 62) (.c (.int .i64 8)), none⟩, ⟨some 64, .faddr 1 (.t 8), none⟩, ⟨none, .store 1 (.t 64) (.t 63), none⟩]
def c102_12 : List LOper := [⟨some 65, .mov (.t 0), none⟩, ⟨some 66, .mov (.t 5), none⟩, ⟨some 67, .mov (.t 7), none⟩, ⟨some 68, .ibin .add (.t 66) (.t 67), none⟩, ⟨some 69, .ibin .add (.t 68) (.c (.int .i64 1)), none⟩, ⟨some 70, .callq 121 [(.t 65), (.t 69)], none⟩, ⟨some 71, .faddr 5 (.t 8), none⟩, ⟨none, .store 1 (.t 71) (.t 70), none⟩]
def c102_13 : List LOper := [⟨some 72, .mov (.t 0), none⟩, ⟨some 73, .mov (.t 0), none⟩, ⟨some 74, .load true 8 (.t 8), none⟩, ⟨some 75, .mov (.t 4), none⟩, ⟨some 76, .callr 118 [(.t 73), (.t 74), (.t 75)], none⟩, ⟨some 77, .callr 117 [(.t 72), (.t 76)], none⟩]
def c102_14 : List LOper := [⟨some 78, .ibin .add (.t 48) (.c (.int .i64 1)), none⟩, ⟨some 48, .mov (.t 78), none⟩]
def c102_L0 : LC := (.seq (.reg false c102_8) (.seq (.cond (.t 49) .skip (.seq (.trim [0, 3]) (.exit 0))) (.seq (.blk 1 (.seq (.reg false c102_9) (.seq (.reg false c102_10) (.seq (.reg false c102_11) (.seq (.reg false c102_12) (.reg false c102_13)))))) (.reg false c102_14))))
def c102_16 : List LOper := [⟨some 79, .mov (.t 0), none⟩, ⟨some 80, .nilck (.t 79), none⟩, ⟨some 81, .faddr 21 (.t 80), none⟩, ⟨some 82, .load false 1 (.t 81), none⟩, ⟨some 83, .faddr 5 (.t 3), none⟩, ⟨some 84, .load false 1 (.t 83), none⟩, ⟨some 85, .len (.t 84), none⟩, ⟨some 86, .ibin .add (.t 82) (.t 85), none⟩, ⟨some 87, .nilck (.t 79), none⟩, ⟨some 88, .faddr 21 (.t 87), none⟩, ⟨none, .store 1 (.t 88) (.t 86), none⟩]
def c102_17 : List LOper := [⟨some 89, .mov (.t 0), none⟩, ⟨some 90, .faddr 5 (.t 3), none⟩, ⟨some 91, .load false 1 (.t 90), none⟩, ⟨some 92, .faddr 5 (.t 3), none⟩, ⟨some 93, .load false 1 (.t 92), none⟩, ⟨some 94, .len (.t 93), none⟩, ⟨some 95, .ibin .sub (.t 94) (.c (.int .i64 1)), none⟩, ⟨some 96, .iaddr 2 (.t 91) (.t 95), none⟩, ⟨some 97, .load true 2 (.t 96), none⟩, ⟨some 98, .nilck (.t 89), none⟩, ⟨some 99, .faddr 22 (.t 98), none⟩, ⟨none, .store 2 (.t 99) (.t 97), none⟩]
def lc102 : LC := (.seq (.reg false c102_0) (.seq (.seq (.reg false c102_1) (.cond (.t 12) .ret .skip)) (.seq (.reg true c102_2) (.seq (.reg false c102_3) (.seq (.seq (.reg true c102_4) (.cond (.t 29) (.seq (.reg false c102_5) (.reg false c102_6)) .skip)) (.seq (.seq (.reg true c102_7) (.blk 0 (.loop [0, 3, 4, 5, 46, 47, 48] c102_L0))) (.seq (.reg true c102_16) (.reg false c102_17))))))))
def lf102 : LFunc := ⟨2, [], false, lc102⟩
def hi102 : Hints := ⟨[(11, .r), (33, .q), (36, .r), (37, .r), (46, .z), (60, .q), (70, .q), (76, .r), (77, .r)], [none, none, none, none, none, none, none, none, none, none, some [0, 3, 4, 5, 46, 47, 48], none, some [0, 3], none, none, none, none, none, none, none, none], [(7, [0, 1, 2, 3, 4, 5, 6, 7, 10, 8, 9])]⟩
theorem lf102_ok : compF Try.prog hi102 false Try.f102 = some lf102 := by kernel_rfl

/-! (*additive/emit.emitter).feed -/
def c103_0 : List LOper := [⟨some 3, .box (.t 1), none⟩]
def c103_1 : List LOper := [⟨some 4, .mov (.t 0), none⟩, ⟨some 5, .mov (.t 0), none⟩, ⟨some 6, .nilck (.t 5), none⟩, ⟨some 7, .faddr 20 (.t 6), none⟩, ⟨some 8, .load false 1 (.t 7), none⟩, ⟨some 9, .build [.int .i64 0, .int .i64 0, .int .i64 0, .int .i64 0, .int .i64 0, .int .i64 0, .int .i64 0, .int .i64 0] [(0, 1, (.c (.int .i64 1))), (1, 1, (.c (.int .i64 8))), (5, 1, (.t 8))], none⟩, ⟨some 10, .callr 117 [(.t 4), (.t 9)], none⟩]
def lc103 : LC := (.seq (.reg false c103_0) (.reg false c103_1))
def lf103 : LFunc := ⟨2, [], false, lc103⟩
def hi103 : Hints := ⟨[(10, .r)], [none], []⟩
theorem lf103_ok : compF Try.prog hi103 false Try.f103 = some lf103 := by kernel_rfl

/-! (*additive/emit.emitter).fan -/
def c104_0 : List LOper := [⟨some 3, .box (.t 1), none⟩]
def c104_1 : List LOper := [⟨some 4, .faddr 4 (.t 3), none⟩, ⟨some 5, .load false 1 (.t 4), none⟩, ⟨some 6, .ibin .eql (.t 5) (.c (.int .i64 0)), none⟩]
def c104_2 : List LOper := [⟨some 7, .mov (.t 0), none⟩, ⟨some 8, .build [.int .i64 0, .int .i64 0, .int .i64 0, .int .i64 0, .int .i64 0, .int .i64 0, .int .i64 0, .int .i64 0] [(0, 1, (.c (.int .i64 1107)))], none⟩, ⟨some 9, .callr 117 [(.t 7), (.t 8)], none⟩]
def c104_3 : List LOper := [⟨some 10, .mov (.t 0), none⟩, ⟨some 11, .faddr 4 (.t 3), none⟩, ⟨some 12, .load false 1 (.t 11), none⟩, ⟨some 13, .build [.int .i64 0, .int .i64 0, .int .i64 0, .int .i64 0, .int .i64 0, .int .i64 0, .int .i64 0, .int .i64 0] [(0, 1, (.c (.int .i64 1106))), (1, 1, (.c (.int .i64 32))), (7, 1, (.t 12))], none⟩, ⟨some 14, .callr 117 [(.t 10), (.t 13)], none⟩]
def lc104 : LC := (.seq (.reg false c104_0) (.seq (.seq (.reg false c104_1) (.cond (.t 6) (.seq (.reg false c104_2) .ret) .skip)) (.reg false c104_3)))
def lf104 : LFunc := ⟨2, [], false, lc104⟩
def hi104 : Hints := ⟨[(9, .r), (14, .r)], [none, none, none, none, none], []⟩
theorem lf104_ok : compF Try.prog hi104 false Try.f104 = some lf104 := by kernel_rfl

/-! (*additive/emit.emitter).nothing -/
def c105_0 : List LOper := [⟨some 3, .box (.t 1), none⟩]
def lc105 : LC := (.reg false c105_0)
def lf105 : LFunc := ⟨2, [], false, lc105⟩
def hi105 : Hints := ⟨[], [], []⟩
theorem lf105_ok : compF Try.prog hi105 false Try.f105 = some lf105 := by kernel_rfl

/-! (*additive/additiveref40.state).add -/
def c106_0 : List LOper := [⟨some 4, .box (.t 1), none⟩]
def c106_1 : List LOper := [⟨some 6, .mov (.t 2), none⟩, ⟨some 7, .ibin .neq (.t 6) (.c (.int .i64 0)), none⟩, ⟨some 8, .mov (.t 7), none⟩, ⟨some 9, .mov (.t 2), some (8, true)⟩, ⟨some 10, .mov (.t 0), some (8, true)⟩, ⟨some 11, .nilck (.t 10), some (8, true)⟩, ⟨some 12, .faddr 23 (.t 11), some (8, true)⟩, ⟨some 13, .load false 1 (.t 12), some (8, true)⟩, ⟨some 14, .ibin .neq (.t 9) (.t 13), some (8, true)⟩, ⟨some 15, .pick (.t 8) (.t 14) (.c (.bool false)), none⟩]
def c106_2 : List LOper := [⟨some 16, .faddr 1 (.t 4), none⟩, ⟨some 17, .load false 1 (.t 16), none⟩, ⟨some 18, .ibin .add (.t 17) (.c (.int .i64 16)), none⟩, ⟨some 19, .faddr 1 (.t 4), none⟩, ⟨none, .store 1 (.t 19) (.t 18), none⟩]
def c106_3 : List LOper := [⟨some 20, .mov (.t 2), none⟩, ⟨some 21, .faddr 6 (.t 4), none⟩, ⟨none, .store 1 (.t 21) (.t 20), none⟩]
def c106_4 : List LOper := [⟨some 22, .mov (.t 0), none⟩, ⟨some 23, .mov (.t 2), none⟩, ⟨some 24, .nilck (.t 22), none⟩, ⟨some 25, .faddr 23 (.t 24), none⟩, ⟨none, .store 1 (.t 25) (.t 23), none⟩]
def c106_5 : List LOper := [⟨some 26, .load true 8 (.t 4), none⟩, ⟨some 27, .callp 40 [(.t 26)], none⟩, ⟨some 28, .un .not (.t 27), none⟩]
def c106_6 : List LOper := [⟨some 29, .mov (.t 0), none⟩, ⟨some 30, .nilck (.t 29), none⟩, ⟨some 31, .faddr 25 (.t 30), none⟩, ⟨none, .store 1 (.t 31) (.c (.bool true)), none⟩]
def c106_7 : List LOper := [⟨some 32, .mov (.t 0), none⟩, ⟨some 33, .mov (.t 0), none⟩, ⟨some 34, .nilck (.t 33), none⟩, ⟨some 35, .faddr 24 (.t 34), none⟩, ⟨some 36, .load false 1 (.t 35), none⟩, ⟨some 37, .load true 8 (.t 4), none⟩, ⟨some 38, .bslice 1 8 55 [.int .i64 0, .int .i64 0, .int .i64 0, .int .i64 0, .int .i64 0, .int .i64 0, .int .i64 0, .int .i64 0] [(0, 8, (.t 37))], none⟩, ⟨some 39, .app 8 64 55 [.int .i64 0, .int .i64 0, .int .i64 0, .int .i64 0, .int .i64 0, .int .i64 0, .int .i64 0, .int .i64 0] (.t 36) (.t 38), none⟩, ⟨some 40, .nilck (.t 32), none⟩, ⟨some 41, .faddr 24 (.t 40), none⟩, ⟨none, .store 1 (.t 41) (.t 39), none⟩]
def lc106 : LC := (.seq (.reg false c106_0) (.seq (.seq (.reg false c106_1) (.cond (.t 15) (.seq (.reg false c106_2) (.seq (.reg false c106_3) (.reg false c106_4))) .skip)) (.seq (.seq (.reg false c106_5) (.cond (.t 28) (.reg false c106_6) .skip)) (.reg true c106_7))))
def lf106 : LFunc := ⟨3, [], false, lc106⟩
def hi106 : Hints := ⟨[], [none, none, none, none, none, none, none], []⟩
theorem lf106_ok : compF Try.prog hi106 false Try.f106 = some lf106 := by kernel_rfl

/-! (*additive/additiveref40.state).path -/
def c107_0 : List LOper := [⟨some 3, .box (.t 1), none⟩]
def c107_1 : List LOper := [⟨some 4, .faddr 5 (.t 3), none⟩, ⟨some 5, .load false 1 (.t 4), none⟩, ⟨some 6, .len (.t 5), none⟩, ⟨some 7, .ibin .gtr (.t 6) (.c (.int .i64 0)), none⟩, ⟨some 8, .mov (.t 7), none⟩, ⟨some 9, .faddr 4 (.t 3), some (8, true)⟩, ⟨some 10, .load false 1 (.t 9), some (8, true)⟩, ⟨some 11, .ibin .lss (.t 10) (.c (.int .i64 1)), some (8, true)⟩, ⟨some 12, .mov (.t 11), some (8, true)⟩, ⟨some 13, .faddr 4 (.t 3), some (12, false)⟩, ⟨some 14, .load false 1 (.t 13), some (12, false)⟩, ⟨some 15, .ibin .gtr (.t 14) (.c (.int .i64 1048576)), some (12, false)⟩, ⟨some 16, .pick (.t 12) (.c (.bool true)) (.t 15), some (8, true)⟩, ⟨some 17, .pick (.t 8) (.t 16) (.c (.bool false)), none⟩]
def c107_2 : List LOper := [⟨some 18, .mov (.t 0), none⟩, ⟨some 19, .nilck (.t 18), none⟩, ⟨some 20, .faddr 25 (.t 19), none⟩, ⟨none, .store 1 (.t 20) (.c (.bool true)), none⟩]
def c107_3 : List LOper := [⟨some 21, .faddr 5 (.t 3), none⟩, ⟨some 22, .load false 1 (.t 21), none⟩, ⟨some 23, .len (.t 22), none⟩, ⟨some 24, .ibin .eql (.t 23) (.c (.int .i64 0)), none⟩, ⟨some 25, .mov (.t 24), none⟩, ⟨some 26, .mov (.t 0), some (25, false)⟩, ⟨some 27, .nilck (.t 26), some (25, false)⟩, ⟨some 28, .faddr 25 (.t 27), some (25, false)⟩, ⟨some 29, .load false 1 (.t 28), some (25, false)⟩, ⟨some 30, .pick (.t 25) (.c (.bool true)) (.t 29), none⟩]
def c107_4 : List LOper := [⟨some 31, .faddr 0 (.t 3), none⟩, ⟨some 32, .load false 1 (.t 31), none⟩, ⟨some 33, .ibin .eql (.t 32) (.c (.int .i64 3)), none⟩, ⟨some 34, .mov (.t 33), none⟩, ⟨some 35, .faddr 5 (.t 3), some (34, true)⟩, ⟨some 36, .load false 1 (.t 35), some (34, true)⟩, ⟨some 37, .iaddr 2 (.t 36) (.c (.int .i64 0)), some (34, true)⟩, ⟨some 38, .load true 2 (.t 37), some (34, true)⟩, ⟨some 39, .mov (.t 0), some (34, true)⟩, ⟨some 40, .nilck (.t 39), some (34, true)⟩, ⟨some 41, .faddr 20 (.t 40), some (34, true)⟩, ⟨some 42, .load true 2 (.t 41), some (34, true)⟩, ⟨some 43, .eqv false true [false, false] (.t 38) (.t 42), some (34, true)⟩, ⟨some 44, .pick (.t 34) (.t 43) (.c (.bool false)), none⟩]
def c107_5 : List LOper := [⟨some 45, .mov (.t 0), none⟩, ⟨some 46, .mov (.t 0), none⟩, ⟨some 47, .callq 122 [(.t 46), (.c (.int .i64 1))], none⟩, ⟨some 48, .build [.int .i64 0, .int .i64 0, .int .i64 0, .int .i64 0, .int .i64 0, .int .i64 0, .int .i64 0, .int .i64 0] [(0, 1, (.c (.int .i64 1))), (1, 1, (.c (.int .i64 8))), (5, 1, (.t 47))], none⟩, ⟨some 49, .faddr 4 (.t 3), none⟩, ⟨some 50, .load false 1 (.t 49), none⟩, ⟨some 51, .mov (.t 0), none⟩, ⟨some 52, .nilck (.t 51), none⟩, ⟨some 53, .faddr 0 (.t 52), none⟩, ⟨some 54, .faddr 0 (.t 53), none⟩, ⟨some 55, .load false 1 (.t 54), none⟩, ⟨some 56, .ibin .mul (.t 50) (.t 55), none⟩, ⟨some 57, .callr 106 [(.t 45), (.t 48), (.t 56)], none⟩]
def c107_6 : List LOper := [⟨some 58, .mov (.t 0), none⟩, ⟨some 59, .load true 6 (.t 3), none⟩, ⟨some 60, .faddr 5 (.t 3), none⟩, ⟨some 61, .load false 1 (.t 60), none⟩, ⟨some 62, .slc 2 (.t 61) (some (.c (.int .i64 1))) none, none⟩, ⟨some 63, .callr 123 [(.t 58), (.t 59), (.t 62), (.c (.int .i64 1))], none⟩]
def c107_7 : List LOper := [⟨some 64, .mov (.t 0), none⟩, ⟨some 65, .load true 6 (.t 3), none⟩, ⟨some 66, .faddr 5 (.t 3), none⟩, ⟨some 67, .load false 1 (.t 66), none⟩, ⟨some 68, .callr 123 [(.t 64), (.t 65), (.t 67), (.c (.int .i64 0))], none⟩]
def c107_8 : List LOper := [⟨some 69, .faddr 0 (.t 3), none⟩, ⟨some 70, .load false 1 (.t 69), none⟩, ⟨some 71, .ibin .eql (.t 70) (.c (.int .i64 3)), none⟩]
def c107_9 : List LOper := [⟨some 72, .mov (.t 0), none⟩, ⟨some 73, .mov (.t 0), none⟩, ⟨some 74, .nilck (.t 73), none⟩, ⟨some 75, .faddr 22 (.t 74), none⟩, ⟨some 76, .load false 1 (.t 75), none⟩, ⟨some 77, .faddr 5 (.t 3), none⟩, ⟨some 78, .load false 1 (.t 77), none⟩, ⟨some 79, .len (.t 78), none⟩, ⟨some 80, .ibin .add (.t 76) (.t 79), none⟩, ⟨some 81, .nilck (.t 72), none⟩, ⟨some 82, .faddr 22 (.t 81), none⟩, ⟨none, .store 1 (.t 82) (.t 80), none⟩]
def c107_10 : List LOper := [⟨some 83, .mov (.t 0), none⟩, ⟨some 84, .faddr 5 (.t 3), none⟩, ⟨some 85, .load false 1 (.t 84), none⟩, ⟨some 86, .faddr 5 (.t 3), none⟩, ⟨some 87, .load false 1 (.t 86), none⟩, ⟨some 88, .len (.t 87), none⟩, ⟨some 89, .ibin .sub (.t 88) (.c (.int .i64 1)), none⟩, ⟨some 90, .iaddr 2 (.t 85) (.t 89), none⟩, ⟨some 91, .load true 2 (.t 90), none⟩, ⟨some 92, .nilck (.t 83), none⟩, ⟨some 93, .faddr 20 (.t 92), none⟩, ⟨none, .store 2 (.t 93) (.t 91), none⟩]
def lc107 : LC := (.seq (.reg false c107_0) (.seq (.seq (.reg false c107_1) (.cond (.t 17) (.reg false c107_2) .skip)) (.seq (.seq (.reg false c107_3) (.cond (.t 30) .ret .skip)) (.seq (.seq (.reg true c107_4) (.cond (.t 44) (.seq (.reg true c107_5) (.reg true c107_6)) (.reg false c107_7))) (.seq (.seq (.reg false c107_8) (.cond (.t 71) (.reg true c107_9) .skip)) (.reg false c107_10))))))
def lf107 : LFunc := ⟨2, [], false, lc107⟩
def hi107 : Hints := ⟨[(47, .q), (57, .r), (63, .r), (68, .r)], [none, none, none, none, none, none, none, none, none, none, none], []⟩
theorem lf107_ok : compF Try.prog hi107 false Try.f107 = some lf107 := by kernel_rfl

/-! additive/additiveref39.Codes -/
def c108_0 : List LOper := [⟨some 0, .mov (.c (.nils)), none⟩]
def c108_1 : List LOper := [⟨some 1, .bslice 14 1 3 [.int .i64 0] [(0, 1, (.c (.int .i64 0))), (1, 1, (.c (.int .i64 1))), (2, 1, (.c (.int .i64 4))), (3, 1, (.c (.int .i64 28))), (4, 1, (.c (.int .i64 1024))), (5, 1, (.c (.int .i64 1025))), (6, 1, (.c (.int .i64 1104))), (7, 1, (.c (.int .i64 1106))), (8, 1, (.c (.int .i64 1107))), (9, 1, (.c (.int .i64 1109))), (10, 1, (.c (.int .i64 1112))), (11, 1, (.c (.int .i64 1140))), (12, 1, (.c (.int .i64 1190))), (13, 1, (.c (.int .i64 1999)))], none⟩, ⟨some 0, .mov (.t 1), none⟩]
def lc108 : LC := (.seq (.reg false c108_0) (.seq (.reg false c108_1) .ret))
def lf108 : LFunc := ⟨0, [.tmp 0], true, lc108⟩
def hi108 : Hints := ⟨[], [none, none, none], []⟩
theorem lf108_ok : compF Try.prog hi108 true Try.f108 = some lf108 := by kernel_rfl

/-! additive/additiveref35.in -/
def c109_0 : List LOper := [⟨some 6, .mov (.c (.bool false)), none⟩]
def c109_1 : List LOper := [⟨some 7, .mov (.t 0), none⟩, ⟨some 8, .mov (.t 1), none⟩, ⟨some 9, .ibin .geq (.t 7) (.t 8), none⟩, ⟨some 10, .mov (.t 9), none⟩, ⟨some 11, .mov (.t 0), some (10, true)⟩, ⟨some 12, .mov (.t 2), some (10, true)⟩, ⟨some 13, .ibin .leq (.t 11) (.t 12), some (10, true)⟩, ⟨some 14, .pick (.t 10) (.t 13) (.c (.bool false)), none⟩, ⟨some 6, .mov (.t 14), none⟩]
def lc109 : LC := (.seq (.reg false c109_0) (.seq (.reg false c109_1) .ret))
def lf109 : LFunc := ⟨3, [.tmp 6], true, lc109⟩
def hi109 : Hints := ⟨[], [none, none, none], []⟩
theorem lf109_ok : compF Try.prog hi109 true Try.f109 = some lf109 := by kernel_rfl

/-! additive/emit.direction -/
def c110_0 : List LOper := [⟨some 2, .box (.t 0), none⟩, ⟨some 3, .box (.t 1), none⟩, ⟨some 4, .alloc [.int .i64 0, .int .i64 0], none⟩]
def c110_1 : List LOper := [⟨some 5, .faddr 0 (.t 3), none⟩, ⟨some 6, .load false 1 (.t 5), none⟩, ⟨some 7, .faddr 0 (.t 2), none⟩, ⟨some 8, .load false 1 (.t 7), none⟩, ⟨some 9, .ibin .sub (.t 6) (.t 8), none⟩, ⟨some 10, .faddr 1 (.t 3), none⟩, ⟨some 11, .load false 1 (.t 10), none⟩, ⟨some 12, .faddr 1 (.t 2), none⟩, ⟨some 13, .load false 1 (.t 12), none⟩, ⟨some 14, .ibin .sub (.t 11) (.t 13), none⟩, ⟨some 15, .build [.int .i64 0, .int .i64 0] [(0, 1, (.t 9)), (1, 1, (.t 14))], none⟩, ⟨none, .store 2 (.t 4) (.t 15), none⟩]
def lc110 : LC := (.seq (.reg false c110_0) (.seq (.reg false c110_1) .ret))
def lf110 : LFunc := ⟨2, [.cell 4 true 2], true, lc110⟩
def hi110 : Hints := ⟨[], [none, none, none], []⟩
theorem lf110_ok : compF Try.prog hi110 true Try.f110 = some lf110 := by kernel_rfl

/-! additive/additiveref40.turns -/
def c111_0 : List LOper := [⟨some 3, .box (.t 0), none⟩, ⟨some 4, .box (.t 1), none⟩, ⟨some 5, .box (.t 2), none⟩, ⟨some 6, .mov (.c (.bool false)), none⟩]
def c111_1 : List LOper := [⟨some 7, .faddr 0 (.t 4), none⟩, ⟨some 8, .load false 1 (.t 7), none⟩, ⟨some 9, .faddr 0 (.t 3), none⟩, ⟨some 10, .load false 1 (.t 9), none⟩, ⟨some 11, .ibin .sub (.t 8) (.t 10), none⟩, ⟨some 12, .faddr 0 (.t 5), none⟩, ⟨some 13, .load false 1 (.t 12), none⟩, ⟨some 14, .faddr 0 (.t 4), none⟩, ⟨some 15, .load false 1 (.t 14), none⟩, ⟨some 16, .ibin .sub (.t 13) (.t 15), none⟩, ⟨some 17, .ibin .neq (.t 11) (.t 16), none⟩, ⟨some 18, .mov (.t 17), none⟩, ⟨some 19, .faddr 1 (.t 4), some (18, false)⟩, ⟨some 20, .load false 1 (.t 19), some (18, false)⟩, ⟨some 21, .faddr 1 (.t 3), some (18, false)⟩, ⟨some 22, .load false 1 (.t 21), some (18, false)⟩, ⟨some 23, .ibin .sub (.t 20) (.t 22), some (18, false)⟩, ⟨some 24, .faddr 1 (.t 5), some (18, false)⟩, ⟨some 25, .load false 1 (.t 24), some (18, false)⟩, ⟨some 26, .faddr 1 (.t 4), some (18, false)⟩, ⟨some 27, .load false 1 (.t 26), some (18, false)⟩, ⟨some 28, .ibin .sub (.t 25) (.t 27), some (18, false)⟩, ⟨some 29, .ibin .neq (.t 23) (.t 28), some (18, false)⟩, ⟨some 30, .pick (.t 18) (.c (.bool true)) (.t 29), none⟩, ⟨some 6, .mov (.t 30), none⟩]
def lc111 : LC := (.seq (.reg false c111_0) (.seq (.reg false c111_1) .ret))
def lf111 : LFunc := ⟨3, [.tmp 6], true, lc111⟩
def hi111 : Hints := ⟨[], [none, none, none], []⟩
theorem lf111_ok : compF Try.prog hi111 true Try.f111 = some lf111 := by kernel_rfl

/-! additive/flow.check -/
def c115_0 : List LOper := [⟨some 1, .box (.t 0), none⟩, ⟨some 2, .alloc [.bool false, .bool false, .bool false, .bool false, .bool false, .bool false, .bool false], none⟩]
def c115_1 : List LOper := [⟨some 3, .faddr 0 (.t 1), none⟩, ⟨some 4, .load false 1 (.t 3), none⟩, ⟨some 5, .callp 124 [(.t 4), (.c (.int .i64 32)), (.c (.int .i64 1024))], none⟩, ⟨some 6, .un .not (.t 5), none⟩, ⟨some 7, .mov (.t 6), none⟩, ⟨some 8, .faddr 1 (.t 1), some (7, false)⟩, ⟨some 9, .load false 1 (.t 8), some (7, false)⟩, ⟨some 10, .callp 124 [(.t 9), (.c (.int .i64 4)), (.c (.int .i64 1024))], some (7, false)⟩, ⟨some 11, .un .not (.t 10), some (7, false)⟩, ⟨some 12, .pick (.t 7) (.c (.bool true)) (.t 11), none⟩, ⟨some 13, .faddr 2 (.t 1), none⟩, ⟨some 14, .load false 1 (.t 13), none⟩, ⟨some 15, .callp 116 [(.t 14), (.c (.int .i64 0)), (.c (.int .i64 8))], none⟩, ⟨some 16, .un .not (.t 15), none⟩, ⟨some 17, .mov (.t 16), none⟩, ⟨some 18, .faddr 3 (.t 1), some (17, false)⟩, ⟨some 19, .load false 1 (.t 18), some (17, false)⟩, ⟨some 20, .callp 116 [(.t 19), (.c (.int .i64 0)), (.c (.int .i64 16))], some (17, false)⟩, ⟨some 21, .un .not (.t 20), some (17, false)⟩, ⟨some 22, .pick (.t 17) (.c (.bool true)) (.t 21), none⟩, ⟨some 23, .mov (.t 22), none⟩, ⟨some 24, .faddr 4 (.t 1), some (23, false)⟩, ⟨some 25, .load false 1 (.t 24), some (23, false)⟩, ⟨some 26, .callp 116 [(.t 25), (.c (.int .i64 0)), (.c (.int .i64 16))], some (23, false)⟩, ⟨some 27, .un .not (.t 26), some (23, false)⟩, ⟨some 28, .pick (.t 23) (.c (.bool true)) (.t 27), none⟩, ⟨some 29, .faddr 5 (.t 1), none⟩, ⟨some 30, .load false 1 (.t 29), none⟩, ⟨some 31, .callp 116 [(.t 30), (.c (.int .i64 0)), (.c (.int .i64 3))], none⟩, ⟨some 32, .un .not (.t 31), none⟩, ⟨some 33, .mov (.t 32), none⟩, ⟨some 34, .faddr 6 (.t 1), some (33, false)⟩, ⟨some 35, .load false 1 (.t 34), some (33, false)⟩, ⟨some 36, .callp 116 [(.t 35), (.c (.int .i64 1)), (.c (.int .i64 64))], some (33, false)⟩, ⟨some 37, .un .not (.t 36), some (33, false)⟩, ⟨some 38, .pick (.t 33) (.c (.bool true)) (.t 37), none⟩, ⟨some 39, .faddr 8 (.t 1), none⟩, ⟨some 40, .load false 1 (.t 39), none⟩, ⟨some 41, .callp 116 [(.t 40), (.c (.int .i64 0)), (.c (.int .i64 64))], none⟩, ⟨some 42, .un .not (.t 41), none⟩, ⟨some 43, .mov (.t 42), none⟩, ⟨some 44, .faddr 9 (.t 1), some (43, false)⟩, ⟨some 45, .load false 1 (.t 44), some (43, false)⟩, ⟨some 46, .callp 116 [(.t 45), (.c (.int .i64 0)), (.c (.int .i64 64))], some (43, false)⟩, ⟨some 47, .un .not (.t 46), some (43, false)⟩, ⟨some 48, .pick (.t 43) (.c (.bool true)) (.t 47), none⟩, ⟨some 49, .mov (.t 48), none⟩, ⟨some 50, .faddr 10 (.t 1), some (49, false)⟩, ⟨some 51, .load false 1 (.t 50), some (49, false)⟩, ⟨some 52, .callp 116 [(.t 51), (.c (.int .i64 0)), (.c (.int .i64 64))], some (49, false)⟩, ⟨some 53, .un .not (.t 52), some (49, false)⟩, ⟨some 54, .pick (.t 49) (.c (.bool true)) (.t 53), none⟩, ⟨some 55, .mov (.t 54), none⟩, ⟨some 56, .faddr 11 (.t 1), some (55, false)⟩, ⟨some 57, .load false 1 (.t 56), some (55, false)⟩, ⟨some 58, .callp 116 [(.t 57), (.c (.int .i64 0)), (.c (.int .i64 63))], some (55, false)⟩, ⟨some 59, .un .not (.t 58), some (55, false)⟩, ⟨some 60, .pick (.t 55) (.c (.bool true)) (.t 59), none⟩, ⟨some 61, .faddr 12 (.t 1), none⟩, ⟨some 62, .load false 1 (.t 61), none⟩, ⟨some 63, .callp 116 [(.t 62), (.c (.int .i64 1)), (.c (.int .i64 1073741824))], none⟩, ⟨some 64, .un .not (.t 63), none⟩, ⟨some 65, .mov (.t 64), none⟩, ⟨some 66, .faddr 15 (.t 1), some (65, false)⟩, ⟨some 67, .load false 1 (.t 66), some (65, false)⟩, ⟨some 68, .callp 116 [(.t 67), (.c (.int .i64 0)), (.c (.int .i64 65536))], some (65, false)⟩, ⟨some 69, .un .not (.t 68), some (65, false)⟩, ⟨some 70, .pick (.t 65) (.c (.bool true)) (.t 69), none⟩, ⟨some 71, .faddr 13 (.t 1), none⟩, ⟨some 72, .load false 1 (.t 71), none⟩, ⟨some 73, .callp 116 [(.t 72), (.c (.int .i64 1)), (.c (.int .i64 1048576))], none⟩, ⟨some 74, .un .not (.t 73), none⟩, ⟨some 75, .mov (.t 74), none⟩, ⟨some 76, .faddr 14 (.t 1), some (75, false)⟩, ⟨some 77, .load false 1 (.t 76), some (75, false)⟩, ⟨some 78, .callp 116 [(.t 77), (.c (.int .i64 1)), (.c (.int .i64 1048576))], some (75, false)⟩, ⟨some 79, .un .not (.t 78), some (75, false)⟩, ⟨some 80, .pick (.t 75) (.c (.bool true)) (.t 79), none⟩, ⟨some 81, .mov (.t 80), none⟩, ⟨some 82, .faddr 16 (.t 1), some (81, false)⟩, ⟨some 83, .load false 1 (.t 82), some (81, false)⟩, ⟨some 84, .callp 116 [(.t 83), (.c (.int .i64 0)), (.c (.int .i64 1048576))], some (81, false)⟩, ⟨some 85, .un .not (.t 84), some (81, false)⟩, ⟨some 86, .pick (.t 81) (.c (.bool true)) (.t 85), none⟩, ⟨some 87, .mov (.t 86), none⟩, ⟨some 88, .faddr 17 (.t 1), some (87, false)⟩, ⟨some 89, .load false 1 (.t 88), some (87, false)⟩, ⟨some 90, .faddr 13 (.t 1), some (87, false)⟩, ⟨some 91, .load false 1 (.t 90), some (87, false)⟩, ⟨some 92, .callp 116 [(.t 89), (.c (.int .i64 1)), (.t 91)], some (87, false)⟩, ⟨some 93, .un .not (.t 92), some (87, false)⟩, ⟨some 94, .pick (.t 87) (.c (.bool true)) (.t 93), none⟩, ⟨some 95, .faddr 18 (.t 1), none⟩, ⟨some 96, .load false 1 (.t 95), none⟩, ⟨some 97, .callp 116 [(.t 96), (.c (.int .i64 0)), (.c (.int .i64 400000))], none⟩, ⟨some 98, .un .not (.t 97), none⟩, ⟨some 99, .mov (.t 98), none⟩, ⟨some 100, .faddr 19 (.t 1), some (99, false)⟩, ⟨some 101, .load false 1 (.t 100), some (99, false)⟩, ⟨some 102, .callp 116 [(.t 101), (.c (.int .i64 0)), (.c (.int .i64 400000))], some (99, false)⟩, ⟨some 103, .un .not (.t 102), some (99, false)⟩, ⟨some 104, .pick (.t 99) (.c (.bool true)) (.t 103), none⟩, ⟨some 105, .build [.bool false, .bool false, .bool false, .bool false, .bool false, .bool false, .bool false] [(0, 1, (.t 12)), (1, 1, (.t 28)), (2, 1, (.t 38)), (3, 1, (.t 60)), (4, 1, (.t 70)), (5, 1, (.t 94)), (6, 1, (.t 104))], none⟩, ⟨none, .store 7 (.t 2) (.t 105), none⟩]
def lc115 : LC := (.seq (.reg false c115_0) (.seq (.reg true c115_1) .ret))
def lf115 : LFunc := ⟨1, [.cell 2 true 7], true, lc115⟩
def hi115 : Hints := ⟨[], [none, none, none], []⟩
theorem lf115_ok : compF Try.prog hi115 true Try.f115 = some lf115 := by kernel_rfl

/-! additive/flow.within -/
def c116_0 : List LOper := [⟨some 6, .mov (.c (.bool false)), none⟩]
def c116_1 : List LOper := [⟨some 7, .mov (.t 0), none⟩, ⟨some 8, .mov (.t 1), none⟩, ⟨some 9, .ibin .geq (.t 7) (.t 8), none⟩, ⟨some 10, .mov (.t 9), none⟩, ⟨some 11, .mov (.t 0), some (10, true)⟩, ⟨some 12, .mov (.t 2), some (10, true)⟩, ⟨some 13, .ibin .leq (.t 11) (.t 12), some (10, true)⟩, ⟨some 14, .pick (.t 10) (.t 13) (.c (.bool false)), none⟩, ⟨some 6, .mov (.t 14), none⟩]
def lc116 : LC := (.seq (.reg false c116_0) (.seq (.reg false c116_1) .ret))
def lf116 : LFunc := ⟨3, [.tmp 6], true, lc116⟩
def hi116 : Hints := ⟨[], [none, none, none], []⟩
theorem lf116_ok : compF Try.prog hi116 true Try.f116 = some lf116 := by kernel_rfl

/-! (*additive/emit.emitter).add -/
def c117_0 : List LOper := [⟨some 3, .box (.t 1), none⟩]
def c117_1 : List LOper := [⟨some 15, .mov (.t 0), none⟩, ⟨some 16, .nilck (.t 15), none⟩, ⟨some 17, .faddr 27 (.t 16), none⟩, ⟨some 18, .load false 1 (.t 17), none⟩, ⟨some 19, .ibin .neq (.t 18) (.c (.int .i64 0)), none⟩, ⟨some 14, .mov (.t 19), none⟩]
def c117_2 : List LOper := [⟨some 21, .load true 8 (.t 3), none⟩, ⟨some 22, .callp 125 [(.t 21)], none⟩, ⟨some 23, .un .not (.t 22), none⟩, ⟨some 20, .mov (.t 23), none⟩]
def c117_3 : List LOper := [⟨some 24, .mov (.t 0), none⟩, ⟨some 25, .nilck (.t 24), none⟩, ⟨some 26, .faddr 27 (.t 25), none⟩, ⟨none, .store 1 (.t 26) (.c (.int .i64 8)), none⟩]
def c117_4 : List LOper := [⟨some 4, .mov (.t 0), none⟩, ⟨some 5, .mov (.t 0), none⟩, ⟨some 6, .nilck (.t 5), none⟩, ⟨some 7, .faddr 26 (.t 6), none⟩, ⟨some 8, .load false 1 (.t 7), none⟩, ⟨some 9, .load true 8 (.t 3), none⟩, ⟨some 10, .bslice 1 8 55 [.int .i64 0, .int .i64 0, .int .i64 0, .int .i64 0, .int .i64 0, .int .i64 0, .int .i64 0, .int .i64 0] [(0, 8, (.t 9))], none⟩, ⟨some 11, .app 8 64 55 [.int .i64 0, .int .i64 0, .int .i64 0, .int .i64 0, .int .i64 0, .int .i64 0, .int .i64 0, .int .i64 0] (.t 8) (.t 10), none⟩, ⟨some 12, .nilck (.t 4), none⟩, ⟨some 13, .faddr 26 (.t 12), none⟩, ⟨none, .store 1 (.t 13) (.t 11), none⟩]
def lc117 : LC := (.seq (.reg false c117_0) (.blk 0 (.seq (.reg false c117_1) (.cond (.t 14) .skip (.seq (.reg false c117_2) (.cond (.t 20) (.reg false c117_3) (.reg true c117_4)))))))
def lf117 : LFunc := ⟨2, [], false, lc117⟩
def hi117 : Hints := ⟨[], [none, none, none], []⟩
theorem lf117_ok : compF Try.prog hi117 false Try.f117 = some lf117 := by kernel_rfl

/-! (*additive/emit.emitter).fast -/
def c118_0 : List LOper := [⟨some 4, .box (.t 1), none⟩, ⟨some 6, .alloc [.int .i64 0, .int .i64 0, .int .i64 0, .int .i64 0, .int .i64 0, .int .i64 0, .int .i64 0, .int .i64 0], none⟩]
def c118_1 : List LOper := [⟨some 7, .mov (.t 0), none⟩, ⟨some 8, .nilck (.t 7), none⟩, ⟨some 9, .faddr 25 (.t 8), none⟩, ⟨some 10, .load false 1 (.t 9), none⟩, ⟨some 11, .un .not (.t 10), none⟩, ⟨some 12, .mov (.t 11), none⟩, ⟨some 13, .mov (.t 2), some (12, false)⟩, ⟨some 14, .mov (.t 0), some (12, false)⟩, ⟨some 15, .nilck (.t 14), some (12, false)⟩, ⟨some 16, .faddr 24 (.t 15), some (12, false)⟩, ⟨some 17, .load false 1 (.t 16), some (12, false)⟩, ⟨some 18, .ibin .neq (.t 13) (.t 17), some (12, false)⟩, ⟨some 19, .pick (.t 12) (.c (.bool true)) (.t 18), none⟩]
def c118_2 : List LOper := [⟨some 20, .faddr 1 (.t 4), none⟩, ⟨some 21, .load false 1 (.t 20), none⟩, ⟨some 22, .ibin .or (.t 21) (.c (.int .i64 16)), none⟩, ⟨some 23, .faddr 1 (.t 4), none⟩, ⟨none, .store 1 (.t 23) (.t 22), none⟩]
def c118_3 : List LOper := [⟨some 24, .mov (.t 2), none⟩, ⟨some 25, .faddr 6 (.t 4), none⟩, ⟨none, .store 1 (.t 25) (.t 24), none⟩]
def c118_4 : List LOper := [⟨some 26, .mov (.t 0), none⟩, ⟨some 27, .mov (.t 2), none⟩, ⟨some 28, .nilck (.t 26), none⟩, ⟨some 29, .faddr 24 (.t 28), none⟩, ⟨none, .store 1 (.t 29) (.t 27), none⟩]
def c118_5 : List LOper := [⟨some 30, .mov (.t 0), none⟩, ⟨some 31, .nilck (.t 30), none⟩, ⟨some 32, .faddr 25 (.t 31), none⟩, ⟨none, .store 1 (.t 32) (.c (.bool true)), none⟩]
def c118_6 : List LOper := [⟨some 33, .load true 8 (.t 4), none⟩, ⟨none, .store 8 (.t 6) (.t 33), none⟩]
def lc118 : LC := (.seq (.reg false c118_0) (.seq (.seq (.reg false c118_1) (.cond (.t 19) (.seq (.reg false c118_2) (.seq (.reg false c118_3) (.seq (.reg false c118_4) (.reg false c118_5)))) .skip)) (.seq (.reg false c118_6) .ret)))
def lf118 : LFunc := ⟨3, [.cell 6 true 8], false, lc118⟩
def hi118 : Hints := ⟨[], [none, none, none, none, none, none, none, none], []⟩
theorem lf118_ok : compF Try.prog hi118 false Try.f118 = some lf118 := by kernel_rfl

/-! (*additive/emit.emitter).moves -/
def c119_0 : List LOper := [⟨some 3, .box (.t 1), none⟩, ⟨some 4, .mov (.c (.bool false)), none⟩]
def c119_1 : List LOper := [⟨some 5, .faddr 5 (.t 3), none⟩, ⟨some 6, .load false 1 (.t 5), none⟩, ⟨some 7, .len (.t 6), none⟩, ⟨some 8, .ibin .eql (.t 7) (.c (.int .i64 0)), none⟩]
def c119_2 : List LOper := [⟨some 4, .mov (.c (.bool false)), none⟩]
def c119_3 : List LOper := [⟨some 9, .faddr 4 (.t 3), none⟩, ⟨some 10, .load false 1 (.t 9), none⟩, ⟨some 11, .ibin .lss (.t 10) (.c (.int .i64 1)), none⟩, ⟨some 12, .mov (.t 11), none⟩, ⟨some 13, .faddr 4 (.t 3), some (12, false)⟩, ⟨some 14, .load false 1 (.t 13), some (12, false)⟩, ⟨some 15, .ibin .gtr (.t 14) (.c (.int .i64 1048576)), some (12, false)⟩, ⟨some 16, .pick (.t 12) (.c (.bool true)) (.t 15), none⟩]
def c119_4 : List LOper := [⟨some 17, .mov (.t 0), none⟩, ⟨some 18, .nilck (.t 17), none⟩, ⟨some 19, .faddr 27 (.t 18), none⟩, ⟨none, .store 1 (.t 19) (.c (.int .i64 8)), none⟩]
def c119_5 : List LOper := [⟨some 4, .mov (.c (.bool false)), none⟩]
def c119_6 : List LOper := [⟨some 4, .mov (.c (.bool true)), none⟩]
def lc119 : LC := (.seq (.reg false c119_0) (.seq (.seq (.reg false c119_1) (.cond (.t 8) (.seq (.reg false c119_2) .ret) .skip)) (.seq (.seq (.reg false c119_3) (.cond (.t 16) (.seq (.reg false c119_4) (.seq (.reg false c119_5) .ret)) .skip)) (.seq (.reg false c119_6) .ret))))
def lf119 : LFunc := ⟨2, [.tmp 4], false, lc119⟩
def hi119 : Hints := ⟨[], [none, none, none, none, none, none, none, none, none, none, none, none], []⟩
theorem lf119_ok : compF Try.prog hi119 false Try.f119 = some lf119 := by kernel_rfl

/-! (*additive/emit.emitter).to -/
def c120_0 : List LOper := [⟨some 5, .box (.t 2), none⟩, ⟨some 6, .alloc [.int .i64 0, .int .i64 0, .int .i64 0, .int .i64 0, .int .i64 0, .int .i64 0, .int .i64 0, .int .i64 0], none⟩]
def c120_1 : List LOper := [⟨some 8, .load true 2 (.t 5), none⟩, ⟨some 9, .mov (.t 0), none⟩, ⟨some 10, .nilck (.t 9), none⟩, ⟨some 11, .faddr 0 (.t 10), none⟩, ⟨some 12, .faddr 0 (.t 11), none⟩, ⟨some 13, .load false 1 (.t 12), none⟩, ⟨some 14, .callp 126 [(.t 8), (.t 13)], none⟩, ⟨some 7, .alloc [.int .i64 0, .int .i64 0], none⟩, ⟨none, .store 2 (.t 7) (.t 14), none⟩]
def c120_2 : List LOper := [⟨some 15, .mov (.t 1), none⟩, ⟨some 16, .faddr 0 (.t 7), none⟩, ⟨some 17, .load false 1 (.t 16), none⟩, ⟨some 18, .faddr 1 (.t 7), none⟩, ⟨some 19, .load false 1 (.t 18), none⟩, ⟨some 20, .build [.int .i64 0, .int .i64 0, .int .i64 0, .int .i64 0, .int .i64 0, .int .i64 0, .int .i64 0, .int .i64 0] [(0, 1, (.t 15)), (1, 1, (.c (.int .i64 3))), (2, 1, (.t 17)), (3, 1, (.t 19))], none⟩, ⟨none, .store 8 (.t 6) (.t 20), none⟩]
def lc120 : LC := (.seq (.reg false c120_0) (.seq (.reg true c120_1) (.seq (.reg false c120_2) .ret)))
def lf120 : LFunc := ⟨3, [.cell 6 true 8], true, lc120⟩
def hi120 : Hints := ⟨[], [none, none, none, none], []⟩
theorem lf120_ok : compF Try.prog hi120 true Try.f120 = some lf120 := by kernel_rfl

/-! (*additive/emit.emitter).filament -/
def c121_0 : List LOper := [⟨some 4, .mov (.c (.int .i64 0)), none⟩]
def c121_1 : List LOper := [⟨some 5, .mov (.t 0), none⟩, ⟨some 6, .nilck (.t 5), none⟩, ⟨some 7, .faddr 21 (.t 6), none⟩, ⟨some 8, .load false 1 (.t 7), none⟩, ⟨some 9, .mov (.t 1), none⟩, ⟨some 10, .ibin .add (.t 8) (.t 9), none⟩, ⟨some 11, .mov (.t 0), none⟩, ⟨some 12, .nilck (.t 11), none⟩, ⟨some 13, .faddr 0 (.t 12), none⟩, ⟨some 14, .load true 20 (.t 13), none⟩, ⟨some 15, .callp 99 [(.t 10), (.t 14)], none⟩, ⟨some 16, .mov (.t 0), none⟩, ⟨some 17, .nilck (.t 16), none⟩, ⟨some 18, .faddr 0 (.t 17), none⟩, ⟨some 19, .faddr 12 (.t 18), none⟩, ⟨some 20, .load false 1 (.t 19), none⟩, ⟨some 21, .ibin .quo (.t 15) (.t 20), none⟩, ⟨some 4, .mov (.t 21), none⟩]
def lc121 : LC := (.seq (.reg false c121_0) (.seq (.reg true c121_1) .ret))
def lf121 : LFunc := ⟨2, [.tmp 4], true, lc121⟩
def hi121 : Hints := ⟨[], [none, none, none], []⟩
theorem lf121_ok : compF Try.prog hi121 true Try.f121 = some lf121 := by kernel_rfl

/-! (*additive/additiveref40.state).amount -/
def c122_0 : List LOper := [⟨some 4, .mov (.c (.int .i64 0)), none⟩]
def c122_1 : List LOper := [⟨some 5, .mov (.t 0), none⟩, ⟨some 6, .nilck (.t 5), none⟩, ⟨some 7, .faddr 22 (.t 6), none⟩, ⟨some 8, .load false 1 (.t 7), none⟩, ⟨some 9, .mov (.t 1), none⟩, ⟨some 10, .ibin .add (.t 8) (.t 9), none⟩, ⟨some 11, .mov (.t 0), none⟩, ⟨some 12, .nilck (.t 11), none⟩, ⟨some 13, .faddr 0 (.t 12), none⟩, ⟨some 14, .load true 20 (.t 13), none⟩, ⟨some 15, .callp 82 [(.t 10), (.t 14)], none⟩, ⟨some 16, .mov (.t 0), none⟩, ⟨some 17, .nilck (.t 16), none⟩, ⟨some 18, .faddr 0 (.t 17), none⟩, ⟨some 19, .faddr 12 (.t 18), none⟩, ⟨some 20, .load false 1 (.t 19), none⟩, ⟨some 21, .ibin .quo (.t 15) (.t 20), none⟩, ⟨some 4, .mov (.t 21), none⟩]
def lc122 : LC := (.seq (.reg false c122_0) (.seq (.reg true c122_1) .ret))
def lf122 : LFunc := ⟨2, [.tmp 4], true, lc122⟩
def hi122 : Hints := ⟨[], [none, none, none], []⟩
theorem lf122_ok : compF Try.prog hi122 true Try.f122 = some lf122 := by kernel_rfl

/-! (*additive/additiveref40.state).move -/
def c123_0 : List LOper := [⟨some 5, .box (.t 1), none⟩]
def c123_1 : List LOper := [⟨some 12, .mov (.t 2), none⟩, ⟨some 13, .mov (.t 0), none⟩, ⟨some 14, .nilck (.t 13), none⟩, ⟨some 15, .faddr 20 (.t 14), none⟩, ⟨some 16, .load true 2 (.t 15), none⟩, ⟨some 17, .callz 86 [(.t 12), (.t 16)], none⟩, ⟨some 8, .mov (.t 17), none⟩]
def c123_2 : List LOper := [⟨some 9, .mov (.c (.int .i64 0)), none⟩]
def c123_3 : List LOper := [⟨some 18, .mov (.t 9), none⟩, ⟨some 19, .mov (.t 8), none⟩, ⟨some 20, .len (.t 19), none⟩, ⟨some 21, .ibin .lss (.t 18) (.t 20), none⟩]
def c123_4 : List LOper := [⟨some 24, .mov (.t 2), none⟩, ⟨some 25, .mov (.t 8), none⟩, ⟨some 26, .mov (.t 9), none⟩, ⟨some 27, .iaddr 1 (.t 25) (.t 26), none⟩, ⟨some 28, .load false 1 (.t 27), none⟩, ⟨some 29, .iaddr 2 (.t 24) (.t 28), none⟩, ⟨some 30, .load true 2 (.t 29), none⟩, ⟨some 31, .mov (.t 0), none⟩, ⟨some 32, .nilck (.t 31), none⟩, ⟨some 33, .faddr 0 (.t 32), none⟩, ⟨some 34, .faddr 0 (.t 33), none⟩, ⟨some 35, .load false 1 (.t 34), none⟩, ⟨some 36, .callp 127 [(.t 30), (.t 35)], none⟩, ⟨some 10, .alloc [.int .i64 0, .int .i64 0], none⟩, ⟨none, .store 2 (.t 10) (.t 36), none⟩]
def c123_5 : List LOper := [⟨some 37, .faddr 0 (.t 10), none⟩, ⟨some 38, .load false 1 (.t 37), none⟩, ⟨some 39, .faddr 1 (.t 10), none⟩, ⟨some 40, .load false 1 (.t 39), none⟩, ⟨some 41, .build [.int .i64 0, .int .i64 0, .int .i64 0, .int .i64 0, .int .i64 0, .int .i64 0, .int .i64 0, .int .i64 0] [(0, 1, (.c (.int .i64 0))), (1, 1, (.c (.int .i64 3))), (2, 1, (.t 38)), (3, 1, (.t 40))], none⟩, ⟨some 11, .alloc [.int .i64 0, .int .i64 0, .int .i64 0, .int .i64 0, .int .i64 0, .int .i64 0, .int .i64 0, .int .i64 0], none⟩, ⟨none, .store 8 (.t 11) (.t 41), none⟩]
def c123_6 : List LOper := [⟨some 42, .faddr 0 (.t 5), none⟩, ⟨some 43, .load false 1 (.t 42), none⟩, ⟨some 44, .ibin .eql (.t 43) (.c (.int .i64 3)), none⟩]
def c123_7 : List LOper := [⟨some 45, .faddr 0 (.t 11), none⟩, ⟨none, .store 1 (.t 45) (.c (.int .i64 1)), none⟩]
def c123_8 : List LOper := [⟨some 46, .faddr 1 (.t 11), none⟩, ⟨some 47, .load false 1 (.t 46), none⟩, ⟨some 48, .ibin .add (.t 47) (.c (.int .i64 8)), none⟩, ⟨some 49, .faddr 1 (.t 11), none⟩, ⟨none, .store 1 (.t 49) (.t 48), none⟩]
def c123_9 : List LOper := [⟨some 50, .mov (.t 0), none⟩, ⟨some 51, .mov (.t 3), none⟩, ⟨some 52, .mov (.t 8), none⟩, ⟨some 53, .mov (.t 9), none⟩, ⟨some 54, .iaddr 1 (.t 52) (.t 53), none⟩, ⟨some 55, .load false 1 (.t 54), none⟩, ⟨some 56, .ibin .add (.t 51) (.t 55), none⟩, ⟨some 57, .ibin .add (.t 56) (.c (.int .i64 1)), none⟩, ⟨some 58, .callq 122 [(.t 50), (.t 57)], none⟩, ⟨some 59, .faddr 5 (.t 11), none⟩, ⟨none, .store 1 (.t 59) (.t 58), none⟩]
def c123_10 : List LOper := [⟨some 60, .mov (.t 0), none⟩, ⟨some 61, .load true 8 (.t 11), none⟩, ⟨some 62, .faddr 4 (.t 5), none⟩, ⟨some 63, .load false 1 (.t 62), none⟩, ⟨some 64, .mov (.t 0), none⟩, ⟨some 65, .nilck (.t 64), none⟩, ⟨some 66, .faddr 0 (.t 65), none⟩, ⟨some 67, .faddr 0 (.t 66), none⟩, ⟨some 68, .load false 1 (.t 67), none⟩, ⟨some 69, .ibin .mul (.t 63) (.t 68), none⟩, ⟨some 70, .callr 106 [(.t 60), (.t 61), (.t 69)], none⟩]
def c123_11 : List LOper := [⟨some 22, .mov (.t 9), none⟩, ⟨some 23, .ibin .add (.t 22) (.c (.int .i64 1)), none⟩, ⟨some 9, .mov (.t 23), none⟩]
def c123_L0 : LC := (.seq (.seq (.reg false c123_3) (.cond (.t 21) .skip (.seq (.trim []) (.exit 0)))) (.seq (.blk 1 (.seq (.reg true c123_4) (.seq (.reg false c123_5) (.seq (.seq (.reg false c123_6) (.cond (.t 44) (.seq (.reg false c123_7) (.seq (.reg false c123_8) (.reg false c123_9))) .skip)) (.reg true c123_10))))) (.reg false c123_11)))
def lc123 : LC := (.seq (.reg false c123_0) (.seq (.reg false c123_1) (.seq (.reg false c123_2) (.blk 0 (.loop [0, 2, 3, 5, 8, 9] c123_L0)))))
def lf123 : LFunc := ⟨4, [], false, lc123⟩
def hi123 : Hints := ⟨[(17, .z), (58, .q), (70, .r)], [none, none, none, some [0, 2, 3, 5, 8, 9], none, some [], none, none, none, none, none, none, none, none], []⟩
theorem lf123_ok : compF Try.prog hi123 false Try.f123 = some lf123 := by kernel_rfl

/-! additive/flow.even -/
def c124_0 : List LOper := [⟨some 6, .mov (.c (.bool false)), none⟩]
def c124_1 : List LOper := [⟨some 7, .mov (.t 0), none⟩, ⟨some 8, .mov (.t 1), none⟩, ⟨some 9, .mov (.t 2), none⟩, ⟨some 10, .callp 116 [(.t 7), (.t 8), (.t 9)], none⟩, ⟨some 11, .mov (.t 10), none⟩, ⟨some 12, .mov (.t 0), some (11, true)⟩, ⟨some 13, .ibin .rem (.t 12) (.c (.int .i64 2)), some (11, true)⟩, ⟨some 14, .ibin .eql (.t 13) (.c (.int .i64 0)), some (11, true)⟩, ⟨some 15, .pick (.t 11) (.t 14) (.c (.bool false)), none⟩, ⟨some 6, .mov (.t 15), none⟩]
def lc124 : LC := (.seq (.reg false c124_0) (.seq (.reg false c124_1) .ret))
def lf124 : LFunc := ⟨3, [.tmp 6], true, lc124⟩
def hi124 : Hints := ⟨[], [none, none, none], []⟩
theorem lf124_ok : compF Try.prog hi124 true Try.f124 = some lf124 := by kernel_rfl

/-! additive/gcode.Valid -/
def c125_0 : List LOper := [⟨some 1, .box (.t 0), none⟩, ⟨some 2, .mov (.c (.bool false)), none⟩]
def c125_1 : List LOper := [⟨some 11, .faddr 0 (.t 1), none⟩, ⟨some 12, .load false 1 (.t 11), none⟩, ⟨some 13, .callp 128 [(.t 12)], none⟩, ⟨some 10, .mov (.t 13), none⟩, ⟨some 14, .ext (.t 10) 0, none⟩, ⟨some 15, .ext (.t 10) 1, none⟩, ⟨some 16, .ext (.t 10) 2, none⟩, ⟨some 3, .mov (.t 14), none⟩, ⟨some 4, .mov (.t 15), none⟩, ⟨some 5, .mov (.t 16), none⟩]
def c125_2 : List LOper := [⟨some 17, .mov (.t 5), none⟩, ⟨some 18, .un .not (.t 17), none⟩, ⟨some 19, .mov (.t 18), none⟩, ⟨some 20, .faddr 1 (.t 1), some (19, false)⟩, ⟨some 21, .load false 1 (.t 20), some (19, false)⟩, ⟨some 22, .mov (.t 3), some (19, false)⟩, ⟨some 23, .ibin .andNot (.t 21) (.t 22), some (19, false)⟩, ⟨some 24, .ibin .neq (.t 23) (.c (.int .i64 0)), some (19, false)⟩, ⟨some 25, .pick (.t 19) (.c (.bool true)) (.t 24), none⟩, ⟨some 26, .mov (.t 25), none⟩, ⟨some 27, .mov (.t 4), some (26, false)⟩, ⟨some 28, .mov (.t 27), some (26, false)⟩, ⟨some 29, .faddr 1 (.t 1), some (28, true)⟩, ⟨some 30, .load false 1 (.t 29), some (28, true)⟩, ⟨some 31, .mov (.t 3), some (28, true)⟩, ⟨some 32, .ibin .neq (.t 30) (.t 31), some (28, true)⟩, ⟨some 33, .pick (.t 28) (.t 32) (.c (.bool false)), some (26, false)⟩, ⟨some 34, .pick (.t 26) (.c (.bool true)) (.t 33), none⟩]
def c125_3 : List LOper := [⟨some 2, .mov (.c (.bool false)), none⟩]
def c125_4 : List LOper := [⟨some 35, .mov (.c (.int .i64 0)), none⟩]
def c125_5 : List LOper := [⟨some 36, .ibin .lss (.t 35) (.c (.int .i64 6)), none⟩]
def c125_6 : List LOper := [⟨some 37, .mov (.t 35), none⟩, ⟨some 6, .mov (.t 37), none⟩]
def c125_7 : List LOper := [⟨some 38, .mov (.t 6), none⟩, ⟨some 39, .callr 129 [(.t 1), (.t 38)], none⟩, ⟨some 40, .nilck (.t 39), none⟩, ⟨some 41, .load false 1 (.t 40), none⟩, ⟨some 7, .mov (.t 41), none⟩]
def c125_8 : List LOper := [⟨some 43, .faddr 0 (.t 1), none⟩, ⟨some 44, .load false 1 (.t 43), none⟩, ⟨some 45, .mov (.t 6), none⟩, ⟨some 46, .callp 130 [(.t 44), (.t 45)], none⟩, ⟨some 42, .mov (.t 46), none⟩, ⟨some 47, .ext (.t 42) 0, none⟩, ⟨some 48, .ext (.t 42) 1, none⟩, ⟨some 8, .mov (.t 47), none⟩, ⟨some 9, .mov (.t 48), none⟩]
def c125_9 : List LOper := [⟨some 49, .faddr 1 (.t 1), none⟩, ⟨some 50, .load false 1 (.t 49), none⟩, ⟨some 51, .mov (.t 6), none⟩, ⟨some 52, .shf .shr (.t 50) (.t 51), none⟩, ⟨some 53, .ibin .and (.t 52) (.c (.int .i64 1)), none⟩, ⟨some 54, .ibin .eql (.t 53) (.c (.int .i64 0)), none⟩]
def c125_10 : List LOper := [⟨some 8, .mov (.c (.int .i64 0)), none⟩, ⟨some 9, .mov (.c (.int .i64 0)), none⟩]
def c125_11 : List LOper := [⟨some 55, .mov (.t 7), none⟩, ⟨some 56, .mov (.t 8), none⟩, ⟨some 57, .ibin .lss (.t 55) (.t 56), none⟩, ⟨some 58, .mov (.t 57), none⟩, ⟨some 59, .mov (.t 7), some (58, false)⟩, ⟨some 60, .mov (.t 9), some (58, false)⟩, ⟨some 61, .ibin .gtr (.t 59) (.t 60), some (58, false)⟩, ⟨some 62, .pick (.t 58) (.c (.bool true)) (.t 61), none⟩]
def c125_12 : List LOper := [⟨some 2, .mov (.c (.bool false)), none⟩]
def c125_13 : List LOper := [⟨some 63, .ibin .add (.t 35) (.c (.int .i64 1)), none⟩, ⟨some 35, .mov (.t 63), none⟩]
def c125_L0 : LC := (.seq (.reg false c125_5) (.seq (.cond (.t 36) .skip (.seq (.trim []) (.exit 0))) (.seq (.blk 1 (.seq (.reg false c125_6) (.seq (.reg false c125_7) (.seq (.reg false c125_8) (.seq (.seq (.reg false c125_9) (.cond (.t 54) (.reg false c125_10) .skip)) (.seq (.reg false c125_11) (.cond (.t 62) (.seq (.reg false c125_12) (.seq (.trim [2]) .ret)) .skip))))))) (.reg false c125_13))))
def c125_15 : List LOper := [⟨some 2, .mov (.c (.bool true)), none⟩]
def lc125 : LC := (.seq (.reg false c125_0) (.seq (.reg false c125_1) (.seq (.seq (.reg false c125_2) (.cond (.t 34) (.seq (.reg false c125_3) .ret) .skip)) (.seq (.seq (.reg false c125_4) (.blk 0 (.loop [1, 35] c125_L0))) (.seq (.reg false c125_15) .ret)))))
def lf125 : LFunc := ⟨1, [.tmp 2], true, lc125⟩
def hi125 : Hints := ⟨[(39, .r)], [none, none, none, none, none, none, none, some [1, 35], none, some [], none, none, none, none, none, none, none, none, some [2], none, none, none, none], []⟩
theorem lf125_ok : compF Try.prog hi125 true Try.f125 = some lf125 := by kernel_rfl

/-! additive/raster.Center -/
def c126_0 : List LOper := [⟨some 2, .box (.t 0), none⟩, ⟨some 4, .alloc [.int .i64 0, .int .i64 0], none⟩]
def c126_1 : List LOper := [⟨some 5, .faddr 0 (.t 2), none⟩, ⟨some 6, .load false 1 (.t 5), none⟩, ⟨some 7, .callp 131 [(.t 6)], none⟩, ⟨some 8, .un .not (.t 7), none⟩, ⟨some 9, .mov (.t 8), none⟩, ⟨some 10, .faddr 1 (.t 2), some (9, false)⟩, ⟨some 11, .load false 1 (.t 10), some (9, false)⟩, ⟨some 12, .callp 131 [(.t 11)], some (9, false)⟩, ⟨some 13, .un .not (.t 12), some (9, false)⟩, ⟨some 14, .pick (.t 9) (.c (.bool true)) (.t 13), none⟩, ⟨some 15, .mov (.t 14), none⟩, ⟨some 16, .mov (.t 1), some (15, false)⟩, ⟨some 17, .ibin .lss (.t 16) (.c (.int .i64 32)), some (15, false)⟩, ⟨some 18, .pick (.t 15) (.c (.bool true)) (.t 17), none⟩, ⟨some 19, .mov (.t 18), none⟩, ⟨some 20, .mov (.t 1), some (19, false)⟩, ⟨some 21, .ibin .gtr (.t 20) (.c (.int .i64 1024)), some (19, false)⟩, ⟨some 22, .pick (.t 19) (.c (.bool true)) (.t 21), none⟩]
def c126_2 : List LOper := [⟨some 23, .build [.int .i64 0, .int .i64 0] [], none⟩, ⟨none, .store 2 (.t 4) (.t 23), none⟩]
def c126_3 : List LOper := [⟨some 24, .faddr 0 (.t 2), none⟩, ⟨some 25, .load false 1 (.t 24), none⟩, ⟨some 26, .mov (.t 1), none⟩, ⟨some 27, .callp 132 [(.t 25), (.t 26)], none⟩, ⟨some 28, .faddr 1 (.t 2), none⟩, ⟨some 29, .load false 1 (.t 28), none⟩, ⟨some 30, .mov (.t 1), none⟩, ⟨some 31, .callp 132 [(.t 29), (.t 30)], none⟩, ⟨some 32, .build [.int .i64 0, .int .i64 0] [(0, 1, (.t 27)), (1, 1, (.t 31))], none⟩, ⟨none, .store 2 (.t 4) (.t 32), none⟩]
def lc126 : LC := (.seq (.reg false c126_0) (.seq (.seq (.reg false c126_1) (.cond (.t 22) (.seq (.reg false c126_2) .ret) .skip)) (.seq (.reg true c126_3) .ret)))
def lf126 : LFunc := ⟨2, [.cell 4 true 2], true, lc126⟩
def hi126 : Hints := ⟨[], [none, none, none, none, none, none, none], []⟩
theorem lf126_ok : compF Try.prog hi126 true Try.f126 = some lf126 := by kernel_rfl

/-! additive/additiveref19.Center -/
def c127_0 : List LOper := [⟨some 2, .box (.t 0), none⟩, ⟨some 4, .alloc [.int .i64 0, .int .i64 0], none⟩]
def c127_1 : List LOper := [⟨some 5, .faddr 0 (.t 2), none⟩, ⟨some 6, .load false 1 (.t 5), none⟩, ⟨some 7, .ibin .lss (.t 6) (.c (.int .i64 (-4096))), none⟩, ⟨some 8, .mov (.t 7), none⟩, ⟨some 9, .faddr 0 (.t 2), some (8, false)⟩, ⟨some 10, .load false 1 (.t 9), some (8, false)⟩, ⟨some 11, .ibin .geq (.t 10) (.c (.int .i64 4096)), some (8, false)⟩, ⟨some 12, .pick (.t 8) (.c (.bool true)) (.t 11), none⟩, ⟨some 13, .mov (.t 12), none⟩, ⟨some 14, .faddr 1 (.t 2), some (13, false)⟩, ⟨some 15, .load false 1 (.t 14), some (13, false)⟩, ⟨some 16, .ibin .lss (.t 15) (.c (.int .i64 (-4096))), some (13, false)⟩, ⟨some 17, .pick (.t 13) (.c (.bool true)) (.t 16), none⟩, ⟨some 18, .mov (.t 17), none⟩, ⟨some 19, .faddr 1 (.t 2), some (18, false)⟩, ⟨some 20, .load false 1 (.t 19), some (18, false)⟩, ⟨some 21, .ibin .geq (.t 20) (.c (.int .i64 4096)), some (18, false)⟩, ⟨some 22, .pick (.t 18) (.c (.bool true)) (.t 21), none⟩, ⟨some 23, .mov (.t 22), none⟩, ⟨some 24, .mov (.t 1), some (23, false)⟩, ⟨some 25, .ibin .lss (.t 24) (.c (.int .i64 32)), some (23, false)⟩, ⟨some 26, .pick (.t 23) (.c (.bool true)) (.t 25), none⟩, ⟨some 27, .mov (.t 26), none⟩, ⟨some 28, .mov (.t 1), some (27, false)⟩, ⟨some 29, .ibin .gtr (.t 28) (.c (.int .i64 1024)), some (27, false)⟩, ⟨some 30, .pick (.t 27) (.c (.bool true)) (.t 29), none⟩]
def c127_2 : List LOper := [⟨some 31, .build [.int .i64 0, .int .i64 0] [], none⟩, ⟨none, .store 2 (.t 4) (.t 31), none⟩]
def c127_3 : List LOper := [⟨some 32, .faddr 0 (.t 2), none⟩, ⟨some 33, .load false 1 (.t 32), none⟩, ⟨some 34, .mov (.t 1), none⟩, ⟨some 35, .ibin .mul (.t 33) (.t 34), none⟩, ⟨some 36, .mov (.t 1), none⟩, ⟨some 37, .ibin .quo (.t 36) (.c (.int .i64 2)), none⟩, ⟨some 38, .ibin .add (.t 35) (.t 37), none⟩, ⟨some 39, .faddr 1 (.t 2), none⟩, ⟨some 40, .load false 1 (.t 39), none⟩, ⟨some 41, .mov (.t 1), none⟩, ⟨some 42, .ibin .mul (.t 40) (.t 41), none⟩, ⟨some 43, .mov (.t 1), none⟩, ⟨some 44, .ibin .quo (.t 43) (.c (.int .i64 2)), none⟩, ⟨some 45, .ibin .add (.t 42) (.t 44), none⟩, ⟨some 46, .build [.int .i64 0, .int .i64 0] [(0, 1, (.t 38)), (1, 1, (.t 45))], none⟩, ⟨none, .store 2 (.t 4) (.t 46), none⟩]
def lc127 : LC := (.seq (.reg false c127_0) (.seq (.seq (.reg false c127_1) (.cond (.t 30) (.seq (.reg false c127_2) .ret) .skip)) (.seq (.reg false c127_3) .ret)))
def lf127 : LFunc := ⟨2, [.cell 4 true 2], true, lc127⟩
def hi127 : Hints := ⟨[], [none, none, none, none, none, none, none], []⟩
theorem lf127_ok : compF Try.prog hi127 true Try.f127 = some lf127 := by kernel_rfl

/-! additive/gcode.words -/
def c128_0 : List LOper := [⟨some 2, .mov (.c (.int .i64 0)), none⟩, ⟨some 3, .mov (.c (.bool false)), none⟩, ⟨some 4, .mov (.c (.bool false)), none⟩]
def c128_1 : List LOper := [⟨some 5, .mov (.t 0), none⟩]
def c128_2 : List LOper := [⟨some 7, .ibin .eql (.t 5) (.c (.int .i64 0)), none⟩, ⟨some 6, .mov (.t 7), none⟩]
def c128_3 : List LOper := [⟨some 2, .mov (.c (.int .i64 23)), none⟩, ⟨some 3, .mov (.c (.bool false)), none⟩, ⟨some 4, .mov (.c (.bool true)), none⟩]
def c128_4 : List LOper := [⟨some 9, .ibin .eql (.t 5) (.c (.int .i64 1)), none⟩, ⟨some 8, .mov (.t 9), none⟩]
def c128_5 : List LOper := [⟨some 2, .mov (.c (.int .i64 31)), none⟩, ⟨some 3, .mov (.c (.bool false)), none⟩, ⟨some 4, .mov (.c (.bool true)), none⟩]
def c128_6 : List LOper := [⟨some 11, .ibin .eql (.t 5) (.c (.int .i64 4)), none⟩, ⟨some 10, .mov (.t 11), none⟩]
def c128_7 : List LOper := [⟨some 12, .ibin .eql (.t 5) (.c (.int .i64 1104)), none⟩, ⟨some 10, .mov (.t 12), none⟩]
def c128_8 : List LOper := [⟨some 13, .ibin .eql (.t 5) (.c (.int .i64 1109)), none⟩, ⟨some 10, .mov (.t 13), none⟩]
def c128_9 : List LOper := [⟨some 14, .ibin .eql (.t 5) (.c (.int .i64 1140)), none⟩, ⟨some 10, .mov (.t 14), none⟩]
def c128_10 : List LOper := [⟨some 15, .ibin .eql (.t 5) (.c (.int .i64 1190)), none⟩, ⟨some 10, .mov (.t 15), none⟩]
def c128_11 : List LOper := [⟨some 16, .ibin .eql (.t 5) (.c (.int .i64 1106)), none⟩, ⟨some 10, .mov (.t 16), none⟩]
def c128_12 : List LOper := [⟨some 2, .mov (.c (.int .i64 32)), none⟩, ⟨some 3, .mov (.c (.bool true)), none⟩, ⟨some 4, .mov (.c (.bool true)), none⟩]
def c128_13 : List LOper := [⟨some 18, .ibin .eql (.t 5) (.c (.int .i64 28)), none⟩, ⟨some 17, .mov (.t 18), none⟩]
def c128_14 : List LOper := [⟨some 19, .ibin .eql (.t 5) (.c (.int .i64 1024)), none⟩, ⟨some 17, .mov (.t 19), none⟩]
def c128_15 : List LOper := [⟨some 20, .ibin .eql (.t 5) (.c (.int .i64 1025)), none⟩, ⟨some 17, .mov (.t 20), none⟩]
def c128_16 : List LOper := [⟨some 21, .ibin .eql (.t 5) (.c (.int .i64 1107)), none⟩, ⟨some 17, .mov (.t 21), none⟩]
def c128_17 : List LOper := [⟨some 22, .ibin .eql (.t 5) (.c (.int .i64 1112)), none⟩, ⟨some 17, .mov (.t 22), none⟩]
def c128_18 : List LOper := [⟨some 23, .ibin .eql (.t 5) (.c (.int .i64 1999)), none⟩, ⟨some 17, .mov (.t 23), none⟩]
def c128_19 : List LOper := [⟨some 2, .mov (.c (.int .i64 0)), none⟩, ⟨some 3, .mov (.c (.bool true)), none⟩, ⟨some 4, .mov (.c (.bool true)), none⟩]
def c128_20 : List LOper := [⟨some 2, .mov (.c (.int .i64 0)), none⟩, ⟨some 3, .mov (.c (.bool false)), none⟩, ⟨some 4, .mov (.c (.bool false)), none⟩]
def lc128 : LC := (.seq (.reg false c128_0) (.seq (.seq (.reg false c128_1) (.blk 0 (.seq (.reg false c128_2) (.cond (.t 6) (.seq (.reg false c128_3) .ret) (.seq (.reg false c128_4) (.cond (.t 8) (.seq (.reg false c128_5) .ret) (.seq (.seq (.reg false c128_6) (.cond (.t 10) .skip (.seq (.reg false c128_7) (.cond (.t 10) .skip (.seq (.reg false c128_8) (.cond (.t 10) .skip (.seq (.reg false c128_9) (.cond (.t 10) .skip (.seq (.reg false c128_10) (.cond (.t 10) .skip (.reg false c128_11))))))))))) (.cond (.t 10) (.seq (.reg false c128_12) .ret) (.seq (.seq (.reg false c128_13) (.cond (.t 17) .skip (.seq (.reg false c128_14) (.cond (.t 17) .skip (.seq (.reg false c128_15) (.cond (.t 17) .skip (.seq (.reg false c128_16) (.cond (.t 17) .skip (.seq (.reg false c128_17) (.cond (.t 17) .skip (.reg false c128_18))))))))))) (.cond (.t 17) (.seq (.reg false c128_19) .ret) .skip)))))))))) (.seq (.reg false c128_20) .ret)))
def lf128 : LFunc := ⟨1, [.tmp 2, .tmp 3, .tmp 4], true, lc128⟩
def hi128 : Hints := ⟨[], [none, none, none, none, none, none, none, none, none, none, none, none, none, none, none, none, none, none, none, none, none, none, none, none, none, none, none], []⟩
theorem lf128_ok : compF Try.prog hi128 true Try.f128 = some lf128 := by kernel_rfl

/-! additive/gcode.field -/
def c129_0 : List LOper := [⟨some 4, .mov (.c (.nilp)), none⟩]
def c129_1 : List LOper := [⟨some 5, .mov (.t 1), none⟩]
def c129_2 : List LOper := [⟨some 7, .ibin .eql (.t 5) (.c (.int .i64 0)), none⟩, ⟨some 6, .mov (.t 7), none⟩]
def c129_3 : List LOper := [⟨some 8, .mov (.t 0), none⟩, ⟨some 9, .nilck (.t 8), none⟩, ⟨some 10, .faddr 2 (.t 9), none⟩, ⟨some 4, .mov (.t 10), none⟩]
def c129_4 : List LOper := [⟨some 12, .ibin .eql (.t 5) (.c (.int .i64 1)), none⟩, ⟨some 11, .mov (.t 12), none⟩]
def c129_5 : List LOper := [⟨some 13, .mov (.t 0), none⟩, ⟨some 14, .nilck (.t 13), none⟩, ⟨some 15, .faddr 3 (.t 14), none⟩, ⟨some 4, .mov (.t 15), none⟩]
def c129_6 : List LOper := [⟨some 17, .ibin .eql (.t 5) (.c (.int .i64 2)), none⟩, ⟨some 16, .mov (.t 17), none⟩]
def c129_7 : List LOper := [⟨some 18, .mov (.t 0), none⟩, ⟨some 19, .nilck (.t 18), none⟩, ⟨some 20, .faddr 4 (.t 19), none⟩, ⟨some 4, .mov (.t 20), none⟩]
def c129_8 : List LOper := [⟨some 22, .ibin .eql (.t 5) (.c (.int .i64 3)), none⟩, ⟨some 21, .mov (.t 22), none⟩]
def c129_9 : List LOper := [⟨some 23, .mov (.t 0), none⟩, ⟨some 24, .nilck (.t 23), none⟩, ⟨some 25, .faddr 5 (.t 24), none⟩, ⟨some 4, .mov (.t 25), none⟩]
def c129_10 : List LOper := [⟨some 27, .ibin .eql (.t 5) (.c (.int .i64 4)), none⟩, ⟨some 26, .mov (.t 27), none⟩]
def c129_11 : List LOper := [⟨some 28, .mov (.t 0), none⟩, ⟨some 29, .nilck (.t 28), none⟩, ⟨some 30, .faddr 6 (.t 29), none⟩, ⟨some 4, .mov (.t 30), none⟩]
def c129_12 : List LOper := [⟨some 31, .mov (.t 0), none⟩, ⟨some 32, .nilck (.t 31), none⟩, ⟨some 33, .faddr 7 (.t 32), none⟩, ⟨some 4, .mov (.t 33), none⟩]
def lc129 : LC := (.seq (.reg false c129_0) (.seq (.seq (.reg false c129_1) (.blk 0 (.seq (.reg false c129_2) (.cond (.t 6) (.seq (.reg false c129_3) .ret) (.seq (.reg false c129_4) (.cond (.t 11) (.seq (.reg false c129_5) .ret) (.seq (.reg false c129_6) (.cond (.t 16) (.seq (.reg false c129_7) .ret) (.seq (.reg false c129_8) (.cond (.t 21) (.seq (.reg false c129_9) .ret) (.seq (.reg false c129_10) (.cond (.t 26) (.seq (.reg false c129_11) .ret) .skip)))))))))))) (.seq (.reg false c129_12) .ret)))
def lf129 : LFunc := ⟨2, [.tmp 4], false, lc129⟩
def hi129 : Hints := ⟨[], [none, none, none, none, none, none, none, none, none, none, none, none, none, none, none, none, none, none, none, none], []⟩
theorem lf129_ok : compF Try.prog hi129 false Try.f129 = some lf129 := by kernel_rfl

/-! additive/gcode.span -/
def c130_0 : List LOper := [⟨some 4, .mov (.c (.int .i64 0)), none⟩, ⟨some 5, .mov (.c (.int .i64 0)), none⟩]
def c130_1 : List LOper := [⟨some 7, .mov (.t 1), none⟩, ⟨some 8, .ibin .eql (.t 7) (.c (.int .i64 4)), none⟩, ⟨some 6, .mov (.t 8), none⟩]
def c130_2 : List LOper := [⟨some 4, .mov (.c (.int .i64 1)), none⟩, ⟨some 5, .mov (.c (.int .i64 1048576)), none⟩]
def c130_3 : List LOper := [⟨some 10, .mov (.t 1), none⟩, ⟨some 11, .ibin .neq (.t 10) (.c (.int .i64 5)), none⟩, ⟨some 9, .mov (.t 11), none⟩]
def c130_4 : List LOper := [⟨some 4, .mov (.c (.int .i64 (-1073741824))), none⟩, ⟨some 5, .mov (.c (.int .i64 1073741824)), none⟩]
def c130_5 : List LOper := [⟨some 13, .mov (.t 0), none⟩, ⟨some 14, .ibin .eql (.t 13) (.c (.int .i64 4)), none⟩, ⟨some 12, .mov (.t 14), none⟩]
def c130_6 : List LOper := [⟨some 4, .mov (.c (.int .i64 0)), none⟩, ⟨some 5, .mov (.c (.int .i64 1048576)), none⟩]
def c130_7 : List LOper := [⟨some 16, .mov (.t 0), none⟩, ⟨some 17, .ibin .eql (.t 16) (.c (.int .i64 1106)), none⟩, ⟨some 15, .mov (.t 17), none⟩]
def c130_8 : List LOper := [⟨some 4, .mov (.c (.int .i64 0)), none⟩, ⟨some 5, .mov (.c (.int .i64 255)), none⟩]
def c130_9 : List LOper := [⟨some 4, .mov (.c (.int .i64 0)), none⟩, ⟨some 5, .mov (.c (.int .i64 400000)), none⟩]
def lc130 : LC := (.seq (.reg false c130_0) (.seq (.blk 0 (.seq (.reg false c130_1) (.cond (.t 6) (.seq (.reg false c130_2) .ret) (.seq (.reg false c130_3) (.cond (.t 9) (.seq (.reg false c130_4) .ret) (.seq (.reg false c130_5) (.cond (.t 12) (.seq (.reg false c130_6) .ret) (.seq (.reg false c130_7) (.cond (.t 15) (.seq (.reg false c130_8) .ret) .skip))))))))) (.seq (.reg false c130_9) .ret)))
def lf130 : LFunc := ⟨2, [.tmp 4, .tmp 5], true, lc130⟩
def hi130 : Hints := ⟨[], [none, none, none, none, none, none, none, none, none, none, none, none, none, none, none, none], []⟩
theorem lf130_ok : compF Try.prog hi130 true Try.f130 = some lf130 := by kernel_rfl

/-! additive/raster.onGrid -/
def c131_0 : List LOper := [⟨some 2, .mov (.c (.bool false)), none⟩]
def c131_1 : List LOper := [⟨some 3, .mov (.t 0), none⟩, ⟨some 4, .ibin .geq (.t 3) (.c (.int .i64 (-4096))), none⟩, ⟨some 5, .mov (.t 4), none⟩, ⟨some 6, .mov (.t 0), some (5, true)⟩, ⟨some 7, .ibin .lss (.t 6) (.c (.int .i64 4096)), some (5, true)⟩, ⟨some 8, .pick (.t 5) (.t 7) (.c (.bool false)), none⟩, ⟨some 2, .mov (.t 8), none⟩]
def lc131 : LC := (.seq (.reg false c131_0) (.seq (.reg false c131_1) .ret))
def lf131 : LFunc := ⟨1, [.tmp 2], true, lc131⟩
def hi131 : Hints := ⟨[], [none, none, none], []⟩
theorem lf131_ok : compF Try.prog hi131 true Try.f131 = some lf131 := by kernel_rfl

/-! additive/raster.center -/
def c132_0 : List LOper := [⟨some 4, .mov (.c (.int .i64 0)), none⟩]
def c132_1 : List LOper := [⟨some 5, .mov (.t 0), none⟩, ⟨some 6, .mov (.t 1), none⟩, ⟨some 7, .ibin .mul (.t 5) (.t 6), none⟩, ⟨some 8, .mov (.t 1), none⟩, ⟨some 9, .ibin .quo (.t 8) (.c (.int .i64 2)), none⟩, ⟨some 10, .ibin .add (.t 7) (.t 9), none⟩, ⟨some 4, .mov (.t 10), none⟩]
def lc132 : LC := (.seq (.reg false c132_0) (.seq (.reg false c132_1) .ret))
def lf132 : LFunc := ⟨2, [.tmp 4], true, lc132⟩
def hi132 : Hints := ⟨[], [none, none, none], []⟩
theorem lf132_ok : compF Try.prog hi132 true Try.f132 = some lf132 := by kernel_rfl

def env : Env where
  code := fun f => match f with
    | 11 => some lf11
    | 12 => some lf12
    | 13 => some lf13
    | 14 => some lf14
    | 35 => some lf35
    | 36 => some lf36
    | 37 => some lf37
    | 38 => some lf38
    | 39 => some lf39
    | 40 => some lf40
    | 41 => some lf41
    | 42 => some lf42
    | 43 => some lf43
    | 70 => some lf70
    | 71 => some lf71
    | 72 => some lf72
    | 73 => some lf73
    | 74 => some lf74
    | 75 => some lf75
    | 76 => some lf76
    | 77 => some lf77
    | 78 => some lf78
    | 79 => some lf79
    | 80 => some lf80
    | 81 => some lf81
    | 82 => some lf82
    | 83 => some lf83
    | 84 => some lf84
    | 85 => some lf85
    | 86 => some lf86
    | 97 => some lf97
    | 98 => some lf98
    | 99 => some lf99
    | 100 => some lf100
    | 101 => some lf101
    | 102 => some lf102
    | 103 => some lf103
    | 104 => some lf104
    | 105 => some lf105
    | 106 => some lf106
    | 107 => some lf107
    | 108 => some lf108
    | 109 => some lf109
    | 110 => some lf110
    | 111 => some lf111
    | 115 => some lf115
    | 116 => some lf116
    | 117 => some lf117
    | 118 => some lf118
    | 119 => some lf119
    | 120 => some lf120
    | 121 => some lf121
    | 122 => some lf122
    | 123 => some lf123
    | 124 => some lf124
    | 125 => some lf125
    | 126 => some lf126
    | 127 => some lf127
    | 128 => some lf128
    | 129 => some lf129
    | 130 => some lf130
    | 131 => some lf131
    | 132 => some lf132
    | _ => none
  ext := fun _ _ _ => none
theorem env_ok : EnvOK Try.prog env where
  mixed := by kernel_rfl
  code := fun f lf h => by
    simp only [env] at h
    split at h
    · injection h with h; subst h; exact ⟨Try.f11, hi11, Try.func11, lf11_ok⟩
    · injection h with h; subst h; exact ⟨Try.f12, hi12, Try.func12, lf12_ok⟩
    · injection h with h; subst h; exact ⟨Try.f13, hi13, Try.func13, lf13_ok⟩
    · injection h with h; subst h; exact ⟨Try.f14, hi14, Try.func14, lf14_ok⟩
    · injection h with h; subst h; exact ⟨Try.f35, hi35, Try.func35, lf35_ok⟩
    · injection h with h; subst h; exact ⟨Try.f36, hi36, Try.func36, lf36_ok⟩
    · injection h with h; subst h; exact ⟨Try.f37, hi37, Try.func37, lf37_ok⟩
    · injection h with h; subst h; exact ⟨Try.f38, hi38, Try.func38, lf38_ok⟩
    · injection h with h; subst h; exact ⟨Try.f39, hi39, Try.func39, lf39_ok⟩
    · injection h with h; subst h; exact ⟨Try.f40, hi40, Try.func40, lf40_ok⟩
    · injection h with h; subst h; exact ⟨Try.f41, hi41, Try.func41, lf41_ok⟩
    · injection h with h; subst h; exact ⟨Try.f42, hi42, Try.func42, lf42_ok⟩
    · injection h with h; subst h; exact ⟨Try.f43, hi43, Try.func43, lf43_ok⟩
    · injection h with h; subst h; exact ⟨Try.f70, hi70, Try.func70, lf70_ok⟩
    · injection h with h; subst h; exact ⟨Try.f71, hi71, Try.func71, lf71_ok⟩
    · injection h with h; subst h; exact ⟨Try.f72, hi72, Try.func72, lf72_ok⟩
    · injection h with h; subst h; exact ⟨Try.f73, hi73, Try.func73, lf73_ok⟩
    · injection h with h; subst h; exact ⟨Try.f74, hi74, Try.func74, lf74_ok⟩
    · injection h with h; subst h; exact ⟨Try.f75, hi75, Try.func75, lf75_ok⟩
    · injection h with h; subst h; exact ⟨Try.f76, hi76, Try.func76, lf76_ok⟩
    · injection h with h; subst h; exact ⟨Try.f77, hi77, Try.func77, lf77_ok⟩
    · injection h with h; subst h; exact ⟨Try.f78, hi78, Try.func78, lf78_ok⟩
    · injection h with h; subst h; exact ⟨Try.f79, hi79, Try.func79, lf79_ok⟩
    · injection h with h; subst h; exact ⟨Try.f80, hi80, Try.func80, lf80_ok⟩
    · injection h with h; subst h; exact ⟨Try.f81, hi81, Try.func81, lf81_ok⟩
    · injection h with h; subst h; exact ⟨Try.f82, hi82, Try.func82, lf82_ok⟩
    · injection h with h; subst h; exact ⟨Try.f83, hi83, Try.func83, lf83_ok⟩
    · injection h with h; subst h; exact ⟨Try.f84, hi84, Try.func84, lf84_ok⟩
    · injection h with h; subst h; exact ⟨Try.f85, hi85, Try.func85, lf85_ok⟩
    · injection h with h; subst h; exact ⟨Try.f86, hi86, Try.func86, lf86_ok⟩
    · injection h with h; subst h; exact ⟨Try.f97, hi97, Try.func97, lf97_ok⟩
    · injection h with h; subst h; exact ⟨Try.f98, hi98, Try.func98, lf98_ok⟩
    · injection h with h; subst h; exact ⟨Try.f99, hi99, Try.func99, lf99_ok⟩
    · injection h with h; subst h; exact ⟨Try.f100, hi100, Try.func100, lf100_ok⟩
    · injection h with h; subst h; exact ⟨Try.f101, hi101, Try.func101, lf101_ok⟩
    · injection h with h; subst h; exact ⟨Try.f102, hi102, Try.func102, lf102_ok⟩
    · injection h with h; subst h; exact ⟨Try.f103, hi103, Try.func103, lf103_ok⟩
    · injection h with h; subst h; exact ⟨Try.f104, hi104, Try.func104, lf104_ok⟩
    · injection h with h; subst h; exact ⟨Try.f105, hi105, Try.func105, lf105_ok⟩
    · injection h with h; subst h; exact ⟨Try.f106, hi106, Try.func106, lf106_ok⟩
    · injection h with h; subst h; exact ⟨Try.f107, hi107, Try.func107, lf107_ok⟩
    · injection h with h; subst h; exact ⟨Try.f108, hi108, Try.func108, lf108_ok⟩
    · injection h with h; subst h; exact ⟨Try.f109, hi109, Try.func109, lf109_ok⟩
    · injection h with h; subst h; exact ⟨Try.f110, hi110, Try.func110, lf110_ok⟩
    · injection h with h; subst h; exact ⟨Try.f111, hi111, Try.func111, lf111_ok⟩
    · injection h with h; subst h; exact ⟨Try.f115, hi115, Try.func115, lf115_ok⟩
    · injection h with h; subst h; exact ⟨Try.f116, hi116, Try.func116, lf116_ok⟩
    · injection h with h; subst h; exact ⟨Try.f117, hi117, Try.func117, lf117_ok⟩
    · injection h with h; subst h; exact ⟨Try.f118, hi118, Try.func118, lf118_ok⟩
    · injection h with h; subst h; exact ⟨Try.f119, hi119, Try.func119, lf119_ok⟩
    · injection h with h; subst h; exact ⟨Try.f120, hi120, Try.func120, lf120_ok⟩
    · injection h with h; subst h; exact ⟨Try.f121, hi121, Try.func121, lf121_ok⟩
    · injection h with h; subst h; exact ⟨Try.f122, hi122, Try.func122, lf122_ok⟩
    · injection h with h; subst h; exact ⟨Try.f123, hi123, Try.func123, lf123_ok⟩
    · injection h with h; subst h; exact ⟨Try.f124, hi124, Try.func124, lf124_ok⟩
    · injection h with h; subst h; exact ⟨Try.f125, hi125, Try.func125, lf125_ok⟩
    · injection h with h; subst h; exact ⟨Try.f126, hi126, Try.func126, lf126_ok⟩
    · injection h with h; subst h; exact ⟨Try.f127, hi127, Try.func127, lf127_ok⟩
    · injection h with h; subst h; exact ⟨Try.f128, hi128, Try.func128, lf128_ok⟩
    · injection h with h; subst h; exact ⟨Try.f129, hi129, Try.func129, lf129_ok⟩
    · injection h with h; subst h; exact ⟨Try.f130, hi130, Try.func130, lf130_ok⟩
    · injection h with h; subst h; exact ⟨Try.f131, hi131, Try.func131, lf131_ok⟩
    · injection h with h; subst h; exact ⟨Try.f132, hi132, Try.func132, lf132_ok⟩
    · cases h
  ext := ⟨fun _ _ _ _ h => (by cases h), fun _ _ _ _ h => (by cases h), fun _ _ _ _ _ _ h => (by cases h)⟩
end Go.Proofs.Ytchiiiahgmfofaa
