/- The code of the functions of this seat, as the evaluator has it; by program (gen.py). Each is the compilation of the loaded function. -/
import Derived.Test.YtchiiiahgmfofaaVn
import Derived.Test.YtchiiiahgmfofaaProg
import Derived.KernelRfl
namespace Go.Proofs.Ytchiiiahgmfofaa
open Go Go.Vv Go.Proofs
set_option maxRecDepth 100000

/-! additive/additivelaw34.CombPaths -/
def c3_0 : List LOper := [⟨some 3, .box (.t 0), none⟩, ⟨some 4, .box (.t 1), none⟩, ⟨some 5, .box (.t 2), none⟩, ⟨some 6, .mov (.c (.bool false)), none⟩]
def c3_1 : List LOper := [⟨some 11, .load true 1 (.t 3), none⟩, ⟨some 12, .callp 16 [(.t 11)], none⟩, ⟨some 13, .un .not (.t 12), none⟩]
def c3_2 : List LOper := [⟨some 14, .callp 17 [], none⟩, ⟨some 6, .mov (.t 14), none⟩]
def c3_3 : List LOper := [⟨some 16, .load true 1 (.t 3), none⟩, ⟨some 17, .load true 2 (.t 4), none⟩, ⟨some 18, .load true 2 (.t 5), none⟩, ⟨some 19, .callp 18 [(.t 16), (.t 17), (.t 18)], none⟩, ⟨some 15, .mov (.t 19), none⟩, ⟨some 20, .ext (.t 15) 0, none⟩, ⟨some 21, .ext (.t 15) 1, none⟩, ⟨some 7, .mov (.t 20), none⟩, ⟨some 8, .mov (.t 21), none⟩]
def c3_4 : List LOper := [⟨some 23, .load true 1 (.t 3), none⟩, ⟨some 24, .load true 2 (.t 4), none⟩, ⟨some 25, .load true 2 (.t 5), none⟩, ⟨some 26, .callp 19 [(.t 23), (.t 24), (.t 25)], none⟩, ⟨some 22, .mov (.t 26), none⟩, ⟨some 27, .ext (.t 22) 0, none⟩, ⟨some 28, .ext (.t 22) 1, none⟩, ⟨some 9, .mov (.t 27), none⟩, ⟨some 10, .mov (.t 28), none⟩]
def c3_5 : List LOper := [⟨some 29, .mov (.t 7), none⟩, ⟨some 30, .mov (.t 9), none⟩, ⟨some 31, .callp 20 [(.t 29), (.t 30)], none⟩, ⟨some 32, .mov (.t 31), none⟩, ⟨some 33, .mov (.t 8), some (32, true)⟩, ⟨some 34, .mov (.t 10), some (32, true)⟩, ⟨some 35, .eqv false false [true] (.t 33) (.t 34), some (32, true)⟩, ⟨some 36, .pick (.t 32) (.t 35) (.c (.bool false)), none⟩, ⟨some 37, .mov (.t 36), none⟩, ⟨some 38, .load true 1 (.t 3), some (37, true)⟩, ⟨some 39, .load true 2 (.t 4), some (37, true)⟩, ⟨some 40, .load true 2 (.t 5), some (37, true)⟩, ⟨some 41, .callp 21 [(.t 38), (.t 39), (.t 40)], some (37, true)⟩, ⟨some 42, .load true 1 (.t 3), some (37, true)⟩, ⟨some 43, .load true 2 (.t 4), some (37, true)⟩, ⟨some 44, .load true 2 (.t 5), some (37, true)⟩, ⟨some 45, .callp 22 [(.t 42), (.t 43), (.t 44)], some (37, true)⟩, ⟨some 46, .ibin .eql (.t 41) (.t 45), some (37, true)⟩, ⟨some 47, .pick (.t 37) (.t 46) (.c (.bool false)), none⟩, ⟨some 48, .mov (.t 47), none⟩, ⟨some 49, .callp 17 [], some (48, true)⟩, ⟨some 50, .pick (.t 48) (.t 49) (.c (.bool false)), none⟩, ⟨some 6, .mov (.t 50), none⟩]
def lc3 : LC := (.seq (.reg false c3_0) (.seq (.seq (.reg false c3_1) (.cond (.t 13) (.seq (.reg false c3_2) .ret) .skip)) (.seq (.reg false c3_3) (.seq (.reg false c3_4) (.seq (.reg true c3_5) .ret)))))
def lf3 : LFunc := ⟨3, [.tmp 6], true, lc3⟩
def hi3 : Hints := ⟨[], [none, none, none, none, none, none, none, none, none], []⟩
theorem lf3_ok : compF Try.prog hi3 true Try.f3 = some lf3 := by kernel_rfl

/-! additive/additivelaw34.CombEasy -/
def c9_0 : List LOper := [⟨some 3, .box (.t 0), none⟩, ⟨some 4, .box (.t 1), none⟩, ⟨some 5, .box (.t 2), none⟩, ⟨some 6, .mov (.c (.bool false)), none⟩]
def c9_1 : List LOper := [⟨some 11, .load true 1 (.t 3), none⟩, ⟨some 12, .callp 16 [(.t 11)], none⟩, ⟨some 13, .un .not (.t 12), none⟩]
def c9_2 : List LOper := [⟨some 14, .callp 32 [], none⟩, ⟨some 6, .mov (.t 14), none⟩]
def c9_3 : List LOper := [⟨some 16, .load true 1 (.t 3), none⟩, ⟨some 17, .load true 2 (.t 4), none⟩, ⟨some 18, .load true 2 (.t 5), none⟩, ⟨some 19, .callp 33 [(.t 16), (.t 17), (.t 18)], none⟩, ⟨some 15, .mov (.t 19), none⟩, ⟨some 20, .ext (.t 15) 0, none⟩, ⟨some 21, .ext (.t 15) 1, none⟩, ⟨some 7, .mov (.t 20), none⟩, ⟨some 8, .mov (.t 21), none⟩]
def c9_4 : List LOper := [⟨some 23, .load true 1 (.t 3), none⟩, ⟨some 24, .load true 2 (.t 4), none⟩, ⟨some 25, .load true 2 (.t 5), none⟩, ⟨some 26, .callp 34 [(.t 23), (.t 24), (.t 25)], none⟩, ⟨some 22, .mov (.t 26), none⟩, ⟨some 27, .ext (.t 22) 0, none⟩, ⟨some 28, .ext (.t 22) 1, none⟩, ⟨some 9, .mov (.t 27), none⟩, ⟨some 10, .mov (.t 28), none⟩]
def c9_5 : List LOper := [⟨some 29, .mov (.t 7), none⟩, ⟨some 30, .mov (.t 9), none⟩, ⟨some 31, .callp 20 [(.t 29), (.t 30)], none⟩, ⟨some 32, .mov (.t 31), none⟩, ⟨some 33, .mov (.t 8), some (32, true)⟩, ⟨some 34, .mov (.t 10), some (32, true)⟩, ⟨some 35, .eqv false false [true] (.t 33) (.t 34), some (32, true)⟩, ⟨some 36, .pick (.t 32) (.t 35) (.c (.bool false)), none⟩, ⟨some 37, .mov (.t 36), none⟩, ⟨some 38, .callp 32 [], some (37, true)⟩, ⟨some 39, .pick (.t 37) (.t 38) (.c (.bool false)), none⟩, ⟨some 6, .mov (.t 39), none⟩]
def lc9 : LC := (.seq (.reg false c9_0) (.seq (.seq (.reg false c9_1) (.cond (.t 13) (.seq (.reg false c9_2) .ret) .skip)) (.seq (.reg false c9_3) (.seq (.reg false c9_4) (.seq (.reg false c9_5) .ret)))))
def lf9 : LFunc := ⟨3, [.tmp 6], true, lc9⟩
def hi9 : Hints := ⟨[], [none, none, none, none, none, none, none, none, none], []⟩
theorem lf9_ok : compF Try.prog hi9 true Try.f9 = some lf9 := by kernel_rfl

/-! additive/additivelaw34.CombEasier -/
def c10_0 : List LOper := [⟨some 3, .box (.t 0), none⟩, ⟨some 4, .box (.t 1), none⟩, ⟨some 5, .box (.t 2), none⟩, ⟨some 6, .mov (.c (.bool false)), none⟩]
def c10_1 : List LOper := [⟨some 14, .load true 1 (.t 3), none⟩, ⟨some 15, .callp 16 [(.t 14)], none⟩, ⟨some 16, .un .not (.t 15), none⟩]
def c10_2 : List LOper := [⟨some 17, .callp 32 [], none⟩, ⟨some 6, .mov (.t 17), none⟩]
def c10_3 : List LOper := [⟨some 19, .load true 1 (.t 3), none⟩, ⟨some 20, .load true 2 (.t 4), none⟩, ⟨some 21, .load true 2 (.t 5), none⟩, ⟨some 22, .callp 33 [(.t 19), (.t 20), (.t 21)], none⟩, ⟨some 18, .mov (.t 22), none⟩, ⟨some 23, .ext (.t 18) 0, none⟩, ⟨some 24, .ext (.t 18) 1, none⟩, ⟨some 7, .mov (.t 23), none⟩, ⟨some 8, .mov (.t 24), none⟩]
def c10_4 : List LOper := [⟨some 26, .load true 1 (.t 3), none⟩, ⟨some 27, .load true 2 (.t 4), none⟩, ⟨some 28, .load true 2 (.t 5), none⟩, ⟨some 29, .callp 18 [(.t 26), (.t 27), (.t 28)], none⟩, ⟨some 25, .mov (.t 29), none⟩, ⟨some 30, .ext (.t 25) 0, none⟩, ⟨some 31, .ext (.t 25) 1, none⟩, ⟨some 9, .mov (.t 30), none⟩, ⟨some 10, .mov (.t 31), none⟩]
def c10_5 : List LOper := [⟨some 33, .load true 1 (.t 3), none⟩, ⟨some 34, .load true 2 (.t 5), none⟩, ⟨some 35, .load true 2 (.t 4), none⟩, ⟨some 36, .callp 33 [(.t 33), (.t 34), (.t 35)], none⟩, ⟨some 32, .mov (.t 36), none⟩, ⟨some 37, .ext (.t 32) 0, none⟩, ⟨some 38, .ext (.t 32) 1, none⟩, ⟨some 11, .mov (.t 37), none⟩, ⟨some 12, .mov (.t 38), none⟩]
def c10_6 : List LOper := [⟨some 39, .mov (.t 8), none⟩, ⟨some 40, .mov (.t 10), none⟩, ⟨some 41, .eqv true false [true] (.t 39) (.t 40), none⟩, ⟨some 42, .mov (.t 41), none⟩, ⟨some 43, .mov (.t 12), some (42, false)⟩, ⟨some 44, .mov (.t 10), some (42, false)⟩, ⟨some 45, .eqv true false [true] (.t 43) (.t 44), some (42, false)⟩, ⟨some 46, .pick (.t 42) (.c (.bool true)) (.t 45), none⟩, ⟨some 47, .mov (.t 46), none⟩, ⟨some 48, .mov (.t 7), some (47, false)⟩, ⟨some 49, .len (.t 48), some (47, false)⟩, ⟨some 50, .mov (.t 9), some (47, false)⟩, ⟨some 51, .len (.t 50), some (47, false)⟩, ⟨some 52, .ibin .neq (.t 49) (.t 51), some (47, false)⟩, ⟨some 53, .pick (.t 47) (.c (.bool true)) (.t 52), none⟩, ⟨some 54, .mov (.t 53), none⟩, ⟨some 55, .mov (.t 11), some (54, false)⟩, ⟨some 56, .len (.t 55), some (54, false)⟩, ⟨some 57, .mov (.t 9), some (54, false)⟩, ⟨some 58, .len (.t 57), some (54, false)⟩, ⟨some 59, .ibin .neq (.t 56) (.t 58), some (54, false)⟩, ⟨some 60, .pick (.t 54) (.c (.bool true)) (.t 59), none⟩]
def c10_7 : List LOper := [⟨some 6, .mov (.c (.bool false)), none⟩]
def c10_8 : List LOper := [⟨some 61, .mov (.t 8), none⟩, ⟨some 62, .un .not (.t 61), none⟩]
def c10_9 : List LOper := [⟨some 63, .mov (.t 7), none⟩, ⟨some 64, .len (.t 63), none⟩, ⟨some 65, .ibin .eql (.t 64) (.c (.int .i64 0)), none⟩, ⟨some 66, .mov (.t 65), none⟩, ⟨some 67, .callp 32 [], some (66, true)⟩, ⟨some 68, .pick (.t 66) (.t 67) (.c (.bool false)), none⟩, ⟨some 6, .mov (.t 68), none⟩]
def c10_10 : List LOper := [⟨some 13, .mov (.c (.int .i64 0)), none⟩]
def c10_11 : List LOper := [⟨some 69, .mov (.t 13), none⟩, ⟨some 70, .mov (.t 7), none⟩, ⟨some 71, .len (.t 70), none⟩, ⟨some 72, .ibin .lss (.t 69) (.t 71), none⟩]
def c10_12 : List LOper := [⟨some 75, .load true 1 (.t 3), none⟩, ⟨some 76, .mov (.t 7), none⟩, ⟨some 77, .mov (.t 13), none⟩, ⟨some 78, .iaddr 2 (.t 76) (.t 77), none⟩, ⟨some 79, .load true 2 (.t 78), none⟩, ⟨some 80, .callp 27 [(.t 75), (.t 79)], none⟩, ⟨some 81, .un .not (.t 80), none⟩, ⟨some 82, .mov (.t 81), none⟩, ⟨some 83, .mov (.t 13), some (82, false)⟩, ⟨some 84, .ibin .gtr (.t 83) (.c (.int .i64 0)), some (82, false)⟩, ⟨some 85, .mov (.t 84), some (82, false)⟩, ⟨some 86, .mov (.t 7), some (85, true)⟩, ⟨some 87, .mov (.t 13), some (85, true)⟩, ⟨some 88, .ibin .sub (.t 87) (.c (.int .i64 1)), some (85, true)⟩, ⟨some 89, .iaddr 2 (.t 86) (.t 88), some (85, true)⟩, ⟨some 90, .load true 2 (.t 89), some (85, true)⟩, ⟨some 91, .mov (.t 7), some (85, true)⟩, ⟨some 92, .mov (.t 13), some (85, true)⟩, ⟨some 93, .iaddr 2 (.t 91) (.t 92), some (85, true)⟩, ⟨some 94, .load true 2 (.t 93), some (85, true)⟩, ⟨some 95, .callp 28 [(.t 90), (.t 94)], some (85, true)⟩, ⟨some 96, .un .not (.t 95), some (85, true)⟩, ⟨some 97, .pick (.t 85) (.t 96) (.c (.bool false)), some (82, false)⟩, ⟨some 98, .pick (.t 82) (.c (.bool true)) (.t 97), none⟩]
def c10_13 : List LOper := [⟨some 6, .mov (.c (.bool false)), none⟩]
def c10_14 : List LOper := [⟨some 73, .mov (.t 13), none⟩, ⟨some 74, .ibin .add (.t 73) (.c (.int .i64 1)), none⟩, ⟨some 13, .mov (.t 74), none⟩]
def c10_L0 : LC := (.seq (.seq (.reg false c10_11) (.cond (.t 72) .skip (.seq (.trim [4, 5, 7, 9, 11]) (.exit 0)))) (.seq (.blk 1 (.seq (.reg true c10_12) (.cond (.t 98) (.seq (.reg false c10_13) (.seq (.trim [6]) .ret)) .skip))) (.reg false c10_14)))
def c10_16 : List LOper := [⟨some 99, .mov (.t 7), none⟩, ⟨some 100, .len (.t 99), none⟩, ⟨some 101, .ibin .gtr (.t 100) (.c (.int .i64 0)), none⟩, ⟨some 102, .mov (.t 101), none⟩, ⟨some 103, .mov (.t 7), some (102, true)⟩, ⟨some 104, .iaddr 2 (.t 103) (.c (.int .i64 0)), some (102, true)⟩, ⟨some 105, .load true 2 (.t 104), some (102, true)⟩, ⟨some 106, .load true 2 (.t 4), some (102, true)⟩, ⟨some 107, .eqv false true [false, false] (.t 105) (.t 106), some (102, true)⟩, ⟨some 108, .pick (.t 102) (.t 107) (.c (.bool false)), none⟩, ⟨some 109, .mov (.t 108), none⟩, ⟨some 110, .mov (.t 7), some (109, true)⟩, ⟨some 111, .mov (.t 7), some (109, true)⟩, ⟨some 112, .len (.t 111), some (109, true)⟩, ⟨some 113, .ibin .sub (.t 112) (.c (.int .i64 1)), some (109, true)⟩, ⟨some 114, .iaddr 2 (.t 110) (.t 113), some (109, true)⟩, ⟨some 115, .load true 2 (.t 114), some (109, true)⟩, ⟨some 116, .load true 2 (.t 5), some (109, true)⟩, ⟨some 117, .eqv false true [false, false] (.t 115) (.t 116), some (109, true)⟩, ⟨some 118, .pick (.t 109) (.t 117) (.c (.bool false)), none⟩, ⟨some 119, .mov (.t 118), none⟩, ⟨some 120, .mov (.t 7), some (119, true)⟩, ⟨some 121, .callp 30 [(.t 120)], some (119, true)⟩, ⟨some 122, .mov (.t 9), some (119, true)⟩, ⟨some 123, .callp 30 [(.t 122)], some (119, true)⟩, ⟨some 124, .ibin .leq (.t 121) (.t 123), some (119, true)⟩, ⟨some 125, .pick (.t 119) (.t 124) (.c (.bool false)), none⟩, ⟨some 126, .mov (.t 125), none⟩, ⟨some 127, .mov (.t 7), some (126, true)⟩, ⟨some 128, .callp 30 [(.t 127)], some (126, true)⟩, ⟨some 129, .mov (.t 11), some (126, true)⟩, ⟨some 130, .callp 30 [(.t 129)], some (126, true)⟩, ⟨some 131, .ibin .eql (.t 128) (.t 130), some (126, true)⟩, ⟨some 132, .pick (.t 126) (.t 131) (.c (.bool false)), none⟩, ⟨some 133, .mov (.t 132), none⟩, ⟨some 134, .callp 32 [], some (133, true)⟩, ⟨some 135, .pick (.t 133) (.t 134) (.c (.bool false)), none⟩, ⟨some 6, .mov (.t 135), none⟩]
def lc10 : LC := (.seq (.reg false c10_0) (.seq (.seq (.reg false c10_1) (.cond (.t 16) (.seq (.reg false c10_2) .ret) .skip)) (.seq (.reg false c10_3) (.seq (.reg false c10_4) (.seq (.reg false c10_5) (.seq (.seq (.reg false c10_6) (.cond (.t 60) (.seq (.reg false c10_7) .ret) .skip)) (.seq (.seq (.reg false c10_8) (.cond (.t 62) (.seq (.reg false c10_9) .ret) .skip)) (.seq (.seq (.reg false c10_10) (.blk 0 (.loop [3, 4, 5, 7, 9, 11, 13] c10_L0))) (.seq (.reg true c10_16) .ret)))))))))
def lf10 : LFunc := ⟨3, [.tmp 6], true, lc10⟩
def hi10 : Hints := ⟨[], [none, none, none, none, none, none, none, none, none, none, none, none, none, none, none, none, none, some [3, 4, 5, 7, 9, 11, 13], none, some [4, 5, 7, 9, 11], none, none, none, some [6], none, none, none, none], []⟩
theorem lf10_ok : compF Try.prog hi10 true Try.f10 = some lf10 := by kernel_rfl

/-! additive/additivelaw18.Small -/
def c16_0 : List LOper := [⟨some 1, .box (.t 0), none⟩, ⟨some 2, .mov (.c (.bool false)), none⟩]
def c16_1 : List LOper := [⟨some 4, .faddr 0 (.t 1), none⟩, ⟨some 5, .load false 1 (.t 4), none⟩, ⟨some 6, .len (.t 5), none⟩, ⟨some 7, .ibin .gtr (.t 6) (.c (.int .i64 40)), none⟩]
def c16_2 : List LOper := [⟨some 2, .mov (.c (.bool false)), none⟩]
def c16_3 : List LOper := [⟨some 3, .mov (.c (.int .i64 0)), none⟩]
def c16_4 : List LOper := [⟨some 8, .mov (.t 3), none⟩, ⟨some 9, .faddr 0 (.t 1), none⟩, ⟨some 10, .load false 1 (.t 9), none⟩, ⟨some 11, .len (.t 10), none⟩, ⟨some 12, .ibin .lss (.t 8) (.t 11), none⟩]
def c16_5 : List LOper := [⟨some 15, .faddr 0 (.t 1), none⟩, ⟨some 16, .load false 1 (.t 15), none⟩, ⟨some 17, .mov (.t 3), none⟩, ⟨some 18, .iaddr 2 (.t 16) (.t 17), none⟩, ⟨some 19, .faddr 1 (.t 18), none⟩, ⟨some 20, .load false 1 (.t 19), none⟩, ⟨some 21, .len (.t 20), none⟩, ⟨some 22, .ibin .gtr (.t 21) (.c (.int .i64 40)), none⟩]
def c16_6 : List LOper := [⟨some 2, .mov (.c (.bool false)), none⟩]
def c16_7 : List LOper := [⟨some 13, .mov (.t 3), none⟩, ⟨some 14, .ibin .add (.t 13) (.c (.int .i64 1)), none⟩, ⟨some 3, .mov (.t 14), none⟩]
def c16_L0 : LC := (.seq (.seq (.reg false c16_4) (.cond (.t 12) .skip (.seq (.trim [1]) (.exit 0)))) (.seq (.blk 1 (.seq (.reg false c16_5) (.cond (.t 22) (.seq (.reg false c16_6) (.seq (.trim [2]) .ret)) .skip))) (.reg false c16_7)))
def c16_9 : List LOper := [⟨some 23, .load true 1 (.t 1), none⟩, ⟨some 24, .callp 46 [(.t 23)], none⟩, ⟨some 25, .ibin .leq (.t 24) (.c (.int .i64 600)), none⟩, ⟨some 2, .mov (.t 25), none⟩]
def lc16 : LC := (.seq (.reg false c16_0) (.seq (.seq (.reg false c16_1) (.cond (.t 7) (.seq (.reg false c16_2) .ret) .skip)) (.seq (.seq (.reg false c16_3) (.blk 0 (.loop [1, 3] c16_L0))) (.seq (.reg false c16_9) .ret))))
def lf16 : LFunc := ⟨1, [.tmp 2], true, lc16⟩
def hi16 : Hints := ⟨[], [none, none, none, none, none, none, some [1, 3], none, some [1], none, none, none, some [2], none, none, none, none], []⟩
theorem lf16_ok : compF Try.prog hi16 true Try.f16 = some lf16 := by kernel_rfl

/-! additive/additivelaw34.awake -/
def c17_0 : List LOper := [⟨some 0, .mov (.c (.bool false)), none⟩]
def c17_1 : List LOper := [⟨some 5, .callp 47 [], none⟩, ⟨some 6, .build [.int .i64 0, .int .i64 0] [], none⟩, ⟨some 7, .build [.int .i64 0, .int .i64 0] [(0, 1, (.c (.int .i64 1))), (1, 1, (.c (.int .i64 1)))], none⟩, ⟨some 8, .callp 18 [(.t 5), (.t 6), (.t 7)], none⟩, ⟨some 4, .mov (.t 8), none⟩, ⟨some 9, .ext (.t 4) 0, none⟩, ⟨some 10, .ext (.t 4) 1, none⟩, ⟨some 1, .mov (.t 9), none⟩, ⟨some 2, .mov (.t 10), none⟩]
def c17_2 : List LOper := [⟨some 11, .build [.int .i64 0, .int .i64 0] [], none⟩, ⟨some 12, .build [.int .i64 0, .int .i64 0] [(0, 1, (.c (.int .i64 (-1)))), (1, 1, (.c (.int .i64 1)))], none⟩, ⟨some 13, .callp 23 [(.t 11), (.t 12)], none⟩, ⟨some 3, .mov (.t 13), none⟩]
def c17_3 : List LOper := [⟨some 14, .mov (.t 2), none⟩, ⟨some 15, .mov (.t 14), none⟩, ⟨some 16, .mov (.t 1), some (15, true)⟩, ⟨some 17, .len (.t 16), some (15, true)⟩, ⟨some 18, .ibin .eql (.t 17) (.c (.int .i64 3)), some (15, true)⟩, ⟨some 19, .pick (.t 15) (.t 18) (.c (.bool false)), none⟩, ⟨some 20, .mov (.t 19), none⟩, ⟨some 21, .mov (.t 1), some (20, true)⟩, ⟨some 22, .iaddr 2 (.t 21) (.c (.int .i64 1)), some (20, true)⟩, ⟨some 23, .load true 2 (.t 22), some (20, true)⟩, ⟨some 24, .build [.int .i64 0, .int .i64 0] [(0, 1, (.c (.int .i64 1)))], some (20, true)⟩, ⟨some 25, .eqv false true [false, false] (.t 23) (.t 24), some (20, true)⟩, ⟨some 26, .pick (.t 20) (.t 25) (.c (.bool false)), none⟩, ⟨some 27, .mov (.t 26), none⟩, ⟨some 28, .callp 47 [], some (27, true)⟩, ⟨some 29, .build [.int .i64 0, .int .i64 0] [], some (27, true)⟩, ⟨some 30, .build [.int .i64 0, .int .i64 0] [(0, 1, (.c (.int .i64 1))), (1, 1, (.c (.int .i64 1)))], some (27, true)⟩, ⟨some 31, .callp 21 [(.t 28), (.t 29), (.t 30)], some (27, true)⟩, ⟨some 32, .ibin .eql (.t 31) (.c (.int .i64 2)), some (27, true)⟩, ⟨some 33, .pick (.t 27) (.t 32) (.c (.bool false)), none⟩, ⟨some 34, .mov (.t 33), none⟩, ⟨some 35, .mov (.t 3), some (34, true)⟩, ⟨some 36, .len (.t 35), some (34, true)⟩, ⟨some 37, .ibin .eql (.t 36) (.c (.int .i64 3)), some (34, true)⟩, ⟨some 38, .pick (.t 34) (.t 37) (.c (.bool false)), none⟩, ⟨some 39, .mov (.t 38), none⟩, ⟨some 40, .mov (.t 3), some (39, true)⟩, ⟨some 41, .iaddr 2 (.t 40) (.c (.int .i64 1)), some (39, true)⟩, ⟨some 42, .load true 2 (.t 41), some (39, true)⟩, ⟨some 43, .build [.int .i64 0, .int .i64 0] [(0, 1, (.c (.int .i64 (-1))))], some (39, true)⟩, ⟨some 44, .eqv false true [false, false] (.t 42) (.t 43), some (39, true)⟩, ⟨some 45, .pick (.t 39) (.t 44) (.c (.bool false)), none⟩, ⟨some 0, .mov (.t 45), none⟩]
def lc17 : LC := (.seq (.reg false c17_0) (.seq (.reg false c17_1) (.seq (.reg false c17_2) (.seq (.reg false c17_3) .ret))))
def lf17 : LFunc := ⟨0, [.tmp 0], true, lc17⟩
def hi17 : Hints := ⟨[], [none, none, none, none, none], []⟩
theorem lf17_ok : compF Try.prog hi17 true Try.f17 = some lf17 := by kernel_rfl

/-! additive/comb.Path -/
def c18_0 : List LOper := [⟨some 3, .box (.t 0), none⟩, ⟨some 4, .box (.t 1), none⟩, ⟨some 5, .box (.t 2), none⟩, ⟨some 6, .mov (.c (.nils)), none⟩, ⟨some 7, .mov (.c (.bool false)), none⟩]
def c18_1 : List LOper := [⟨some 13, .load true 1 (.t 3), none⟩, ⟨some 14, .load true 2 (.t 4), none⟩, ⟨some 15, .callp 29 [(.t 13), (.t 14)], none⟩, ⟨some 16, .un .not (.t 15), none⟩, ⟨some 17, .mov (.t 16), none⟩, ⟨some 18, .load true 1 (.t 3), some (17, false)⟩, ⟨some 19, .load true 2 (.t 5), some (17, false)⟩, ⟨some 20, .callp 29 [(.t 18), (.t 19)], some (17, false)⟩, ⟨some 21, .un .not (.t 20), some (17, false)⟩, ⟨some 22, .pick (.t 17) (.c (.bool true)) (.t 21), none⟩]
def c18_2 : List LOper := [⟨some 6, .mov (.c (.nils)), none⟩, ⟨some 7, .mov (.c (.bool false)), none⟩]
def c18_3 : List LOper := [⟨some 23, .load true 1 (.t 3), none⟩, ⟨some 24, .load true 2 (.t 4), none⟩, ⟨some 25, .load true 2 (.t 5), none⟩, ⟨some 26, .callz 48 [(.t 23), (.t 24), (.t 25)], none⟩, ⟨some 8, .mov (.t 26), none⟩]
def c18_4 : List LOper := [⟨some 28, .mov (.t 8), none⟩, ⟨some 29, .load true 2 (.t 5), none⟩, ⟨some 30, .look true true [false, false] (.agg [.int .i64 0, .int .i64 0]) (.t 28) (.t 29), none⟩, ⟨some 27, .mov (.t 30), none⟩, ⟨some 31, .ext (.t 27) 0, none⟩, ⟨some 32, .ext (.t 27) 1, none⟩, ⟨some 9, .alloc [.int .i64 0, .int .i64 0], none⟩, ⟨none, .store 2 (.t 9) (.t 31), none⟩, ⟨some 10, .mov (.t 32), none⟩]
def c18_5 : List LOper := [⟨some 33, .mov (.t 10), none⟩, ⟨some 34, .un .not (.t 33), none⟩]
def c18_6 : List LOper := [⟨some 6, .mov (.c (.nils)), none⟩, ⟨some 7, .mov (.c (.bool false)), none⟩]
def c18_7 : List LOper := [⟨some 35, .load true 2 (.t 5), none⟩, ⟨some 36, .bslice 1 2 26 [.int .i64 0, .int .i64 0] [(0, 2, (.t 35))], none⟩, ⟨some 11, .mov (.t 36), none⟩]
def c18_8 : List LOper := [⟨some 37, .load true 2 (.t 5), none⟩, ⟨some 12, .alloc [.int .i64 0, .int .i64 0], none⟩, ⟨none, .store 2 (.t 12) (.t 37), none⟩]
def c18_9 : List LOper := [⟨some 38, .load true 2 (.t 12), none⟩, ⟨some 39, .load true 2 (.t 4), none⟩, ⟨some 40, .eqv true true [false, false] (.t 38) (.t 39), none⟩]
def c18_10 : List LOper := [⟨some 41, .mov (.t 8), none⟩, ⟨some 42, .load true 2 (.t 12), none⟩, ⟨some 43, .look false true [false, false] (.agg [.int .i64 0, .int .i64 0]) (.t 41) (.t 42), none⟩, ⟨none, .store 2 (.t 12) (.t 43), none⟩]
def c18_11 : List LOper := [⟨some 44, .mov (.t 11), none⟩, ⟨some 45, .load true 2 (.t 12), none⟩, ⟨some 46, .bslice 1 2 26 [.int .i64 0, .int .i64 0] [(0, 2, (.t 45))], none⟩, ⟨some 47, .app 2 16 26 [.int .i64 0, .int .i64 0] (.t 44) (.t 46), none⟩, ⟨some 11, .mov (.t 47), none⟩]
def c18_12 : List LOper := [⟨some 48, .load true 2 (.t 12), none⟩]
def c18_13 : List LOper := [⟨some 12, .alloc [.int .i64 0, .int .i64 0], none⟩, ⟨none, .store 2 (.t 12) (.t 48), none⟩]
def c18_L0 : LC := (.seq (.seq (.reg false c18_9) (.cond (.t 40) .skip (.seq (.trim [11]) (.exit 0)))) (.seq (.blk 1 (.seq (.reg false c18_10) (.reg false c18_11))) (.seq (.reg false c18_12) (.reg false c18_13))))
def c18_15 : List LOper := [⟨some 49, .mov (.t 11), none⟩, ⟨some 50, .callr 49 [(.t 49)], none⟩]
def c18_16 : List LOper := [⟨some 51, .mov (.t 11), none⟩, ⟨some 6, .mov (.t 51), none⟩, ⟨some 7, .mov (.c (.bool true)), none⟩]
def lc18 : LC := (.seq (.reg false c18_0) (.seq (.seq (.reg false c18_1) (.cond (.t 22) (.seq (.reg false c18_2) .ret) .skip)) (.seq (.reg false c18_3) (.seq (.seq (.reg false c18_4) (.seq (.reg false c18_5) (.cond (.t 34) (.seq (.reg false c18_6) .ret) .skip))) (.seq (.reg false c18_7) (.seq (.seq (.reg false c18_8) (.blk 0 (.loop [4, 8, 11, 12] c18_L0))) (.seq (.reg false c18_15) (.seq (.reg false c18_16) .ret))))))))
def lf18 : LFunc := ⟨3, [.tmp 6, .tmp 7], true, lc18⟩
def hi18 : Hints := ⟨[(26, .z), (50, .r)], [none, none, none, none, none, none, none, none, none, none, none, none, none, some [4, 8, 11, 12], none, some [11], none, none, none, none, none, none, none, none], []⟩
theorem lf18_ok : compF Try.prog hi18 true Try.f18 = some lf18 := by kernel_rfl

/-! additive/additiveref34.Path -/
def c19_0 : List LOper := [⟨some 3, .box (.t 0), none⟩, ⟨some 4, .box (.t 1), none⟩, ⟨some 5, .box (.t 2), none⟩, ⟨some 6, .mov (.c (.nils)), none⟩, ⟨some 7, .mov (.c (.bool false)), none⟩]
def c19_1 : List LOper := [⟨some 13, .load true 1 (.t 3), none⟩, ⟨some 14, .load true 2 (.t 4), none⟩, ⟨some 15, .callp 27 [(.t 13), (.t 14)], none⟩, ⟨some 16, .un .not (.t 15), none⟩, ⟨some 17, .mov (.t 16), none⟩, ⟨some 18, .load true 1 (.t 3), some (17, false)⟩, ⟨some 19, .load true 2 (.t 5), some (17, false)⟩, ⟨some 20, .callp 27 [(.t 18), (.t 19)], some (17, false)⟩, ⟨some 21, .un .not (.t 20), some (17, false)⟩, ⟨some 22, .pick (.t 17) (.c (.bool true)) (.t 21), none⟩]
def c19_2 : List LOper := [⟨some 6, .mov (.c (.nils)), none⟩, ⟨some 7, .mov (.c (.bool false)), none⟩]
def c19_3 : List LOper := [⟨some 23, .load true 1 (.t 3), none⟩, ⟨some 24, .load true 2 (.t 4), none⟩, ⟨some 25, .load true 2 (.t 5), none⟩, ⟨some 26, .callz 50 [(.t 23), (.t 24), (.t 25)], none⟩, ⟨some 8, .mov (.t 26), none⟩]
def c19_4 : List LOper := [⟨some 27, .mov (.t 8), none⟩, ⟨some 28, .mov (.t 8), none⟩, ⟨some 29, .len (.t 28), none⟩, ⟨some 30, .ibin .sub (.t 29) (.c (.int .i64 1)), none⟩, ⟨some 31, .iaddr 3 (.t 27) (.t 30), none⟩, ⟨some 32, .faddr 0 (.t 31), none⟩, ⟨some 33, .load true 2 (.t 32), none⟩, ⟨some 34, .load true 2 (.t 5), none⟩, ⟨some 35, .eqv true true [false, false] (.t 33) (.t 34), none⟩]
def c19_5 : List LOper := [⟨some 6, .mov (.c (.nils)), none⟩, ⟨some 7, .mov (.c (.bool false)), none⟩]
def c19_6 : List LOper := [⟨some 9, .mov (.c (.nils)), none⟩]
def c19_7 : List LOper := [⟨some 36, .mov (.t 8), none⟩, ⟨some 37, .len (.t 36), none⟩, ⟨some 38, .ibin .sub (.t 37) (.c (.int .i64 1)), none⟩, ⟨some 10, .mov (.t 38), none⟩]
def c19_8 : List LOper := [⟨some 39, .mov (.t 10), none⟩, ⟨some 40, .ibin .geq (.t 39) (.c (.int .i64 0)), none⟩]
def c19_9 : List LOper := [⟨some 46, .mov (.t 9), none⟩, ⟨some 47, .mov (.t 8), none⟩, ⟨some 48, .mov (.t 10), none⟩, ⟨some 49, .iaddr 3 (.t 47) (.t 48), none⟩, ⟨some 50, .faddr 0 (.t 49), none⟩, ⟨some 51, .load true 2 (.t 50), none⟩, ⟨some 52, .bslice 1 2 26 [.int .i64 0, .int .i64 0] [(0, 2, (.t 51))], none⟩, ⟨some 53, .app 2 16 26 [.int .i64 0, .int .i64 0] (.t 46) (.t 52), none⟩, ⟨some 9, .mov (.t 53), none⟩]
def c19_10 : List LOper := [⟨some 41, .mov (.t 8), none⟩, ⟨some 42, .mov (.t 10), none⟩, ⟨some 43, .iaddr 3 (.t 41) (.t 42), none⟩, ⟨some 44, .faddr 2 (.t 43), none⟩, ⟨some 45, .load false 1 (.t 44), none⟩, ⟨some 10, .mov (.t 45), none⟩]
def c19_L0 : LC := (.seq (.seq (.reg false c19_8) (.cond (.t 40) .skip (.seq (.trim [9]) (.exit 0)))) (.seq (.blk 1 (.reg false c19_9)) (.reg false c19_10)))
def c19_12 : List LOper := [⟨some 11, .mov (.c (.nils)), none⟩]
def c19_13 : List LOper := [⟨some 54, .mov (.t 9), none⟩, ⟨some 55, .len (.t 54), none⟩, ⟨some 56, .ibin .sub (.t 55) (.c (.int .i64 1)), none⟩, ⟨some 12, .mov (.t 56), none⟩]
def c19_14 : List LOper := [⟨some 57, .mov (.t 12), none⟩, ⟨some 58, .ibin .geq (.t 57) (.c (.int .i64 0)), none⟩]
def c19_15 : List LOper := [⟨some 61, .mov (.t 11), none⟩, ⟨some 62, .mov (.t 9), none⟩, ⟨some 63, .mov (.t 12), none⟩, ⟨some 64, .iaddr 2 (.t 62) (.t 63), none⟩, ⟨some 65, .load true 2 (.t 64), none⟩, ⟨some 66, .bslice 1 2 26 [.int .i64 0, .int .i64 0] [(0, 2, (.t 65))], none⟩, ⟨some 67, .app 2 16 26 [.int .i64 0, .int .i64 0] (.t 61) (.t 66), none⟩, ⟨some 11, .mov (.t 67), none⟩]
def c19_16 : List LOper := [⟨some 59, .mov (.t 12), none⟩, ⟨some 60, .ibin .sub (.t 59) (.c (.int .i64 1)), none⟩, ⟨some 12, .mov (.t 60), none⟩]
def c19_L1 : LC := (.seq (.seq (.reg false c19_14) (.cond (.t 58) .skip (.seq (.trim [11]) (.exit 2)))) (.seq (.blk 3 (.reg false c19_15)) (.reg false c19_16)))
def c19_18 : List LOper := [⟨some 68, .mov (.t 11), none⟩, ⟨some 6, .mov (.t 68), none⟩, ⟨some 7, .mov (.c (.bool true)), none⟩]
def lc19 : LC := (.seq (.reg false c19_0) (.seq (.seq (.reg false c19_1) (.cond (.t 22) (.seq (.reg false c19_2) .ret) .skip)) (.seq (.reg false c19_3) (.seq (.seq (.reg true c19_4) (.cond (.t 35) (.seq (.reg false c19_5) .ret) .skip)) (.seq (.reg false c19_6) (.seq (.seq (.reg false c19_7) (.blk 0 (.loop [8, 9, 10] c19_L0))) (.seq (.reg false c19_12) (.seq (.seq (.reg false c19_13) (.blk 2 (.loop [9, 11, 12] c19_L1))) (.seq (.reg false c19_18) .ret)))))))))
def lf19 : LFunc := ⟨3, [.tmp 6, .tmp 7], true, lc19⟩
def hi19 : Hints := ⟨[(26, .z)], [none, none, none, none, none, none, none, none, none, none, none, none, some [8, 9, 10], none, some [9], none, none, none, none, none, some [9, 11, 12], none, some [11], none, none, none, none, none], []⟩
theorem lf19_ok : compF Try.prog hi19 true Try.f19 = some lf19 := by kernel_rfl

/-! additive/additivelaw34.cells -/
def c20_0 : List LOper := [⟨some 4, .mov (.c (.bool false)), none⟩]
def c20_1 : List LOper := [⟨some 6, .mov (.t 0), none⟩, ⟨some 7, .len (.t 6), none⟩, ⟨some 8, .mov (.t 1), none⟩, ⟨some 9, .len (.t 8), none⟩, ⟨some 10, .ibin .neq (.t 7) (.t 9), none⟩]
def c20_2 : List LOper := [⟨some 4, .mov (.c (.bool false)), none⟩]
def c20_3 : List LOper := [⟨some 5, .mov (.c (.int .i64 0)), none⟩]
def c20_4 : List LOper := [⟨some 11, .mov (.t 5), none⟩, ⟨some 12, .mov (.t 0), none⟩, ⟨some 13, .len (.t 12), none⟩, ⟨some 14, .ibin .lss (.t 11) (.t 13), none⟩]
def c20_5 : List LOper := [⟨some 17, .mov (.t 0), none⟩, ⟨some 18, .mov (.t 5), none⟩, ⟨some 19, .iaddr 2 (.t 17) (.t 18), none⟩, ⟨some 20, .load true 2 (.t 19), none⟩, ⟨some 21, .mov (.t 1), none⟩, ⟨some 22, .mov (.t 5), none⟩, ⟨some 23, .iaddr 2 (.t 21) (.t 22), none⟩, ⟨some 24, .load true 2 (.t 23), none⟩, ⟨some 25, .eqv true true [false, false] (.t 20) (.t 24), none⟩]
def c20_6 : List LOper := [⟨some 4, .mov (.c (.bool false)), none⟩]
def c20_7 : List LOper := [⟨some 15, .mov (.t 5), none⟩, ⟨some 16, .ibin .add (.t 15) (.c (.int .i64 1)), none⟩, ⟨some 5, .mov (.t 16), none⟩]
def c20_L0 : LC := (.seq (.seq (.reg false c20_4) (.cond (.t 14) .skip (.seq (.trim []) (.exit 0)))) (.seq (.blk 1 (.seq (.reg true c20_5) (.cond (.t 25) (.seq (.reg false c20_6) (.seq (.trim [4]) .ret)) .skip))) (.reg false c20_7)))
def c20_9 : List LOper := [⟨some 4, .mov (.c (.bool true)), none⟩]
def lc20 : LC := (.seq (.reg false c20_0) (.seq (.seq (.reg false c20_1) (.cond (.t 10) (.seq (.reg false c20_2) .ret) .skip)) (.seq (.seq (.reg false c20_3) (.blk 0 (.loop [0, 1, 5] c20_L0))) (.seq (.reg false c20_9) .ret))))
def lf20 : LFunc := ⟨2, [.tmp 4], true, lc20⟩
def hi20 : Hints := ⟨[], [none, none, none, none, none, none, some [0, 1, 5], none, some [], none, none, none, some [4], none, none, none, none], []⟩
theorem lf20_ok : compF Try.prog hi20 true Try.f20 = some lf20 := by kernel_rfl

/-! additive/comb.Distance -/
def c21_0 : List LOper := [⟨some 3, .box (.t 0), none⟩, ⟨some 4, .box (.t 1), none⟩, ⟨some 5, .box (.t 2), none⟩, ⟨some 6, .mov (.c (.int .i64 0)), none⟩]
def c21_1 : List LOper := [⟨some 10, .load true 1 (.t 3), none⟩, ⟨some 11, .load true 2 (.t 4), none⟩, ⟨some 12, .load true 2 (.t 5), none⟩, ⟨some 13, .callp 18 [(.t 10), (.t 11), (.t 12)], none⟩, ⟨some 9, .mov (.t 13), none⟩, ⟨some 14, .ext (.t 9) 0, none⟩, ⟨some 15, .ext (.t 9) 1, none⟩, ⟨some 7, .mov (.t 14), none⟩, ⟨some 8, .mov (.t 15), none⟩]
def c21_2 : List LOper := [⟨some 16, .mov (.t 8), none⟩, ⟨some 17, .un .not (.t 16), none⟩]
def c21_3 : List LOper := [⟨some 6, .mov (.c (.int .i64 (-1))), none⟩]
def c21_4 : List LOper := [⟨some 18, .mov (.t 7), none⟩, ⟨some 19, .len (.t 18), none⟩, ⟨some 20, .ibin .sub (.t 19) (.c (.int .i64 1)), none⟩, ⟨some 6, .mov (.t 20), none⟩]
def lc21 : LC := (.seq (.reg false c21_0) (.seq (.reg false c21_1) (.seq (.seq (.reg false c21_2) (.cond (.t 17) (.seq (.reg false c21_3) .ret) .skip)) (.seq (.reg false c21_4) .ret))))
def lf21 : LFunc := ⟨3, [.tmp 6], true, lc21⟩
def hi21 : Hints := ⟨[], [none, none, none, none, none, none, none, none], []⟩
theorem lf21_ok : compF Try.prog hi21 true Try.f21 = some lf21 := by kernel_rfl

/-! additive/additiveref34.Distance -/
def c22_0 : List LOper := [⟨some 3, .box (.t 0), none⟩, ⟨some 4, .box (.t 1), none⟩, ⟨some 5, .box (.t 2), none⟩, ⟨some 6, .mov (.c (.int .i64 0)), none⟩]
def c22_1 : List LOper := [⟨some 10, .load true 1 (.t 3), none⟩, ⟨some 11, .load true 2 (.t 4), none⟩, ⟨some 12, .load true 2 (.t 5), none⟩, ⟨some 13, .callp 19 [(.t 10), (.t 11), (.t 12)], none⟩, ⟨some 9, .mov (.t 13), none⟩, ⟨some 14, .ext (.t 9) 0, none⟩, ⟨some 15, .ext (.t 9) 1, none⟩, ⟨some 7, .mov (.t 14), none⟩, ⟨some 8, .mov (.t 15), none⟩]
def c22_2 : List LOper := [⟨some 16, .mov (.t 8), none⟩, ⟨some 17, .un .not (.t 16), none⟩]
def c22_3 : List LOper := [⟨some 6, .mov (.c (.int .i64 (-1))), none⟩]
def c22_4 : List LOper := [⟨some 18, .mov (.t 7), none⟩, ⟨some 19, .len (.t 18), none⟩, ⟨some 20, .ibin .sub (.t 19) (.c (.int .i64 1)), none⟩, ⟨some 6, .mov (.t 20), none⟩]
def lc22 : LC := (.seq (.reg false c22_0) (.seq (.reg false c22_1) (.seq (.seq (.reg false c22_2) (.cond (.t 17) (.seq (.reg false c22_3) .ret) .skip)) (.seq (.reg false c22_4) .ret))))
def lf22 : LFunc := ⟨3, [.tmp 6], true, lc22⟩
def hi22 : Hints := ⟨[], [none, none, none, none, none, none, none, none], []⟩
theorem lf22_ok : compF Try.prog hi22 true Try.f22 = some lf22 := by kernel_rfl

/-! additive/comb.Straight -/
def c23_0 : List LOper := [⟨some 2, .box (.t 0), none⟩, ⟨some 3, .box (.t 1), none⟩, ⟨some 4, .mov (.c (.nils)), none⟩]
def c23_1 : List LOper := [⟨some 6, .load true 2 (.t 2), none⟩, ⟨some 7, .callp 51 [(.t 6)], none⟩, ⟨some 8, .un .not (.t 7), none⟩, ⟨some 9, .mov (.t 8), none⟩, ⟨some 10, .load true 2 (.t 3), some (9, false)⟩, ⟨some 11, .callp 51 [(.t 10)], some (9, false)⟩, ⟨some 12, .un .not (.t 11), some (9, false)⟩, ⟨some 13, .pick (.t 9) (.c (.bool true)) (.t 12), none⟩]
def c23_2 : List LOper := [⟨some 4, .mov (.c (.nils)), none⟩]
def c23_3 : List LOper := [⟨some 14, .load true 2 (.t 2), none⟩, ⟨some 15, .bslice 1 2 26 [.int .i64 0, .int .i64 0] [(0, 2, (.t 14))], none⟩, ⟨some 5, .mov (.t 15), none⟩]
def c23_4 : List LOper := [⟨some 16, .load true 2 (.t 2), none⟩, ⟨some 17, .load true 2 (.t 3), none⟩, ⟨some 18, .eqv true true [false, false] (.t 16) (.t 17), none⟩]
def c23_5 : List LOper := [⟨some 24, .faddr 0 (.t 2), none⟩, ⟨some 25, .load false 1 (.t 24), none⟩, ⟨some 26, .faddr 0 (.t 3), none⟩, ⟨some 27, .load false 1 (.t 26), none⟩, ⟨some 28, .ibin .lss (.t 25) (.t 27), none⟩, ⟨some 23, .mov (.t 28), none⟩]
def c23_6 : List LOper := [⟨some 29, .faddr 0 (.t 2), none⟩, ⟨some 30, .load false 1 (.t 29), none⟩, ⟨some 31, .ibin .add (.t 30) (.c (.int .i64 1)), none⟩, ⟨some 32, .faddr 0 (.t 2), none⟩, ⟨none, .store 1 (.t 32) (.t 31), none⟩]
def c23_7 : List LOper := [⟨some 34, .faddr 0 (.t 2), none⟩, ⟨some 35, .load false 1 (.t 34), none⟩, ⟨some 36, .faddr 0 (.t 3), none⟩, ⟨some 37, .load false 1 (.t 36), none⟩, ⟨some 38, .ibin .gtr (.t 35) (.t 37), none⟩, ⟨some 33, .mov (.t 38), none⟩]
def c23_8 : List LOper := [⟨some 39, .faddr 0 (.t 2), none⟩, ⟨some 40, .load false 1 (.t 39), none⟩, ⟨some 41, .ibin .sub (.t 40) (.c (.int .i64 1)), none⟩, ⟨some 42, .faddr 0 (.t 2), none⟩, ⟨none, .store 1 (.t 42) (.t 41), none⟩]
def c23_9 : List LOper := [⟨some 44, .faddr 1 (.t 2), none⟩, ⟨some 45, .load false 1 (.t 44), none⟩, ⟨some 46, .faddr 1 (.t 3), none⟩, ⟨some 47, .load false 1 (.t 46), none⟩, ⟨some 48, .ibin .lss (.t 45) (.t 47), none⟩, ⟨some 43, .mov (.t 48), none⟩]
def c23_10 : List LOper := [⟨some 49, .faddr 1 (.t 2), none⟩, ⟨some 50, .load false 1 (.t 49), none⟩, ⟨some 51, .ibin .add (.t 50) (.c (.int .i64 1)), none⟩, ⟨some 52, .faddr 1 (.t 2), none⟩, ⟨none, .store 1 (.t 52) (.t 51), none⟩]
def c23_11 : List LOper := [⟨some 19, .faddr 1 (.t 2), none⟩, ⟨some 20, .load false 1 (.t 19), none⟩, ⟨some 21, .ibin .sub (.t 20) (.c (.int .i64 1)), none⟩, ⟨some 22, .faddr 1 (.t 2), none⟩, ⟨none, .store 1 (.t 22) (.t 21), none⟩]
def c23_12 : List LOper := [⟨some 53, .mov (.t 5), none⟩, ⟨some 54, .load true 2 (.t 2), none⟩, ⟨some 55, .bslice 1 2 26 [.int .i64 0, .int .i64 0] [(0, 2, (.t 54))], none⟩, ⟨some 56, .app 2 16 26 [.int .i64 0, .int .i64 0] (.t 53) (.t 55), none⟩, ⟨some 5, .mov (.t 56), none⟩]
def c23_L0 : LC := (.seq (.seq (.reg false c23_4) (.cond (.t 18) .skip (.seq (.trim [5]) (.exit 0)))) (.blk 1 (.seq (.blk 2 (.seq (.reg false c23_5) (.cond (.t 23) (.reg false c23_6) (.seq (.reg false c23_7) (.cond (.t 33) (.reg false c23_8) (.seq (.reg false c23_9) (.cond (.t 43) (.reg false c23_10) (.reg false c23_11)))))))) (.reg false c23_12))))
def c23_14 : List LOper := [⟨some 57, .mov (.t 5), none⟩, ⟨some 4, .mov (.t 57), none⟩]
def lc23 : LC := (.seq (.reg false c23_0) (.seq (.seq (.reg false c23_1) (.cond (.t 13) (.seq (.reg false c23_2) .ret) .skip)) (.seq (.reg false c23_3) (.seq (.blk 0 (.loop [2, 3, 5] c23_L0)) (.seq (.reg false c23_14) .ret)))))
def lf23 : LFunc := ⟨2, [.tmp 4], true, lc23⟩
def hi23 : Hints := ⟨[], [none, none, none, none, none, none, some [2, 3, 5], none, some [5], none, none, none, none, none, none, none, none], []⟩
theorem lf23_ok : compF Try.prog hi23 true Try.f23 = some lf23 := by kernel_rfl

/-! additive/additiveref18.Cells -/
def c25_0 : List LOper := [⟨some 1, .box (.t 0), none⟩, ⟨some 2, .mov (.c (.nils)), none⟩]
def c25_1 : List LOper := [⟨some 3, .mov (.c (.nils)), none⟩]
def c25_2 : List LOper := [⟨some 7, .load true 1 (.t 1), none⟩, ⟨some 8, .callp 54 [(.t 7)], none⟩, ⟨some 9, .un .not (.t 8), none⟩]
def c25_3 : List LOper := [⟨some 10, .mov (.t 3), none⟩, ⟨some 2, .mov (.t 10), none⟩]
def c25_4 : List LOper := [⟨some 4, .mov (.c (.int .i64 0)), none⟩]
def c25_5 : List LOper := [⟨some 11, .mov (.t 4), none⟩, ⟨some 12, .faddr 0 (.t 1), none⟩, ⟨some 13, .load false 1 (.t 12), none⟩, ⟨some 14, .len (.t 13), none⟩, ⟨some 15, .ibin .lss (.t 11) (.t 14), none⟩]
def c25_6 : List LOper := [⟨some 5, .mov (.c (.int .i64 0)), none⟩]
def c25_7 : List LOper := [⟨some 18, .mov (.t 5), none⟩, ⟨some 19, .faddr 0 (.t 1), none⟩, ⟨some 20, .load false 1 (.t 19), none⟩, ⟨some 21, .mov (.t 4), none⟩, ⟨some 22, .iaddr 2 (.t 20) (.t 21), none⟩, ⟨some 23, .faddr 1 (.t 22), none⟩, ⟨some 24, .load false 1 (.t 23), none⟩, ⟨some 25, .len (.t 24), none⟩, ⟨some 26, .ibin .lss (.t 18) (.t 25), none⟩]
def c25_8 : List LOper := [⟨some 29, .faddr 0 (.t 1), none⟩, ⟨some 30, .load false 1 (.t 29), none⟩, ⟨some 31, .mov (.t 4), none⟩, ⟨some 32, .iaddr 2 (.t 30) (.t 31), none⟩, ⟨some 33, .faddr 1 (.t 32), none⟩, ⟨some 34, .load false 1 (.t 33), none⟩, ⟨some 35, .mov (.t 5), none⟩, ⟨some 36, .iaddr 2 (.t 34) (.t 35), none⟩, ⟨some 37, .faddr 0 (.t 36), none⟩, ⟨some 38, .load false 1 (.t 37), none⟩, ⟨some 6, .mov (.t 38), none⟩]
def c25_9 : List LOper := [⟨some 39, .mov (.t 6), none⟩, ⟨some 40, .faddr 0 (.t 1), none⟩, ⟨some 41, .load false 1 (.t 40), none⟩, ⟨some 42, .mov (.t 4), none⟩, ⟨some 43, .iaddr 2 (.t 41) (.t 42), none⟩, ⟨some 44, .faddr 1 (.t 43), none⟩, ⟨some 45, .load false 1 (.t 44), none⟩, ⟨some 46, .mov (.t 5), none⟩, ⟨some 47, .iaddr 2 (.t 45) (.t 46), none⟩, ⟨some 48, .faddr 1 (.t 47), none⟩, ⟨some 49, .load false 1 (.t 48), none⟩, ⟨some 50, .ibin .lss (.t 39) (.t 49), none⟩]
def c25_10 : List LOper := [⟨some 53, .mov (.t 3), none⟩, ⟨some 54, .mov (.t 6), none⟩, ⟨some 55, .faddr 0 (.t 1), none⟩, ⟨some 56, .load false 1 (.t 55), none⟩, ⟨some 57, .mov (.t 4), none⟩, ⟨some 58, .iaddr 2 (.t 56) (.t 57), none⟩, ⟨some 59, .faddr 0 (.t 58), none⟩, ⟨some 60, .load false 1 (.t 59), none⟩, ⟨some 61, .build [.int .i64 0, .int .i64 0] [(0, 1, (.t 54)), (1, 1, (.t 60))], none⟩, ⟨some 62, .bslice 1 2 26 [.int .i64 0, .int .i64 0] [(0, 2, (.t 61))], none⟩, ⟨some 63, .app 2 16 26 [.int .i64 0, .int .i64 0] (.t 53) (.t 62), none⟩, ⟨some 3, .mov (.t 63), none⟩]
def c25_11 : List LOper := [⟨some 51, .mov (.t 6), none⟩, ⟨some 52, .ibin .add (.t 51) (.c (.int .i64 1)), none⟩, ⟨some 6, .mov (.t 52), none⟩]
def c25_L0 : LC := (.seq (.seq (.reg false c25_9) (.cond (.t 50) .skip (.seq (.trim [1, 3, 4, 5]) (.exit 4)))) (.seq (.blk 5 (.reg false c25_10)) (.reg false c25_11)))
def c25_13 : List LOper := [⟨some 27, .mov (.t 5), none⟩, ⟨some 28, .ibin .add (.t 27) (.c (.int .i64 1)), none⟩, ⟨some 5, .mov (.t 28), none⟩]
def c25_L1 : LC := (.seq (.seq (.reg false c25_7) (.cond (.t 26) .skip (.seq (.trim [1, 3, 4]) (.exit 2)))) (.seq (.blk 3 (.seq (.reg false c25_8) (.blk 4 (.loop [1, 3, 4, 5, 6] c25_L0)))) (.reg false c25_13)))
def c25_15 : List LOper := [⟨some 16, .mov (.t 4), none⟩, ⟨some 17, .ibin .add (.t 16) (.c (.int .i64 1)), none⟩, ⟨some 4, .mov (.t 17), none⟩]
def c25_L2 : LC := (.seq (.seq (.reg false c25_5) (.cond (.t 15) .skip (.seq (.trim [3]) (.exit 0)))) (.seq (.blk 1 (.seq (.reg false c25_6) (.blk 2 (.loop [1, 3, 4, 5] c25_L1)))) (.reg false c25_15)))
def c25_17 : List LOper := [⟨some 64, .mov (.t 3), none⟩, ⟨some 2, .mov (.t 64), none⟩]
def lc25 : LC := (.seq (.reg false c25_0) (.seq (.reg false c25_1) (.seq (.seq (.reg false c25_2) (.cond (.t 9) (.seq (.reg false c25_3) .ret) .skip)) (.seq (.seq (.reg false c25_4) (.blk 0 (.loop [1, 3, 4] c25_L2))) (.seq (.reg false c25_17) .ret)))))
def lf25 : LFunc := ⟨1, [.tmp 2], true, lc25⟩
def hi25 : Hints := ⟨[], [none, none, none, none, none, none, none, some [1, 3, 4], none, some [3], none, none, some [1, 3, 4, 5], none, some [1, 3, 4], none, none, some [1, 3, 4, 5, 6], none, some [1, 3, 4, 5], none, none, none, none, none, none, none], []⟩
theorem lf25_ok : compF Try.prog hi25 true Try.f25 = some lf25 := by kernel_rfl

/-! additive/additiveref18.Contains -/
def c27_0 : List LOper := [⟨some 2, .box (.t 0), none⟩, ⟨some 3, .box (.t 1), none⟩, ⟨some 4, .mov (.c (.bool false)), none⟩]
def c27_1 : List LOper := [⟨some 5, .load true 1 (.t 2), none⟩, ⟨some 6, .callp 54 [(.t 5)], none⟩, ⟨some 7, .mov (.t 6), none⟩, ⟨some 8, .load true 1 (.t 2), some (7, true)⟩, ⟨some 9, .faddr 1 (.t 3), some (7, true)⟩, ⟨some 10, .load false 1 (.t 9), some (7, true)⟩, ⟨some 11, .callp 56 [(.t 8), (.t 10)], some (7, true)⟩, ⟨some 12, .faddr 0 (.t 3), some (7, true)⟩, ⟨some 13, .load false 1 (.t 12), some (7, true)⟩, ⟨some 14, .callp 55 [(.t 11), (.t 13)], some (7, true)⟩, ⟨some 15, .pick (.t 7) (.t 14) (.c (.bool false)), none⟩, ⟨some 4, .mov (.t 15), none⟩]
def lc27 : LC := (.seq (.reg false c27_0) (.seq (.reg true c27_1) .ret))
def lf27 : LFunc := ⟨2, [.tmp 4], true, lc27⟩
def hi27 : Hints := ⟨[], [none, none, none], []⟩
theorem lf27_ok : compF Try.prog hi27 true Try.f27 = some lf27 := by kernel_rfl

/-! additive/additivelaw34.step -/
def c28_0 : List LOper := [⟨some 2, .box (.t 0), none⟩, ⟨some 3, .box (.t 1), none⟩, ⟨some 4, .mov (.c (.bool false)), none⟩]
def c28_1 : List LOper := [⟨some 7, .faddr 0 (.t 2), none⟩, ⟨some 8, .load false 1 (.t 7), none⟩, ⟨some 9, .faddr 0 (.t 3), none⟩, ⟨some 10, .load false 1 (.t 9), none⟩, ⟨some 11, .ibin .sub (.t 8) (.t 10), none⟩, ⟨some 12, .faddr 1 (.t 2), none⟩, ⟨some 13, .load false 1 (.t 12), none⟩, ⟨some 14, .faddr 1 (.t 3), none⟩, ⟨some 15, .load false 1 (.t 14), none⟩, ⟨some 16, .ibin .sub (.t 13) (.t 15), none⟩, ⟨some 5, .mov (.t 11), none⟩, ⟨some 6, .mov (.t 16), none⟩]
def c28_2 : List LOper := [⟨some 17, .mov (.t 5), none⟩, ⟨some 18, .mov (.t 5), none⟩, ⟨some 19, .ibin .mul (.t 17) (.t 18), none⟩, ⟨some 20, .mov (.t 6), none⟩, ⟨some 21, .mov (.t 6), none⟩, ⟨some 22, .ibin .mul (.t 20) (.t 21), none⟩, ⟨some 23, .ibin .add (.t 19) (.t 22), none⟩, ⟨some 24, .ibin .eql (.t 23) (.c (.int .i64 1)), none⟩, ⟨some 4, .mov (.t 24), none⟩]
def lc28 : LC := (.seq (.reg false c28_0) (.seq (.reg true c28_1) (.seq (.reg false c28_2) .ret)))
def lf28 : LFunc := ⟨2, [.tmp 4], true, lc28⟩
def hi28 : Hints := ⟨[], [none, none, none, none], []⟩
theorem lf28_ok : compF Try.prog hi28 true Try.f28 = some lf28 := by kernel_rfl

/-! additive/region.Contains -/
def c29_0 : List LOper := [⟨some 2, .box (.t 0), none⟩, ⟨some 3, .box (.t 1), none⟩, ⟨some 4, .mov (.c (.bool false)), none⟩]
def c29_1 : List LOper := [⟨some 5, .load true 1 (.t 2), none⟩, ⟨some 6, .callp 57 [(.t 5)], none⟩, ⟨some 7, .mov (.t 6), none⟩, ⟨some 8, .load true 1 (.t 2), some (7, true)⟩, ⟨some 9, .faddr 1 (.t 3), some (7, true)⟩, ⟨some 10, .load false 1 (.t 9), some (7, true)⟩, ⟨some 11, .callp 59 [(.t 8), (.t 10)], some (7, true)⟩, ⟨some 12, .faddr 0 (.t 3), some (7, true)⟩, ⟨some 13, .load false 1 (.t 12), some (7, true)⟩, ⟨some 14, .callp 58 [(.t 11), (.t 13)], some (7, true)⟩, ⟨some 15, .pick (.t 7) (.t 14) (.c (.bool false)), none⟩, ⟨some 4, .mov (.t 15), none⟩]
def lc29 : LC := (.seq (.reg false c29_0) (.seq (.reg true c29_1) .ret))
def lf29 : LFunc := ⟨2, [.tmp 4], true, lc29⟩
def hi29 : Hints := ⟨[], [none, none, none], []⟩
theorem lf29_ok : compF Try.prog hi29 true Try.f29 = some lf29 := by kernel_rfl

/-! additive/comb.Turns -/
def c30_0 : List LOper := [⟨some 2, .mov (.c (.int .i64 0)), none⟩]
def c30_1 : List LOper := [⟨some 5, .mov (.t 0), none⟩, ⟨some 6, .callp 60 [(.t 5)], none⟩, ⟨some 7, .un .not (.t 6), none⟩]
def c30_2 : List LOper := [⟨some 2, .mov (.c (.int .i64 0)), none⟩]
def c30_3 : List LOper := [⟨some 3, .mov (.c (.int .i64 0)), none⟩]
def c30_4 : List LOper := [⟨some 4, .mov (.c (.int .i64 1)), none⟩]
def c30_5 : List LOper := [⟨some 8, .mov (.t 4), none⟩, ⟨some 9, .ibin .add (.t 8) (.c (.int .i64 1)), none⟩, ⟨some 10, .mov (.t 0), none⟩, ⟨some 11, .len (.t 10), none⟩, ⟨some 12, .ibin .lss (.t 9) (.t 11), none⟩]
def c30_6 : List LOper := [⟨some 15, .mov (.t 0), none⟩, ⟨some 16, .mov (.t 4), none⟩, ⟨some 17, .ibin .sub (.t 16) (.c (.int .i64 1)), none⟩, ⟨some 18, .iaddr 2 (.t 15) (.t 17), none⟩, ⟨some 19, .load true 2 (.t 18), none⟩, ⟨some 20, .mov (.t 0), none⟩, ⟨some 21, .mov (.t 4), none⟩, ⟨some 22, .iaddr 2 (.t 20) (.t 21), none⟩, ⟨some 23, .load true 2 (.t 22), none⟩, ⟨some 24, .callp 61 [(.t 19), (.t 23)], none⟩, ⟨some 25, .mov (.t 0), none⟩, ⟨some 26, .mov (.t 4), none⟩, ⟨some 27, .iaddr 2 (.t 25) (.t 26), none⟩, ⟨some 28, .load true 2 (.t 27), none⟩, ⟨some 29, .mov (.t 0), none⟩, ⟨some 30, .mov (.t 4), none⟩, ⟨some 31, .ibin .add (.t 30) (.c (.int .i64 1)), none⟩, ⟨some 32, .iaddr 2 (.t 29) (.t 31), none⟩, ⟨some 33, .load true 2 (.t 32), none⟩, ⟨some 34, .callp 61 [(.t 28), (.t 33)], none⟩, ⟨some 35, .eqv true true [false, false] (.t 24) (.t 34), none⟩]
def c30_7 : List LOper := [⟨some 36, .mov (.t 3), none⟩, ⟨some 37, .ibin .add (.t 36) (.c (.int .i64 1)), none⟩, ⟨some 3, .mov (.t 37), none⟩]
def c30_8 : List LOper := [⟨some 13, .mov (.t 4), none⟩, ⟨some 14, .ibin .add (.t 13) (.c (.int .i64 1)), none⟩, ⟨some 4, .mov (.t 14), none⟩]
def c30_L0 : LC := (.seq (.seq (.reg false c30_5) (.cond (.t 12) .skip (.seq (.trim [3]) (.exit 0)))) (.seq (.blk 1 (.seq (.reg true c30_6) (.cond (.t 35) (.reg false c30_7) .skip))) (.reg false c30_8)))
def c30_10 : List LOper := [⟨some 38, .mov (.t 3), none⟩, ⟨some 2, .mov (.t 38), none⟩]
def lc30 : LC := (.seq (.reg false c30_0) (.seq (.seq (.reg false c30_1) (.cond (.t 7) (.seq (.reg false c30_2) .ret) .skip)) (.seq (.reg false c30_3) (.seq (.seq (.reg false c30_4) (.blk 0 (.loop [0, 3, 4] c30_L0))) (.seq (.reg false c30_10) .ret)))))
def lf30 : LFunc := ⟨1, [.tmp 2], true, lc30⟩
def hi30 : Hints := ⟨[], [none, none, none, none, none, none, none, some [0, 3, 4], none, some [3], none, none, none, none, none, none], []⟩
theorem lf30_ok : compF Try.prog hi30 true Try.f30 = some lf30 := by kernel_rfl

/-! additive/additivelaw34.eased -/
def c32_0 : List LOper := [⟨some 0, .mov (.c (.bool false)), none⟩]
def c32_1 : List LOper := [⟨some 4, .build [.int .i64 0, .int .i64 0] [(0, 1, (.c (.int .i64 0))), (1, 1, (.c (.int .i64 3)))], none⟩, ⟨some 5, .bslz 1 2 78 [.int .i64 0, .int .i64 0] [(0, 2, (.t 4))], none⟩, ⟨some 6, .build [.int .i64 0, .nils] [(1, 1, (.t 5))], none⟩, ⟨some 7, .build [.int .i64 0, .int .i64 0] [(0, 1, (.c (.int .i64 0))), (1, 1, (.c (.int .i64 3)))], none⟩, ⟨some 8, .bslz 1 2 78 [.int .i64 0, .int .i64 0] [(0, 2, (.t 7))], none⟩, ⟨some 9, .build [.int .i64 0, .nils] [(0, 1, (.c (.int .i64 1))), (1, 1, (.t 8))], none⟩, ⟨some 10, .build [.int .i64 0, .int .i64 0] [(0, 1, (.c (.int .i64 0))), (1, 1, (.c (.int .i64 3)))], none⟩, ⟨some 11, .bslz 1 2 78 [.int .i64 0, .int .i64 0] [(0, 2, (.t 10))], none⟩, ⟨some 12, .build [.int .i64 0, .nils] [(0, 1, (.c (.int .i64 2))), (1, 1, (.t 11))], none⟩, ⟨some 13, .bslice 3 2 65 [.int .i64 0, .nils] [(0, 2, (.t 6)), (2, 2, (.t 9)), (4, 2, (.t 12))], none⟩, ⟨some 14, .build [.nils] [(0, 1, (.t 13))], none⟩, ⟨some 1, .alloc [.nils], none⟩, ⟨none, .store 1 (.t 1) (.t 14), none⟩]
def c32_2 : List LOper := [⟨some 16, .load true 1 (.t 1), none⟩, ⟨some 17, .build [.int .i64 0, .int .i64 0] [], none⟩, ⟨some 18, .build [.int .i64 0, .int .i64 0] [(0, 1, (.c (.int .i64 2))), (1, 1, (.c (.int .i64 2)))], none⟩, ⟨some 19, .callz 33 [(.t 16), (.t 17), (.t 18)], none⟩, ⟨some 15, .mov (.t 19), none⟩, ⟨some 20, .ext (.t 15) 0, none⟩, ⟨some 21, .ext (.t 15) 1, none⟩, ⟨some 2, .mov (.t 20), none⟩, ⟨some 3, .mov (.t 21), none⟩]
def c32_3 : List LOper := [⟨some 22, .mov (.t 3), none⟩, ⟨some 23, .mov (.t 22), none⟩, ⟨some 24, .mov (.t 2), some (23, true)⟩, ⟨some 25, .build [.int .i64 0, .int .i64 0] [], some (23, true)⟩, ⟨some 26, .build [.int .i64 0, .int .i64 0] [(0, 1, (.c (.int .i64 1)))], some (23, true)⟩, ⟨some 27, .build [.int .i64 0, .int .i64 0] [(0, 1, (.c (.int .i64 2)))], some (23, true)⟩, ⟨some 28, .build [.int .i64 0, .int .i64 0] [(0, 1, (.c (.int .i64 2))), (1, 1, (.c (.int .i64 1)))], some (23, true)⟩, ⟨some 29, .build [.int .i64 0, .int .i64 0] [(0, 1, (.c (.int .i64 2))), (1, 1, (.c (.int .i64 2)))], some (23, true)⟩, ⟨some 30, .bslice 5 2 26 [.int .i64 0, .int .i64 0] [(0, 2, (.t 25)), (2, 2, (.t 26)), (4, 2, (.t 27)), (6, 2, (.t 28)), (8, 2, (.t 29))], some (23, true)⟩, ⟨some 31, .callp 20 [(.t 24), (.t 30)], some (23, true)⟩, ⟨some 32, .pick (.t 23) (.t 31) (.c (.bool false)), none⟩, ⟨some 33, .mov (.t 32), none⟩, ⟨some 34, .mov (.t 2), some (33, true)⟩, ⟨some 35, .callp 30 [(.t 34)], some (33, true)⟩, ⟨some 36, .ibin .eql (.t 35) (.c (.int .i64 1)), some (33, true)⟩, ⟨some 37, .pick (.t 33) (.t 36) (.c (.bool false)), none⟩, ⟨some 38, .mov (.t 37), none⟩, ⟨some 39, .build [.int .i64 0, .int .i64 0] [], some (38, true)⟩, ⟨some 40, .build [.int .i64 0, .int .i64 0] [(0, 1, (.c (.int .i64 1)))], some (38, true)⟩, ⟨some 41, .build [.int .i64 0, .int .i64 0] [], some (38, true)⟩, ⟨some 42, .bslice 3 2 26 [.int .i64 0, .int .i64 0] [(0, 2, (.t 39)), (2, 2, (.t 40)), (4, 2, (.t 41))], some (38, true)⟩, ⟨some 43, .callp 30 [(.t 42)], some (38, true)⟩, ⟨some 44, .ibin .eql (.t 43) (.c (.int .i64 1)), some (38, true)⟩, ⟨some 45, .pick (.t 38) (.t 44) (.c (.bool false)), none⟩, ⟨some 46, .mov (.t 45), none⟩, ⟨some 47, .build [.int .i64 0, .int .i64 0] [], some (46, true)⟩, ⟨some 48, .build [.int .i64 0, .int .i64 0] [(0, 1, (.c (.int .i64 1))), (1, 1, (.c (.int .i64 1)))], some (46, true)⟩, ⟨some 49, .build [.int .i64 0, .int .i64 0] [(0, 1, (.c (.int .i64 1)))], some (46, true)⟩, ⟨some 50, .bslice 3 2 26 [.int .i64 0, .int .i64 0] [(0, 2, (.t 47)), (2, 2, (.t 48)), (4, 2, (.t 49))], some (46, true)⟩, ⟨some 51, .callp 30 [(.t 50)], some (46, true)⟩, ⟨some 52, .ibin .eql (.t 51) (.c (.int .i64 0)), some (46, true)⟩, ⟨some 53, .pick (.t 46) (.t 52) (.c (.bool false)), none⟩, ⟨some 54, .mov (.t 53), none⟩, ⟨some 55, .callp 17 [], some (54, true)⟩, ⟨some 56, .pick (.t 54) (.t 55) (.c (.bool false)), none⟩, ⟨some 0, .mov (.t 56), none⟩]
def lc32 : LC := (.seq (.reg false c32_0) (.seq (.reg false c32_1) (.seq (.reg false c32_2) (.seq (.reg false c32_3) .ret))))
def lf32 : LFunc := ⟨0, [.tmp 0], true, lc32⟩
def hi32 : Hints := ⟨[(5, .z), (8, .z), (11, .z), (19, .z)], [none, none, none, none, none], []⟩
theorem lf32_ok : compF Try.prog hi32 true Try.f32 = some lf32 := by kernel_rfl

/-! additive/comb.Easy -/
def c33_0 : List LOper := [⟨some 3, .box (.t 0), none⟩, ⟨some 4, .box (.t 1), none⟩, ⟨some 5, .box (.t 2), none⟩, ⟨some 6, .mov (.c (.nils)), none⟩, ⟨some 7, .mov (.c (.bool false)), none⟩]
def c33_1 : List LOper := [⟨some 15, .load true 1 (.t 3), none⟩, ⟨some 16, .load true 2 (.t 4), none⟩, ⟨some 17, .callp 29 [(.t 15), (.t 16)], none⟩, ⟨some 18, .un .not (.t 17), none⟩, ⟨some 19, .mov (.t 18), none⟩, ⟨some 20, .load true 1 (.t 3), some (19, false)⟩, ⟨some 21, .load true 2 (.t 5), some (19, false)⟩, ⟨some 22, .callp 29 [(.t 20), (.t 21)], some (19, false)⟩, ⟨some 23, .un .not (.t 22), some (19, false)⟩, ⟨some 24, .pick (.t 19) (.c (.bool true)) (.t 23), none⟩]
def c33_2 : List LOper := [⟨some 6, .mov (.c (.nils)), none⟩, ⟨some 7, .mov (.c (.bool false)), none⟩]
def c33_3 : List LOper := [⟨some 25, .load true 1 (.t 3), none⟩, ⟨some 26, .load true 2 (.t 4), none⟩, ⟨some 27, .load true 2 (.t 5), none⟩, ⟨some 28, .callz 63 [(.t 25), (.t 26), (.t 27)], none⟩, ⟨some 8, .mov (.t 28), none⟩]
def c33_4 : List LOper := [⟨some 30, .mov (.t 8), none⟩, ⟨some 31, .load true 2 (.t 4), none⟩, ⟨some 32, .look true true [false, false] (.agg [.int .i64 0, .int .i64 0, .int .i64 0, .int .i64 0, .int .i64 0]) (.t 30) (.t 31), none⟩, ⟨some 29, .mov (.t 32), none⟩, ⟨some 33, .ext (.t 29) 0, none⟩, ⟨some 34, .ext (.t 29) 1, none⟩, ⟨some 9, .alloc [.int .i64 0, .int .i64 0, .int .i64 0, .int .i64 0, .int .i64 0], none⟩, ⟨none, .store 5 (.t 9) (.t 33), none⟩, ⟨some 10, .mov (.t 34), none⟩]
def c33_5 : List LOper := [⟨some 35, .mov (.t 10), none⟩, ⟨some 36, .un .not (.t 35), none⟩]
def c33_6 : List LOper := [⟨some 6, .mov (.c (.nils)), none⟩, ⟨some 7, .mov (.c (.bool false)), none⟩]
def c33_7 : List LOper := [⟨some 37, .load true 2 (.t 4), none⟩, ⟨some 38, .bslice 1 2 26 [.int .i64 0, .int .i64 0] [(0, 2, (.t 37))], none⟩, ⟨some 11, .mov (.t 38), none⟩]
def c33_8 : List LOper := [⟨some 39, .load true 2 (.t 4), none⟩, ⟨some 12, .alloc [.int .i64 0, .int .i64 0], none⟩, ⟨none, .store 2 (.t 12) (.t 39), none⟩, ⟨some 13, .mov (.c (.int .i64 (-1))), none⟩]
def c33_9 : List LOper := [⟨some 40, .load true 2 (.t 12), none⟩, ⟨some 41, .load true 2 (.t 5), none⟩, ⟨some 42, .eqv true true [false, false] (.t 40) (.t 41), none⟩]
def c33_10 : List LOper := [⟨some 44, .mov (.t 8), none⟩, ⟨some 45, .load true 2 (.t 12), none⟩, ⟨some 46, .look false true [false, false] (.agg [.int .i64 0, .int .i64 0, .int .i64 0, .int .i64 0, .int .i64 0]) (.t 44) (.t 45), none⟩, ⟨some 47, .mov (.t 13), none⟩, ⟨some 48, .callp 64 [(.t 46), (.t 47)], none⟩, ⟨some 43, .mov (.t 48), none⟩, ⟨some 49, .ext (.t 43) 0, none⟩, ⟨some 50, .ext (.t 43) 1, none⟩, ⟨some 13, .mov (.t 50), none⟩]
def c33_11 : List LOper := [⟨some 51, .callp 65 [], none⟩, ⟨some 52, .mov (.t 13), none⟩, ⟨some 53, .idx 4 2 true (.t 51) (.t 52), none⟩, ⟨some 14, .alloc [.int .i64 0, .int .i64 0], none⟩, ⟨none, .store 2 (.t 14) (.t 53), none⟩]
def c33_12 : List LOper := [⟨some 54, .faddr 0 (.t 12), none⟩, ⟨some 55, .load false 1 (.t 54), none⟩, ⟨some 56, .faddr 0 (.t 14), none⟩, ⟨some 57, .load false 1 (.t 56), none⟩, ⟨some 58, .ibin .add (.t 55) (.t 57), none⟩, ⟨some 59, .faddr 1 (.t 12), none⟩, ⟨some 60, .load false 1 (.t 59), none⟩, ⟨some 61, .faddr 1 (.t 14), none⟩, ⟨some 62, .load false 1 (.t 61), none⟩, ⟨some 63, .ibin .add (.t 60) (.t 62), none⟩, ⟨some 64, .build [.int .i64 0, .int .i64 0] [(0, 1, (.t 58)), (1, 1, (.t 63))], none⟩, ⟨none, .store 2 (.t 12) (.t 64), none⟩]
def c33_13 : List LOper := [⟨some 65, .mov (.t 11), none⟩, ⟨some 66, .load true 2 (.t 12), none⟩, ⟨some 67, .bslice 1 2 26 [.int .i64 0, .int .i64 0] [(0, 2, (.t 66))], none⟩, ⟨some 68, .app 2 16 26 [.int .i64 0, .int .i64 0] (.t 65) (.t 67), none⟩, ⟨some 11, .mov (.t 68), none⟩]
def c33_14 : List LOper := [⟨some 69, .load true 2 (.t 12), none⟩]
def c33_15 : List LOper := [⟨some 12, .alloc [.int .i64 0, .int .i64 0], none⟩, ⟨none, .store 2 (.t 12) (.t 69), none⟩]
def c33_L0 : LC := (.seq (.seq (.reg false c33_9) (.cond (.t 42) .skip (.seq (.trim [11]) (.exit 0)))) (.seq (.blk 1 (.seq (.reg false c33_10) (.seq (.reg false c33_11) (.seq (.reg false c33_12) (.reg false c33_13))))) (.seq (.reg false c33_14) (.reg false c33_15))))
def c33_17 : List LOper := [⟨some 70, .mov (.t 11), none⟩, ⟨some 6, .mov (.t 70), none⟩, ⟨some 7, .mov (.c (.bool true)), none⟩]
def lc33 : LC := (.seq (.reg false c33_0) (.seq (.seq (.reg false c33_1) (.cond (.t 24) (.seq (.reg false c33_2) .ret) .skip)) (.seq (.reg false c33_3) (.seq (.seq (.reg false c33_4) (.seq (.reg false c33_5) (.cond (.t 36) (.seq (.reg false c33_6) .ret) .skip))) (.seq (.reg false c33_7) (.seq (.seq (.reg false c33_8) (.blk 0 (.loop [5, 8, 11, 12, 13] c33_L0))) (.seq (.reg false c33_17) .ret)))))))
def lf33 : LFunc := ⟨3, [.tmp 6, .tmp 7], true, lc33⟩
def hi33 : Hints := ⟨[(28, .z)], [none, none, none, none, none, none, none, none, none, none, none, none, none, some [5, 8, 11, 12, 13], none, some [11], none, none, none, none, none, none, none, none, none], []⟩
theorem lf33_ok : compF Try.prog hi33 true Try.f33 = some lf33 := by kernel_rfl

/-! additive/additiveref34.Easy -/
def c34_0 : List LOper := [⟨some 3, .box (.t 0), none⟩, ⟨some 4, .box (.t 1), none⟩, ⟨some 5, .box (.t 2), none⟩, ⟨some 6, .mov (.c (.nils)), none⟩, ⟨some 7, .mov (.c (.bool false)), none⟩]
def c34_1 : List LOper := [⟨some 28, .load true 1 (.t 3), none⟩, ⟨some 29, .load true 2 (.t 4), none⟩, ⟨some 30, .load true 2 (.t 5), none⟩, ⟨some 31, .callz 19 [(.t 28), (.t 29), (.t 30)], none⟩, ⟨some 27, .mov (.t 31), none⟩, ⟨some 32, .ext (.t 27) 0, none⟩, ⟨some 33, .ext (.t 27) 1, none⟩, ⟨some 8, .mov (.t 32), none⟩, ⟨some 9, .mov (.t 33), none⟩]
def c34_2 : List LOper := [⟨some 34, .mov (.t 9), none⟩, ⟨some 35, .un .not (.t 34), none⟩]
def c34_3 : List LOper := [⟨some 6, .mov (.c (.nils)), none⟩, ⟨some 7, .mov (.c (.bool false)), none⟩]
def c34_4 : List LOper := [⟨some 36, .load true 1 (.t 3), none⟩, ⟨some 37, .callz 25 [(.t 36)], none⟩, ⟨some 10, .mov (.t 37), none⟩]
def c34_5 : List LOper := [⟨some 38, .mov (.t 10), none⟩, ⟨some 39, .callz 66 [(.t 38)], none⟩, ⟨some 11, .mov (.t 39), none⟩]
def c34_6 : List LOper := [⟨some 40, .mov (.t 11), none⟩, ⟨some 41, .mov (.t 10), none⟩, ⟨some 42, .load true 2 (.t 5), none⟩, ⟨some 43, .callp 68 [(.t 41), (.t 42)], none⟩, ⟨some 44, .callz 67 [(.t 40), (.t 43)], none⟩, ⟨some 12, .mov (.t 44), none⟩]
def c34_7 : List LOper := [⟨some 45, .mov (.t 10), none⟩, ⟨some 46, .len (.t 45), none⟩, ⟨some 47, .mkS 1 8 3 [.int .i64 0] (.t 46) (.t 46), none⟩, ⟨some 13, .mov (.t 47), none⟩]
def c34_8 : List LOper := [⟨some 48, .mov (.t 10), none⟩, ⟨some 49, .len (.t 48), none⟩, ⟨some 50, .mkS 5 40 99 [.int .i64 0, .int .i64 0, .int .i64 0, .int .i64 0, .int .i64 0] (.t 49) (.t 49), none⟩, ⟨some 14, .mov (.t 50), none⟩]
def c34_9 : List LOper := [⟨some 15, .mov (.c (.int .i64 0)), none⟩]
def c34_10 : List LOper := [⟨some 51, .mov (.t 15), none⟩, ⟨some 52, .mov (.t 10), none⟩, ⟨some 53, .len (.t 52), none⟩, ⟨some 54, .ibin .lss (.t 51) (.t 53), none⟩]
def c34_11 : List LOper := [⟨some 57, .mov (.t 13), none⟩, ⟨some 58, .mov (.t 15), none⟩, ⟨some 59, .iaddr 1 (.t 57) (.t 58), none⟩, ⟨none, .store 1 (.t 59) (.c (.int .i64 (-1))), none⟩]
def c34_12 : List LOper := [⟨some 55, .mov (.t 15), none⟩, ⟨some 56, .ibin .add (.t 55) (.c (.int .i64 1)), none⟩, ⟨some 15, .mov (.t 56), none⟩]
def c34_L0 : LC := (.seq (.seq (.reg false c34_10) (.cond (.t 54) .skip (.seq (.trim [4, 5, 10, 11, 12, 13, 14]) (.exit 0)))) (.seq (.blk 1 (.reg false c34_11)) (.reg false c34_12)))
def c34_14 : List LOper := [⟨some 16, .mov (.c (.int .i64 0)), none⟩]
def c34_15 : List LOper := [⟨some 60, .mov (.t 16), none⟩, ⟨some 61, .mov (.t 12), none⟩, ⟨some 62, .len (.t 61), none⟩, ⟨some 63, .ibin .lss (.t 60) (.t 62), none⟩]
def c34_16 : List LOper := [⟨some 17, .mov (.c (.int .i64 0)), none⟩]
def c34_17 : List LOper := [⟨some 66, .mov (.t 17), none⟩, ⟨some 67, .mov (.t 12), none⟩, ⟨some 68, .mov (.t 16), none⟩, ⟨some 69, .iaddr 1 (.t 67) (.t 68), none⟩, ⟨some 70, .load false 1 (.t 69), none⟩, ⟨some 71, .len (.t 70), none⟩, ⟨some 72, .ibin .lss (.t 66) (.t 71), none⟩]
def c34_18 : List LOper := [⟨some 75, .mov (.t 12), none⟩, ⟨some 76, .mov (.t 16), none⟩, ⟨some 77, .iaddr 1 (.t 75) (.t 76), none⟩, ⟨some 78, .load false 1 (.t 77), none⟩, ⟨some 79, .mov (.t 17), none⟩, ⟨some 80, .iaddr 1 (.t 78) (.t 79), none⟩, ⟨some 81, .load false 1 (.t 80), none⟩, ⟨some 18, .mov (.t 81), none⟩]
def c34_19 : List LOper := [⟨some 82, .mov (.t 13), none⟩, ⟨some 83, .mov (.t 18), none⟩, ⟨some 84, .mov (.t 16), none⟩, ⟨some 85, .iaddr 1 (.t 82) (.t 83), none⟩, ⟨none, .store 1 (.t 85) (.t 84), none⟩]
def c34_20 : List LOper := [⟨some 19, .mov (.c (.int .i64 0)), none⟩]
def c34_21 : List LOper := [⟨some 86, .mov (.t 19), none⟩, ⟨some 87, .ibin .lss (.t 86) (.c (.int .i64 5)), none⟩, ⟨some 88, .mov (.t 87), none⟩, ⟨some 89, .mov (.t 16), some (88, true)⟩, ⟨some 90, .ibin .gtr (.t 89) (.c (.int .i64 0)), some (88, true)⟩, ⟨some 91, .pick (.t 88) (.t 90) (.c (.bool false)), none⟩]
def c34_22 : List LOper := [⟨some 95, .mov (.t 11), none⟩, ⟨some 96, .mov (.t 13), none⟩, ⟨some 97, .mov (.t 14), none⟩, ⟨some 98, .mov (.t 18), none⟩, ⟨some 99, .mov (.t 19), none⟩, ⟨some 100, .callp 69 [(.t 95), (.t 96), (.t 97), (.t 98), (.t 99)], none⟩, ⟨some 94, .mov (.t 100), none⟩, ⟨some 101, .ext (.t 94) 0, none⟩, ⟨some 102, .ext (.t 94) 1, none⟩, ⟨some 20, .mov (.t 101), none⟩, ⟨some 21, .mov (.t 102), none⟩]
def c34_23 : List LOper := [⟨some 103, .mov (.t 14), none⟩, ⟨some 104, .mov (.t 18), none⟩, ⟨some 105, .mov (.t 19), none⟩, ⟨some 106, .mov (.t 21), none⟩, ⟨some 107, .iaddr 5 (.t 103) (.t 104), none⟩, ⟨some 108, .iaddrA 5 1 (.t 107) (.t 105), none⟩, ⟨none, .store 1 (.t 108) (.t 106), none⟩]
def c34_24 : List LOper := [⟨some 92, .mov (.t 19), none⟩, ⟨some 93, .ibin .add (.t 92) (.c (.int .i64 1)), none⟩, ⟨some 19, .mov (.t 93), none⟩]
def c34_L1 : LC := (.seq (.seq (.reg false c34_21) (.cond (.t 91) .skip (.seq (.trim [4, 5, 10, 11, 12, 13, 14, 16, 17]) (.exit 6)))) (.seq (.blk 7 (.seq (.reg false c34_22) (.reg false c34_23))) (.reg false c34_24)))
def c34_26 : List LOper := [⟨some 73, .mov (.t 17), none⟩, ⟨some 74, .ibin .add (.t 73) (.c (.int .i64 1)), none⟩, ⟨some 17, .mov (.t 74), none⟩]
def c34_L2 : LC := (.seq (.seq (.reg false c34_17) (.cond (.t 72) .skip (.seq (.trim [4, 5, 10, 11, 12, 13, 14, 16]) (.exit 4)))) (.seq (.blk 5 (.seq (.reg false c34_18) (.seq (.reg false c34_19) (.seq (.reg false c34_20) (.blk 6 (.loop [4, 5, 10, 11, 12, 13, 14, 16, 17, 18, 19] c34_L1)))))) (.reg false c34_26)))
def c34_28 : List LOper := [⟨some 64, .mov (.t 16), none⟩, ⟨some 65, .ibin .add (.t 64) (.c (.int .i64 1)), none⟩, ⟨some 16, .mov (.t 65), none⟩]
def c34_L3 : LC := (.seq (.seq (.reg false c34_15) (.cond (.t 63) .skip (.seq (.trim [4, 5, 10, 11, 13, 14]) (.exit 2)))) (.seq (.blk 3 (.seq (.reg false c34_16) (.blk 4 (.loop [4, 5, 10, 11, 12, 13, 14, 16, 17] c34_L2)))) (.reg false c34_28)))
def c34_30 : List LOper := [⟨some 109, .mov (.t 10), none⟩, ⟨some 110, .load true 2 (.t 4), none⟩, ⟨some 111, .callp 68 [(.t 109), (.t 110)], none⟩, ⟨some 22, .mov (.t 111), none⟩]
def c34_31 : List LOper := [⟨some 112, .load true 2 (.t 4), none⟩, ⟨some 113, .bslice 1 2 26 [.int .i64 0, .int .i64 0] [(0, 2, (.t 112))], none⟩, ⟨some 23, .mov (.t 113), none⟩]
def c34_32 : List LOper := [⟨some 24, .mov (.c (.int .i64 4)), none⟩]
def c34_33 : List LOper := [⟨some 114, .mov (.t 10), none⟩, ⟨some 115, .mov (.t 22), none⟩, ⟨some 116, .iaddr 2 (.t 114) (.t 115), none⟩, ⟨some 117, .load true 2 (.t 116), none⟩, ⟨some 118, .load true 2 (.t 5), none⟩, ⟨some 119, .eqv true true [false, false] (.t 117) (.t 118), none⟩]
def c34_34 : List LOper := [⟨some 121, .mov (.t 11), none⟩, ⟨some 122, .mov (.t 13), none⟩, ⟨some 123, .mov (.t 14), none⟩, ⟨some 124, .mov (.t 22), none⟩, ⟨some 125, .mov (.t 24), none⟩, ⟨some 126, .callp 69 [(.t 121), (.t 122), (.t 123), (.t 124), (.t 125)], none⟩, ⟨some 120, .mov (.t 126), none⟩, ⟨some 127, .ext (.t 120) 0, none⟩, ⟨some 128, .ext (.t 120) 1, none⟩, ⟨some 25, .mov (.t 127), none⟩, ⟨some 26, .mov (.t 128), none⟩]
def c34_35 : List LOper := [⟨some 129, .mov (.t 11), none⟩, ⟨some 130, .mov (.t 22), none⟩, ⟨some 131, .mov (.t 25), none⟩, ⟨some 132, .iaddr 4 (.t 129) (.t 130), none⟩, ⟨some 133, .iaddrA 4 1 (.t 132) (.t 131), none⟩, ⟨some 134, .load false 1 (.t 133), none⟩, ⟨some 22, .mov (.t 134), none⟩]
def c34_36 : List LOper := [⟨some 135, .mov (.t 25), none⟩, ⟨some 24, .mov (.t 135), none⟩]
def c34_37 : List LOper := [⟨some 136, .mov (.t 23), none⟩, ⟨some 137, .mov (.t 10), none⟩, ⟨some 138, .mov (.t 22), none⟩, ⟨some 139, .iaddr 2 (.t 137) (.t 138), none⟩, ⟨some 140, .load true 2 (.t 139), none⟩, ⟨some 141, .bslice 1 2 26 [.int .i64 0, .int .i64 0] [(0, 2, (.t 140))], none⟩, ⟨some 142, .app 2 16 26 [.int .i64 0, .int .i64 0] (.t 136) (.t 141), none⟩, ⟨some 23, .mov (.t 142), none⟩]
def c34_L4 : LC := (.seq (.seq (.reg true c34_33) (.cond (.t 119) .skip (.seq (.trim [23]) (.exit 8)))) (.blk 9 (.seq (.reg false c34_34) (.seq (.reg false c34_35) (.seq (.reg false c34_36) (.reg false c34_37))))))
def c34_39 : List LOper := [⟨some 143, .mov (.t 23), none⟩, ⟨some 6, .mov (.t 143), none⟩, ⟨some 7, .mov (.c (.bool true)), none⟩]
def lc34 : LC := (.seq (.reg false c34_0) (.seq (.seq (.reg false c34_1) (.seq (.reg false c34_2) (.cond (.t 35) (.seq (.reg false c34_3) .ret) .skip))) (.seq (.reg false c34_4) (.seq (.reg false c34_5) (.seq (.reg false c34_6) (.seq (.reg false c34_7) (.seq (.reg false c34_8) (.seq (.seq (.reg false c34_9) (.blk 0 (.loop [4, 5, 10, 11, 12, 13, 14, 15] c34_L0))) (.seq (.seq (.reg false c34_14) (.blk 2 (.loop [4, 5, 10, 11, 12, 13, 14, 16] c34_L3))) (.seq (.reg false c34_30) (.seq (.reg false c34_31) (.seq (.reg false c34_32) (.seq (.blk 8 (.loop [5, 10, 11, 13, 14, 22, 23, 24] c34_L4)) (.seq (.reg false c34_39) .ret))))))))))))))
def lf34 : LFunc := ⟨3, [.tmp 6, .tmp 7], true, lc34⟩
def hi34 : Hints := ⟨[(31, .z), (37, .z), (39, .z), (44, .z)], [none, none, none, none, none, none, none, none, none, none, none, none, some [4, 5, 10, 11, 12, 13, 14, 15], none, some [4, 5, 10, 11, 12, 13, 14], none, none, none, none, some [4, 5, 10, 11, 12, 13, 14, 16], none, some [4, 5, 10, 11, 13, 14], none, none, some [4, 5, 10, 11, 12, 13, 14, 16, 17], none, some [4, 5, 10, 11, 12, 13, 14, 16], none, none, none, none, some [4, 5, 10, 11, 12, 13, 14, 16, 17, 18, 19], none, some [4, 5, 10, 11, 12, 13, 14, 16, 17], none, none, none, none, none, none, none, none, none, some [5, 10, 11, 13, 14, 22, 23, 24], none, some [23], none, none, none, none, none, none, none], []⟩
theorem lf34_ok : compF Try.prog hi34 true Try.f34 = some lf34 := by kernel_rfl

/-! additive/additiveref18.Count -/
def c46_0 : List LOper := [⟨some 1, .box (.t 0), none⟩, ⟨some 2, .mov (.c (.int .i64 0)), none⟩]
def c46_1 : List LOper := [⟨some 3, .mov (.c (.int .i64 0)), none⟩]
def c46_2 : List LOper := [⟨some 6, .load true 1 (.t 1), none⟩, ⟨some 7, .callp 54 [(.t 6)], none⟩, ⟨some 8, .un .not (.t 7), none⟩]
def c46_3 : List LOper := [⟨some 9, .mov (.t 3), none⟩, ⟨some 2, .mov (.t 9), none⟩]
def c46_4 : List LOper := [⟨some 4, .mov (.c (.int .i64 0)), none⟩]
def c46_5 : List LOper := [⟨some 10, .mov (.t 4), none⟩, ⟨some 11, .faddr 0 (.t 1), none⟩, ⟨some 12, .load false 1 (.t 11), none⟩, ⟨some 13, .len (.t 12), none⟩, ⟨some 14, .ibin .lss (.t 10) (.t 13), none⟩]
def c46_6 : List LOper := [⟨some 5, .mov (.c (.int .i64 0)), none⟩]
def c46_7 : List LOper := [⟨some 17, .mov (.t 5), none⟩, ⟨some 18, .faddr 0 (.t 1), none⟩, ⟨some 19, .load false 1 (.t 18), none⟩, ⟨some 20, .mov (.t 4), none⟩, ⟨some 21, .iaddr 2 (.t 19) (.t 20), none⟩, ⟨some 22, .faddr 1 (.t 21), none⟩, ⟨some 23, .load false 1 (.t 22), none⟩, ⟨some 24, .len (.t 23), none⟩, ⟨some 25, .ibin .lss (.t 17) (.t 24), none⟩]
def c46_8 : List LOper := [⟨some 28, .mov (.t 3), none⟩, ⟨some 29, .faddr 0 (.t 1), none⟩, ⟨some 30, .load false 1 (.t 29), none⟩, ⟨some 31, .mov (.t 4), none⟩, ⟨some 32, .iaddr 2 (.t 30) (.t 31), none⟩, ⟨some 33, .faddr 1 (.t 32), none⟩, ⟨some 34, .load false 1 (.t 33), none⟩, ⟨some 35, .mov (.t 5), none⟩, ⟨some 36, .iaddr 2 (.t 34) (.t 35), none⟩, ⟨some 37, .faddr 1 (.t 36), none⟩, ⟨some 38, .load false 1 (.t 37), none⟩, ⟨some 39, .faddr 0 (.t 1), none⟩, ⟨some 40, .load false 1 (.t 39), none⟩, ⟨some 41, .mov (.t 4), none⟩, ⟨some 42, .iaddr 2 (.t 40) (.t 41), none⟩, ⟨some 43, .faddr 1 (.t 42), none⟩, ⟨some 44, .load false 1 (.t 43), none⟩, ⟨some 45, .mov (.t 5), none⟩, ⟨some 46, .iaddr 2 (.t 44) (.t 45), none⟩, ⟨some 47, .faddr 0 (.t 46), none⟩, ⟨some 48, .load false 1 (.t 47), none⟩, ⟨some 49, .ibin .sub (.t 38) (.t 48), none⟩, ⟨some 50, .ibin .add (.t 28) (.t 49), none⟩, ⟨some 3, .mov (.t 50), none⟩]
def c46_9 : List LOper := [⟨some 26, .mov (.t 5), none⟩, ⟨some 27, .ibin .add (.t 26) (.c (.int .i64 1)), none⟩, ⟨some 5, .mov (.t 27), none⟩]
def c46_L0 : LC := (.seq (.seq (.reg false c46_7) (.cond (.t 25) .skip (.seq (.trim [1, 3, 4]) (.exit 2)))) (.seq (.blk 3 (.reg true c46_8)) (.reg false c46_9)))
def c46_11 : List LOper := [⟨some 15, .mov (.t 4), none⟩, ⟨some 16, .ibin .add (.t 15) (.c (.int .i64 1)), none⟩, ⟨some 4, .mov (.t 16), none⟩]
def c46_L1 : LC := (.seq (.seq (.reg false c46_5) (.cond (.t 14) .skip (.seq (.trim [3]) (.exit 0)))) (.seq (.blk 1 (.seq (.reg false c46_6) (.blk 2 (.loop [1, 3, 4, 5] c46_L0)))) (.reg false c46_11)))
def c46_13 : List LOper := [⟨some 51, .mov (.t 3), none⟩, ⟨some 2, .mov (.t 51), none⟩]
def lc46 : LC := (.seq (.reg false c46_0) (.seq (.reg false c46_1) (.seq (.seq (.reg false c46_2) (.cond (.t 8) (.seq (.reg false c46_3) .ret) .skip)) (.seq (.seq (.reg false c46_4) (.blk 0 (.loop [1, 3, 4] c46_L1))) (.seq (.reg false c46_13) .ret)))))
def lf46 : LFunc := ⟨1, [.tmp 2], true, lc46⟩
def hi46 : Hints := ⟨[], [none, none, none, none, none, none, none, some [1, 3, 4], none, some [3], none, none, some [1, 3, 4, 5], none, some [1, 3, 4], none, none, none, none, none, none], []⟩
theorem lf46_ok : compF Try.prog hi46 true Try.f46 = some lf46 := by kernel_rfl

/-! additive/additivelaw34.square -/
def c47_0 : List LOper := [⟨some 0, .alloc [.nils], none⟩]
def c47_1 : List LOper := [⟨some 1, .build [.int .i64 0, .int .i64 0] [(0, 1, (.c (.int .i64 0))), (1, 1, (.c (.int .i64 2)))], none⟩, ⟨some 2, .bslz 1 2 78 [.int .i64 0, .int .i64 0] [(0, 2, (.t 1))], none⟩, ⟨some 3, .build [.int .i64 0, .nils] [(1, 1, (.t 2))], none⟩, ⟨some 4, .build [.int .i64 0, .int .i64 0] [(0, 1, (.c (.int .i64 0))), (1, 1, (.c (.int .i64 2)))], none⟩, ⟨some 5, .bslz 1 2 78 [.int .i64 0, .int .i64 0] [(0, 2, (.t 4))], none⟩, ⟨some 6, .build [.int .i64 0, .nils] [(0, 1, (.c (.int .i64 1))), (1, 1, (.t 5))], none⟩, ⟨some 7, .bslice 2 2 65 [.int .i64 0, .nils] [(0, 2, (.t 3)), (2, 2, (.t 6))], none⟩, ⟨some 8, .build [.nils] [(0, 1, (.t 7))], none⟩, ⟨none, .store 1 (.t 0) (.t 8), none⟩]
def lc47 : LC := (.seq (.reg false c47_0) (.seq (.reg false c47_1) .ret))
def lf47 : LFunc := ⟨0, [.cell 0 true 1], true, lc47⟩
def hi47 : Hints := ⟨[(2, .z), (5, .z)], [none, none, none], []⟩
theorem lf47_ok : compF Try.prog hi47 true Try.f47 = some lf47 := by kernel_rfl

/-! additive/comb.search -/
def c48_0 : List LOper := [⟨some 3, .box (.t 0), none⟩, ⟨some 4, .box (.t 1), none⟩, ⟨some 5, .box (.t 2), none⟩, ⟨some 6, .mov (.c (.nilm)), none⟩]
def c48_1 : List LOper := [⟨some 14, .mkM, none⟩, ⟨some 15, .load true 2 (.t 4), none⟩, ⟨some 16, .load true 2 (.t 4), none⟩, ⟨none, .setM true [false, false] (.t 14) (.t 15) (.t 16), none⟩, ⟨some 17, .mov (.t 14), none⟩, ⟨some 7, .mov (.t 17), none⟩]
def c48_2 : List LOper := [⟨some 18, .load true 2 (.t 4), none⟩, ⟨some 19, .bslice 1 2 26 [.int .i64 0, .int .i64 0] [(0, 2, (.t 18))], none⟩, ⟨some 8, .mov (.t 19), none⟩]
def c48_3 : List LOper := [⟨some 20, .mov (.t 8), none⟩, ⟨some 21, .len (.t 20), none⟩, ⟨some 22, .ibin .gtr (.t 21) (.c (.int .i64 0)), none⟩]
def c48_4 : List LOper := [⟨some 23, .mov (.t 8), none⟩, ⟨some 24, .iaddr 2 (.t 23) (.c (.int .i64 0)), none⟩, ⟨some 25, .load true 2 (.t 24), none⟩, ⟨some 9, .alloc [.int .i64 0, .int .i64 0], none⟩, ⟨none, .store 2 (.t 9) (.t 25), none⟩]
def c48_5 : List LOper := [⟨some 26, .mov (.t 8), none⟩, ⟨some 27, .slc 2 (.t 26) (some (.c (.int .i64 1))) none, none⟩, ⟨some 8, .mov (.t 27), none⟩]
def c48_6 : List LOper := [⟨some 28, .load true 2 (.t 9), none⟩, ⟨some 29, .load true 2 (.t 5), none⟩, ⟨some 30, .eqv false true [false, false] (.t 28) (.t 29), none⟩]
def c48_7 : List LOper := [⟨some 31, .faddr 0 (.t 9), none⟩, ⟨some 32, .load false 1 (.t 31), none⟩, ⟨some 33, .ibin .add (.t 32) (.c (.int .i64 1)), none⟩, ⟨some 34, .faddr 1 (.t 9), none⟩, ⟨some 35, .load false 1 (.t 34), none⟩, ⟨some 36, .build [.int .i64 0, .int .i64 0] [(0, 1, (.t 33)), (1, 1, (.t 35))], none⟩, ⟨some 37, .faddr 0 (.t 9), none⟩, ⟨some 38, .load false 1 (.t 37), none⟩, ⟨some 39, .ibin .sub (.t 38) (.c (.int .i64 1)), none⟩, ⟨some 40, .faddr 1 (.t 9), none⟩, ⟨some 41, .load false 1 (.t 40), none⟩, ⟨some 42, .build [.int .i64 0, .int .i64 0] [(0, 1, (.t 39)), (1, 1, (.t 41))], none⟩, ⟨some 43, .faddr 0 (.t 9), none⟩, ⟨some 44, .load false 1 (.t 43), none⟩, ⟨some 45, .faddr 1 (.t 9), none⟩, ⟨some 46, .load false 1 (.t 45), none⟩, ⟨some 47, .ibin .add (.t 46) (.c (.int .i64 1)), none⟩, ⟨some 48, .build [.int .i64 0, .int .i64 0] [(0, 1, (.t 44)), (1, 1, (.t 47))], none⟩, ⟨some 49, .faddr 0 (.t 9), none⟩, ⟨some 50, .load false 1 (.t 49), none⟩, ⟨some 51, .faddr 1 (.t 9), none⟩, ⟨some 52, .load false 1 (.t 51), none⟩, ⟨some 53, .ibin .sub (.t 52) (.c (.int .i64 1)), none⟩, ⟨some 54, .build [.int .i64 0, .int .i64 0] [(0, 1, (.t 50)), (1, 1, (.t 53))], none⟩, ⟨some 55, .build [.int .i64 0, .int .i64 0, .int .i64 0, .int .i64 0, .int .i64 0, .int .i64 0, .int .i64 0, .int .i64 0] [(0, 2, (.t 36)), (2, 2, (.t 42)), (4, 2, (.t 48)), (6, 2, (.t 54))], none⟩, ⟨some 56, .mov (.c (.int .i64 0)), none⟩]
def c48_8 : List LOper := [⟨some 57, .ibin .lss (.t 56) (.c (.int .i64 4)), none⟩]
def c48_9 : List LOper := [⟨some 58, .idx 4 2 true (.t 55) (.t 56), none⟩, ⟨some 11, .alloc [.int .i64 0, .int .i64 0], none⟩, ⟨none, .store 2 (.t 11) (.t 58), none⟩]
def c48_10 : List LOper := [⟨some 60, .mov (.t 7), none⟩, ⟨some 61, .load true 2 (.t 11), none⟩, ⟨some 62, .look true true [false, false] (.agg [.int .i64 0, .int .i64 0]) (.t 60) (.t 61), none⟩, ⟨some 59, .mov (.t 62), none⟩, ⟨some 63, .ext (.t 59) 0, none⟩, ⟨some 64, .ext (.t 59) 1, none⟩, ⟨some 12, .alloc [.int .i64 0, .int .i64 0], none⟩, ⟨none, .store 2 (.t 12) (.t 63), none⟩, ⟨some 13, .mov (.t 64), none⟩]
def c48_11 : List LOper := [⟨some 65, .mov (.t 13), none⟩, ⟨some 66, .un .not (.t 65), none⟩, ⟨some 67, .mov (.t 66), none⟩, ⟨some 68, .load true 1 (.t 3), some (67, true)⟩, ⟨some 69, .load true 2 (.t 11), some (67, true)⟩, ⟨some 70, .callp 29 [(.t 68), (.t 69)], some (67, true)⟩, ⟨some 71, .pick (.t 67) (.t 70) (.c (.bool false)), none⟩]
def c48_12 : List LOper := [⟨some 72, .mov (.t 7), none⟩, ⟨some 73, .load true 2 (.t 11), none⟩, ⟨some 74, .load true 2 (.t 9), none⟩, ⟨none, .setM true [false, false] (.t 72) (.t 73) (.t 74), none⟩]
def c48_13 : List LOper := [⟨some 75, .mov (.t 8), none⟩, ⟨some 76, .load true 2 (.t 11), none⟩, ⟨some 77, .bslice 1 2 26 [.int .i64 0, .int .i64 0] [(0, 2, (.t 76))], none⟩, ⟨some 78, .app 2 16 26 [.int .i64 0, .int .i64 0] (.t 75) (.t 77), none⟩, ⟨some 8, .mov (.t 78), none⟩]
def c48_14 : List LOper := [⟨some 79, .ibin .add (.t 56) (.c (.int .i64 1)), none⟩, ⟨some 56, .mov (.t 79), none⟩]
def c48_L0 : LC := (.seq (.reg false c48_8) (.seq (.cond (.t 57) .skip (.seq (.trim [3, 5, 7, 8]) (.exit 2))) (.seq (.blk 3 (.seq (.reg false c48_9) (.seq (.reg false c48_10) (.seq (.reg false c48_11) (.cond (.t 71) (.seq (.reg false c48_12) (.reg false c48_13)) .skip))))) (.reg false c48_14))))
def c48_L1 : LC := (.seq (.seq (.reg false c48_3) (.cond (.t 22) .skip (.seq (.trim [7]) (.exit 0)))) (.blk 1 (.seq (.reg false c48_4) (.seq (.reg false c48_5) (.seq (.seq (.reg false c48_6) (.cond (.t 30) (.seq (.trim [7]) (.exit 0)) .skip)) (.seq (.reg false c48_7) (.blk 2 (.loop [3, 5, 7, 8, 9, 55, 56] c48_L0))))))))
def c48_17 : List LOper := [⟨some 80, .mov (.t 7), none⟩, ⟨some 6, .mov (.t 80), none⟩]
def lc48 : LC := (.seq (.reg false c48_0) (.seq (.reg false c48_1) (.seq (.seq (.reg false c48_2) (.blk 0 (.loop [3, 5, 7, 8] c48_L1))) (.seq (.reg false c48_17) .ret))))
def lf48 : LFunc := ⟨3, [.tmp 6], true, lc48⟩
def hi48 : Hints := ⟨[], [none, none, none, some [3, 5, 7, 8], none, some [7], none, none, none, none, some [7], none, none, some [3, 5, 7, 8, 9, 55, 56], none, some [3, 5, 7, 8], none, none, none, none, none, none, none, none, none], []⟩
theorem lf48_ok : compF Try.prog hi48 true Try.f48 = some lf48 := by kernel_rfl

/-! slices.Reverse[[]additive/api.Cell,additive/api.Cell] -/
def c49_0 : List LOper := [⟨some 4, .mov (.t 0), none⟩, ⟨some 5, .len (.t 4), none⟩, ⟨some 6, .ibin .sub (.t 5) (.c (.int .i64 1)), none⟩, ⟨some 2, .mov (.c (.int .i64 0)), none⟩, ⟨some 3, .mov (.t 6), none⟩]
def c49_1 : List LOper := [⟨some 7, .mov (.t 2), none⟩, ⟨some 8, .mov (.t 3), none⟩, ⟨some 9, .ibin .lss (.t 7) (.t 8), none⟩]
def c49_2 : List LOper := [⟨some 14, .mov (.t 0), none⟩, ⟨some 15, .mov (.t 2), none⟩, ⟨some 16, .mov (.t 0), none⟩, ⟨some 17, .mov (.t 3), none⟩, ⟨some 18, .mov (.t 0), none⟩, ⟨some 19, .mov (.t 3), none⟩, ⟨some 20, .iaddr 2 (.t 18) (.t 19), none⟩, ⟨some 21, .load true 2 (.t 20), none⟩, ⟨some 22, .mov (.t 0), none⟩, ⟨some 23, .mov (.t 2), none⟩, ⟨some 24, .iaddr 2 (.t 22) (.t 23), none⟩, ⟨some 25, .load true 2 (.t 24), none⟩, ⟨some 26, .iaddr 2 (.t 14) (.t 15), none⟩, ⟨none, .store 2 (.t 26) (.t 21), none⟩, ⟨some 27, .iaddr 2 (.t 16) (.t 17), none⟩, ⟨none, .store 2 (.t 27) (.t 25), none⟩]
def c49_3 : List LOper := [⟨some 10, .mov (.t 2), none⟩, ⟨some 11, .ibin .add (.t 10) (.c (.int .i64 1)), none⟩, ⟨some 12, .mov (.t 3), none⟩, ⟨some 13, .ibin .sub (.t 12) (.c (.int .i64 1)), none⟩, ⟨some 2, .mov (.t 11), none⟩, ⟨some 3, .mov (.t 13), none⟩]
def c49_L0 : LC := (.seq (.seq (.reg false c49_1) (.cond (.t 9) .skip (.seq (.trim []) (.exit 0)))) (.seq (.blk 1 (.reg true c49_2)) (.reg false c49_3)))
def lc49 : LC := (.seq (.reg false c49_0) (.blk 0 (.loop [0, 2, 3] c49_L0)))
def lf49 : LFunc := ⟨1, [], false, lc49⟩
def hi49 : Hints := ⟨[], [none, some [0, 2, 3], none, some [], none, none], []⟩
theorem lf49_ok : compF Try.prog hi49 false Try.f49 = some lf49 := by kernel_rfl

/-! additive/additiveref34.search -/
def c50_0 : List LOper := [⟨some 3, .box (.t 0), none⟩, ⟨some 4, .box (.t 1), none⟩, ⟨some 5, .box (.t 2), none⟩, ⟨some 6, .mov (.c (.nils)), none⟩]
def c50_1 : List LOper := [⟨some 12, .load true 2 (.t 4), none⟩, ⟨some 13, .build [.int .i64 0, .int .i64 0, .int .i64 0] [(0, 2, (.t 12)), (2, 1, (.c (.int .i64 (-1))))], none⟩, ⟨some 14, .bslice 1 3 75 [.int .i64 0, .int .i64 0, .int .i64 0] [(0, 3, (.t 13))], none⟩, ⟨some 7, .mov (.t 14), none⟩]
def c50_2 : List LOper := [⟨some 8, .mov (.c (.int .i64 0)), none⟩]
def c50_3 : List LOper := [⟨some 15, .mov (.t 8), none⟩, ⟨some 16, .mov (.t 7), none⟩, ⟨some 17, .len (.t 16), none⟩, ⟨some 18, .ibin .lss (.t 15) (.t 17), none⟩, ⟨some 19, .mov (.t 18), none⟩, ⟨some 20, .mov (.t 7), some (19, true)⟩, ⟨some 21, .mov (.t 7), some (19, true)⟩, ⟨some 22, .len (.t 21), some (19, true)⟩, ⟨some 23, .ibin .sub (.t 22) (.c (.int .i64 1)), some (19, true)⟩, ⟨some 24, .iaddr 3 (.t 20) (.t 23), some (19, true)⟩, ⟨some 25, .faddr 0 (.t 24), some (19, true)⟩, ⟨some 26, .load true 2 (.t 25), some (19, true)⟩, ⟨some 27, .load true 2 (.t 5), some (19, true)⟩, ⟨some 28, .eqv true true [false, false] (.t 26) (.t 27), some (19, true)⟩, ⟨some 29, .pick (.t 19) (.t 28) (.c (.bool false)), none⟩]
def c50_4 : List LOper := [⟨some 32, .mov (.t 7), none⟩, ⟨some 33, .mov (.t 8), none⟩, ⟨some 34, .iaddr 3 (.t 32) (.t 33), none⟩, ⟨some 35, .faddr 0 (.t 34), none⟩, ⟨some 36, .load true 2 (.t 35), none⟩, ⟨some 9, .alloc [.int .i64 0, .int .i64 0], none⟩, ⟨none, .store 2 (.t 9) (.t 36), none⟩]
def c50_5 : List LOper := [⟨some 37, .faddr 0 (.t 9), none⟩, ⟨some 38, .load false 1 (.t 37), none⟩, ⟨some 39, .ibin .add (.t 38) (.c (.int .i64 1)), none⟩, ⟨some 40, .faddr 1 (.t 9), none⟩, ⟨some 41, .load false 1 (.t 40), none⟩, ⟨some 42, .build [.int .i64 0, .int .i64 0] [(0, 1, (.t 39)), (1, 1, (.t 41))], none⟩, ⟨some 43, .faddr 0 (.t 9), none⟩, ⟨some 44, .load false 1 (.t 43), none⟩, ⟨some 45, .ibin .sub (.t 44) (.c (.int .i64 1)), none⟩, ⟨some 46, .faddr 1 (.t 9), none⟩, ⟨some 47, .load false 1 (.t 46), none⟩, ⟨some 48, .build [.int .i64 0, .int .i64 0] [(0, 1, (.t 45)), (1, 1, (.t 47))], none⟩, ⟨some 49, .faddr 0 (.t 9), none⟩, ⟨some 50, .load false 1 (.t 49), none⟩, ⟨some 51, .faddr 1 (.t 9), none⟩, ⟨some 52, .load false 1 (.t 51), none⟩, ⟨some 53, .ibin .add (.t 52) (.c (.int .i64 1)), none⟩, ⟨some 54, .build [.int .i64 0, .int .i64 0] [(0, 1, (.t 50)), (1, 1, (.t 53))], none⟩, ⟨some 55, .faddr 0 (.t 9), none⟩, ⟨some 56, .load false 1 (.t 55), none⟩, ⟨some 57, .faddr 1 (.t 9), none⟩, ⟨some 58, .load false 1 (.t 57), none⟩, ⟨some 59, .ibin .sub (.t 58) (.c (.int .i64 1)), none⟩, ⟨some 60, .build [.int .i64 0, .int .i64 0] [(0, 1, (.t 56)), (1, 1, (.t 59))], none⟩, ⟨some 61, .bslice 4 2 26 [.int .i64 0, .int .i64 0] [(0, 2, (.t 42)), (2, 2, (.t 48)), (4, 2, (.t 54)), (6, 2, (.t 60))], none⟩, ⟨some 10, .mov (.t 61), none⟩]
def c50_6 : List LOper := [⟨some 11, .mov (.c (.int .i64 0)), none⟩]
def c50_7 : List LOper := [⟨some 62, .mov (.t 11), none⟩, ⟨some 63, .ibin .lss (.t 62) (.c (.int .i64 4)), none⟩, ⟨some 64, .mov (.t 63), none⟩, ⟨some 65, .mov (.t 7), some (64, true)⟩, ⟨some 66, .mov (.t 7), some (64, true)⟩, ⟨some 67, .len (.t 66), some (64, true)⟩, ⟨some 68, .ibin .sub (.t 67) (.c (.int .i64 1)), some (64, true)⟩, ⟨some 69, .iaddr 3 (.t 65) (.t 68), some (64, true)⟩, ⟨some 70, .faddr 0 (.t 69), some (64, true)⟩, ⟨some 71, .load true 2 (.t 70), some (64, true)⟩, ⟨some 72, .load true 2 (.t 5), some (64, true)⟩, ⟨some 73, .eqv true true [false, false] (.t 71) (.t 72), some (64, true)⟩, ⟨some 74, .pick (.t 64) (.t 73) (.c (.bool false)), none⟩]
def c50_8 : List LOper := [⟨some 77, .load true 1 (.t 3), none⟩, ⟨some 78, .mov (.t 10), none⟩, ⟨some 79, .mov (.t 11), none⟩, ⟨some 80, .iaddr 2 (.t 78) (.t 79), none⟩, ⟨some 81, .load true 2 (.t 80), none⟩, ⟨some 82, .callp 27 [(.t 77), (.t 81)], none⟩, ⟨some 83, .mov (.t 82), none⟩, ⟨some 84, .mov (.t 7), some (83, true)⟩, ⟨some 85, .mov (.t 10), some (83, true)⟩, ⟨some 86, .mov (.t 11), some (83, true)⟩, ⟨some 87, .iaddr 2 (.t 85) (.t 86), some (83, true)⟩, ⟨some 88, .load true 2 (.t 87), some (83, true)⟩, ⟨some 89, .callp 87 [(.t 84), (.t 88)], some (83, true)⟩, ⟨some 90, .un .not (.t 89), some (83, true)⟩, ⟨some 91, .pick (.t 83) (.t 90) (.c (.bool false)), none⟩]
def c50_9 : List LOper := [⟨some 92, .mov (.t 7), none⟩, ⟨some 93, .mov (.t 10), none⟩, ⟨some 94, .mov (.t 11), none⟩, ⟨some 95, .iaddr 2 (.t 93) (.t 94), none⟩, ⟨some 96, .load true 2 (.t 95), none⟩, ⟨some 97, .mov (.t 8), none⟩, ⟨some 98, .build [.int .i64 0, .int .i64 0, .int .i64 0] [(0, 2, (.t 96)), (2, 1, (.t 97))], none⟩, ⟨some 99, .bslice 1 3 75 [.int .i64 0, .int .i64 0, .int .i64 0] [(0, 3, (.t 98))], none⟩, ⟨some 100, .app 3 24 75 [.int .i64 0, .int .i64 0, .int .i64 0] (.t 92) (.t 99), none⟩, ⟨some 7, .mov (.t 100), none⟩]
def c50_10 : List LOper := [⟨some 75, .mov (.t 11), none⟩, ⟨some 76, .ibin .add (.t 75) (.c (.int .i64 1)), none⟩, ⟨some 11, .mov (.t 76), none⟩]
def c50_L0 : LC := (.seq (.seq (.reg true c50_7) (.cond (.t 74) .skip (.seq (.trim [3, 5, 7, 8]) (.exit 2)))) (.seq (.blk 3 (.seq (.reg true c50_8) (.cond (.t 91) (.reg false c50_9) .skip))) (.reg false c50_10)))
def c50_12 : List LOper := [⟨some 30, .mov (.t 8), none⟩, ⟨some 31, .ibin .add (.t 30) (.c (.int .i64 1)), none⟩, ⟨some 8, .mov (.t 31), none⟩]
def c50_L1 : LC := (.seq (.seq (.reg true c50_3) (.cond (.t 29) .skip (.seq (.trim [7]) (.exit 0)))) (.seq (.blk 1 (.seq (.reg false c50_4) (.seq (.reg false c50_5) (.seq (.reg false c50_6) (.blk 2 (.loop [3, 5, 7, 8, 10, 11] c50_L0)))))) (.reg false c50_12)))
def c50_14 : List LOper := [⟨some 101, .mov (.t 7), none⟩, ⟨some 6, .mov (.t 101), none⟩]
def lc50 : LC := (.seq (.reg false c50_0) (.seq (.reg false c50_1) (.seq (.seq (.reg false c50_2) (.blk 0 (.loop [3, 5, 7, 8] c50_L1))) (.seq (.reg false c50_14) .ret))))
def lf50 : LFunc := ⟨3, [.tmp 6], true, lc50⟩
def hi50 : Hints := ⟨[], [none, none, none, some [3, 5, 7, 8], none, some [7], none, none, none, none, some [3, 5, 7, 8, 10, 11], none, some [3, 5, 7, 8], none, none, none, none, none, none, none], []⟩
theorem lf50_ok : compF Try.prog hi50 true Try.f50 = some lf50 := by kernel_rfl

/-! additive/comb.ok -/
def c51_0 : List LOper := [⟨some 1, .box (.t 0), none⟩, ⟨some 2, .mov (.c (.bool false)), none⟩]
def c51_1 : List LOper := [⟨some 3, .faddr 0 (.t 1), none⟩, ⟨some 4, .load false 1 (.t 3), none⟩, ⟨some 5, .ibin .geq (.t 4) (.c (.int .i64 (-4096))), none⟩, ⟨some 6, .mov (.t 5), none⟩, ⟨some 7, .faddr 0 (.t 1), some (6, true)⟩, ⟨some 8, .load false 1 (.t 7), some (6, true)⟩, ⟨some 9, .ibin .lss (.t 8) (.c (.int .i64 4096)), some (6, true)⟩, ⟨some 10, .pick (.t 6) (.t 9) (.c (.bool false)), none⟩, ⟨some 11, .mov (.t 10), none⟩, ⟨some 12, .faddr 1 (.t 1), some (11, true)⟩, ⟨some 13, .load false 1 (.t 12), some (11, true)⟩, ⟨some 14, .ibin .geq (.t 13) (.c (.int .i64 (-4096))), some (11, true)⟩, ⟨some 15, .pick (.t 11) (.t 14) (.c (.bool false)), none⟩, ⟨some 16, .mov (.t 15), none⟩, ⟨some 17, .faddr 1 (.t 1), some (16, true)⟩, ⟨some 18, .load false 1 (.t 17), some (16, true)⟩, ⟨some 19, .ibin .lss (.t 18) (.c (.int .i64 4096)), some (16, true)⟩, ⟨some 20, .pick (.t 16) (.t 19) (.c (.bool false)), none⟩, ⟨some 2, .mov (.t 20), none⟩]
def lc51 : LC := (.seq (.reg false c51_0) (.seq (.reg false c51_1) .ret))
def lf51 : LFunc := ⟨1, [.tmp 2], true, lc51⟩
def hi51 : Hints := ⟨[], [none, none, none], []⟩
theorem lf51_ok : compF Try.prog hi51 true Try.f51 = some lf51 := by kernel_rfl

/-! additive/additiveref18.Valid -/
def c54_0 : List LOper := [⟨some 1, .box (.t 0), none⟩, ⟨some 2, .mov (.c (.bool false)), none⟩]
def c54_1 : List LOper := [⟨some 3, .mov (.c (.int .i64 0)), none⟩]
def c54_2 : List LOper := [⟨some 5, .mov (.t 3), none⟩, ⟨some 6, .faddr 0 (.t 1), none⟩, ⟨some 7, .load false 1 (.t 6), none⟩, ⟨some 8, .len (.t 7), none⟩, ⟨some 9, .ibin .lss (.t 5) (.t 8), none⟩]
def c54_3 : List LOper := [⟨some 12, .faddr 0 (.t 1), none⟩, ⟨some 13, .load false 1 (.t 12), none⟩, ⟨some 14, .mov (.t 3), none⟩, ⟨some 15, .iaddr 2 (.t 13) (.t 14), none⟩, ⟨some 16, .faddr 0 (.t 15), none⟩, ⟨some 17, .load false 1 (.t 16), none⟩, ⟨some 4, .mov (.t 17), none⟩]
def c54_4 : List LOper := [⟨some 18, .mov (.t 4), none⟩, ⟨some 19, .ibin .lss (.t 18) (.c (.int .i64 (-4096))), none⟩, ⟨some 20, .mov (.t 19), none⟩, ⟨some 21, .mov (.t 4), some (20, false)⟩, ⟨some 22, .ibin .geq (.t 21) (.c (.int .i64 4096)), some (20, false)⟩, ⟨some 23, .pick (.t 20) (.c (.bool true)) (.t 22), none⟩, ⟨some 24, .mov (.t 23), none⟩, ⟨some 25, .mov (.t 3), some (24, false)⟩, ⟨some 26, .ibin .gtr (.t 25) (.c (.int .i64 0)), some (24, false)⟩, ⟨some 27, .mov (.t 26), some (24, false)⟩, ⟨some 28, .mov (.t 4), some (27, true)⟩, ⟨some 29, .faddr 0 (.t 1), some (27, true)⟩, ⟨some 30, .load false 1 (.t 29), some (27, true)⟩, ⟨some 31, .mov (.t 3), some (27, true)⟩, ⟨some 32, .ibin .sub (.t 31) (.c (.int .i64 1)), some (27, true)⟩, ⟨some 33, .iaddr 2 (.t 30) (.t 32), some (27, true)⟩, ⟨some 34, .faddr 0 (.t 33), some (27, true)⟩, ⟨some 35, .load false 1 (.t 34), some (27, true)⟩, ⟨some 36, .ibin .leq (.t 28) (.t 35), some (27, true)⟩, ⟨some 37, .pick (.t 27) (.t 36) (.c (.bool false)), some (24, false)⟩, ⟨some 38, .pick (.t 24) (.c (.bool true)) (.t 37), none⟩, ⟨some 39, .mov (.t 38), none⟩, ⟨some 40, .faddr 0 (.t 1), some (39, false)⟩, ⟨some 41, .load false 1 (.t 40), some (39, false)⟩, ⟨some 42, .mov (.t 3), some (39, false)⟩, ⟨some 43, .iaddr 2 (.t 41) (.t 42), some (39, false)⟩, ⟨some 44, .faddr 1 (.t 43), some (39, false)⟩, ⟨some 45, .load false 1 (.t 44), some (39, false)⟩, ⟨some 46, .callp 88 [(.t 45)], some (39, false)⟩, ⟨some 47, .un .not (.t 46), some (39, false)⟩, ⟨some 48, .pick (.t 39) (.c (.bool true)) (.t 47), none⟩]
def c54_5 : List LOper := [⟨some 2, .mov (.c (.bool false)), none⟩]
def c54_6 : List LOper := [⟨some 10, .mov (.t 3), none⟩, ⟨some 11, .ibin .add (.t 10) (.c (.int .i64 1)), none⟩, ⟨some 3, .mov (.t 11), none⟩]
def c54_L0 : LC := (.seq (.seq (.reg false c54_2) (.cond (.t 9) .skip (.seq (.trim []) (.exit 0)))) (.seq (.blk 1 (.seq (.reg false c54_3) (.seq (.reg false c54_4) (.cond (.t 48) (.seq (.reg false c54_5) (.seq (.trim [2]) .ret)) .skip)))) (.reg false c54_6)))
def c54_8 : List LOper := [⟨some 2, .mov (.c (.bool true)), none⟩]
def lc54 : LC := (.seq (.reg false c54_0) (.seq (.seq (.reg false c54_1) (.blk 0 (.loop [1, 3] c54_L0))) (.seq (.reg false c54_8) .ret)))
def lf54 : LFunc := ⟨1, [.tmp 2], true, lc54⟩
def hi54 : Hints := ⟨[], [none, none, some [1, 3], none, some [], none, none, none, none, some [2], none, none, none, none], []⟩
theorem lf54_ok : compF Try.prog hi54 true Try.f54 = some lf54 := by kernel_rfl

/-! additive/additiveref18.inside -/
def c55_0 : List LOper := [⟨some 4, .mov (.c (.bool false)), none⟩]
def c55_1 : List LOper := [⟨some 5, .mov (.c (.int .i64 0)), none⟩]
def c55_2 : List LOper := [⟨some 6, .mov (.t 5), none⟩, ⟨some 7, .mov (.t 0), none⟩, ⟨some 8, .len (.t 7), none⟩, ⟨some 9, .ibin .lss (.t 6) (.t 8), none⟩]
def c55_3 : List LOper := [⟨some 12, .mov (.t 0), none⟩, ⟨some 13, .mov (.t 5), none⟩, ⟨some 14, .iaddr 2 (.t 12) (.t 13), none⟩, ⟨some 15, .faddr 0 (.t 14), none⟩, ⟨some 16, .load false 1 (.t 15), none⟩, ⟨some 17, .mov (.t 1), none⟩, ⟨some 18, .ibin .leq (.t 16) (.t 17), none⟩, ⟨some 19, .mov (.t 18), none⟩, ⟨some 20, .mov (.t 1), some (19, true)⟩, ⟨some 21, .mov (.t 0), some (19, true)⟩, ⟨some 22, .mov (.t 5), some (19, true)⟩, ⟨some 23, .iaddr 2 (.t 21) (.t 22), some (19, true)⟩, ⟨some 24, .faddr 1 (.t 23), some (19, true)⟩, ⟨some 25, .load false 1 (.t 24), some (19, true)⟩, ⟨some 26, .ibin .lss (.t 20) (.t 25), some (19, true)⟩, ⟨some 27, .pick (.t 19) (.t 26) (.c (.bool false)), none⟩]
def c55_4 : List LOper := [⟨some 4, .mov (.c (.bool true)), none⟩]
def c55_5 : List LOper := [⟨some 10, .mov (.t 5), none⟩, ⟨some 11, .ibin .add (.t 10) (.c (.int .i64 1)), none⟩, ⟨some 5, .mov (.t 11), none⟩]
def c55_L0 : LC := (.seq (.seq (.reg false c55_2) (.cond (.t 9) .skip (.seq (.trim []) (.exit 0)))) (.seq (.blk 1 (.seq (.reg false c55_3) (.cond (.t 27) (.seq (.reg false c55_4) (.seq (.trim [4]) .ret)) .skip))) (.reg false c55_5)))
def c55_7 : List LOper := [⟨some 4, .mov (.c (.bool false)), none⟩]
def lc55 : LC := (.seq (.reg false c55_0) (.seq (.seq (.reg false c55_1) (.blk 0 (.loop [0, 1, 5] c55_L0))) (.seq (.reg false c55_7) .ret)))
def lf55 : LFunc := ⟨2, [.tmp 4], true, lc55⟩
def hi55 : Hints := ⟨[], [none, none, some [0, 1, 5], none, some [], none, none, none, some [4], none, none, none, none], []⟩
theorem lf55_ok : compF Try.prog hi55 true Try.f55 = some lf55 := by kernel_rfl

/-! additive/additiveref18.Row -/
def c56_0 : List LOper := [⟨some 2, .box (.t 0), none⟩, ⟨some 4, .mov (.c (.nils)), none⟩]
def c56_1 : List LOper := [⟨some 5, .mov (.c (.int .i64 0)), none⟩]
def c56_2 : List LOper := [⟨some 6, .mov (.t 5), none⟩, ⟨some 7, .faddr 0 (.t 2), none⟩, ⟨some 8, .load false 1 (.t 7), none⟩, ⟨some 9, .len (.t 8), none⟩, ⟨some 10, .ibin .lss (.t 6) (.t 9), none⟩]
def c56_3 : List LOper := [⟨some 13, .faddr 0 (.t 2), none⟩, ⟨some 14, .load false 1 (.t 13), none⟩, ⟨some 15, .mov (.t 5), none⟩, ⟨some 16, .iaddr 2 (.t 14) (.t 15), none⟩, ⟨some 17, .faddr 0 (.t 16), none⟩, ⟨some 18, .load false 1 (.t 17), none⟩, ⟨some 19, .mov (.t 1), none⟩, ⟨some 20, .ibin .eql (.t 18) (.t 19), none⟩]
def c56_4 : List LOper := [⟨some 21, .faddr 0 (.t 2), none⟩, ⟨some 22, .load false 1 (.t 21), none⟩, ⟨some 23, .mov (.t 5), none⟩, ⟨some 24, .iaddr 2 (.t 22) (.t 23), none⟩, ⟨some 25, .faddr 1 (.t 24), none⟩, ⟨some 26, .load false 1 (.t 25), none⟩, ⟨some 4, .mov (.t 26), none⟩]
def c56_5 : List LOper := [⟨some 11, .mov (.t 5), none⟩, ⟨some 12, .ibin .add (.t 11) (.c (.int .i64 1)), none⟩, ⟨some 5, .mov (.t 12), none⟩]
def c56_L0 : LC := (.seq (.seq (.reg false c56_2) (.cond (.t 10) .skip (.seq (.trim []) (.exit 0)))) (.seq (.blk 1 (.seq (.reg false c56_3) (.cond (.t 20) (.seq (.reg false c56_4) (.seq (.trim [4]) .ret)) .skip))) (.reg false c56_5)))
def c56_7 : List LOper := [⟨some 4, .mov (.c (.nils)), none⟩]
def lc56 : LC := (.seq (.reg false c56_0) (.seq (.seq (.reg false c56_1) (.blk 0 (.loop [1, 2, 5] c56_L0))) (.seq (.reg false c56_7) .ret)))
def lf56 : LFunc := ⟨2, [.tmp 4], true, lc56⟩
def hi56 : Hints := ⟨[], [none, none, some [1, 2, 5], none, some [], none, none, none, some [4], none, none, none, none], []⟩
theorem lf56_ok : compF Try.prog hi56 true Try.f56 = some lf56 := by kernel_rfl

/-! additive/region.Valid -/
def c57_0 : List LOper := [⟨some 1, .box (.t 0), none⟩, ⟨some 2, .mov (.c (.bool false)), none⟩]
def c57_1 : List LOper := [⟨some 5, .faddr 0 (.t 1), none⟩, ⟨some 6, .load false 1 (.t 5), none⟩, ⟨some 7, .len (.t 6), none⟩, ⟨some 8, .mov (.c (.int .i64 0)), none⟩]
def c57_2 : List LOper := [⟨some 9, .ibin .lss (.t 8) (.t 7), none⟩]
def c57_3 : List LOper := [⟨some 10, .mov (.t 8), none⟩, ⟨some 11, .iaddr 2 (.t 6) (.t 8), none⟩, ⟨some 12, .load true 2 (.t 11), none⟩, ⟨some 4, .alloc [.int .i64 0, .nils], none⟩, ⟨some 3, .mov (.t 10), none⟩, ⟨none, .store 2 (.t 4) (.t 12), none⟩]
def c57_4 : List LOper := [⟨some 13, .faddr 0 (.t 4), none⟩, ⟨some 14, .load false 1 (.t 13), none⟩, ⟨some 15, .callp 89 [(.t 14)], none⟩, ⟨some 16, .un .not (.t 15), none⟩, ⟨some 17, .mov (.t 16), none⟩, ⟨some 18, .mov (.t 3), some (17, false)⟩, ⟨some 19, .ibin .gtr (.t 18) (.c (.int .i64 0)), some (17, false)⟩, ⟨some 20, .mov (.t 19), some (17, false)⟩, ⟨some 21, .faddr 0 (.t 4), some (20, true)⟩, ⟨some 22, .load false 1 (.t 21), some (20, true)⟩, ⟨some 23, .faddr 0 (.t 1), some (20, true)⟩, ⟨some 24, .load false 1 (.t 23), some (20, true)⟩, ⟨some 25, .mov (.t 3), some (20, true)⟩, ⟨some 26, .ibin .sub (.t 25) (.c (.int .i64 1)), some (20, true)⟩, ⟨some 27, .iaddr 2 (.t 24) (.t 26), some (20, true)⟩, ⟨some 28, .faddr 0 (.t 27), some (20, true)⟩, ⟨some 29, .load false 1 (.t 28), some (20, true)⟩, ⟨some 30, .ibin .leq (.t 22) (.t 29), some (20, true)⟩, ⟨some 31, .pick (.t 20) (.t 30) (.c (.bool false)), some (17, false)⟩, ⟨some 32, .pick (.t 17) (.c (.bool true)) (.t 31), none⟩, ⟨some 33, .mov (.t 32), none⟩, ⟨some 34, .faddr 1 (.t 4), some (33, false)⟩, ⟨some 35, .load false 1 (.t 34), some (33, false)⟩, ⟨some 36, .len (.t 35), some (33, false)⟩, ⟨some 37, .ibin .eql (.t 36) (.c (.int .i64 0)), some (33, false)⟩, ⟨some 38, .pick (.t 33) (.c (.bool true)) (.t 37), none⟩, ⟨some 39, .mov (.t 38), none⟩, ⟨some 40, .faddr 1 (.t 4), some (39, false)⟩, ⟨some 41, .load false 1 (.t 40), some (39, false)⟩, ⟨some 42, .callp 90 [(.t 41)], some (39, false)⟩, ⟨some 43, .un .not (.t 42), some (39, false)⟩, ⟨some 44, .pick (.t 39) (.c (.bool true)) (.t 43), none⟩]
def c57_5 : List LOper := [⟨some 2, .mov (.c (.bool false)), none⟩]
def c57_6 : List LOper := [⟨some 45, .faddr 1 (.t 4), none⟩, ⟨some 46, .load false 1 (.t 45), none⟩, ⟨some 47, .iaddr 2 (.t 46) (.c (.int .i64 0)), none⟩, ⟨some 48, .faddr 0 (.t 47), none⟩, ⟨some 49, .load false 1 (.t 48), none⟩, ⟨some 50, .callp 89 [(.t 49)], none⟩, ⟨some 51, .un .not (.t 50), none⟩, ⟨some 52, .mov (.t 51), none⟩, ⟨some 53, .faddr 1 (.t 4), some (52, false)⟩, ⟨some 54, .load false 1 (.t 53), some (52, false)⟩, ⟨some 55, .faddr 1 (.t 4), some (52, false)⟩, ⟨some 56, .load false 1 (.t 55), some (52, false)⟩, ⟨some 57, .len (.t 56), some (52, false)⟩, ⟨some 58, .ibin .sub (.t 57) (.c (.int .i64 1)), some (52, false)⟩, ⟨some 59, .iaddr 2 (.t 54) (.t 58), some (52, false)⟩, ⟨some 60, .faddr 1 (.t 59), some (52, false)⟩, ⟨some 61, .load false 1 (.t 60), some (52, false)⟩, ⟨some 62, .ibin .sub (.t 61) (.c (.int .i64 1)), some (52, false)⟩, ⟨some 63, .callp 89 [(.t 62)], some (52, false)⟩, ⟨some 64, .un .not (.t 63), some (52, false)⟩, ⟨some 65, .pick (.t 52) (.c (.bool true)) (.t 64), none⟩]
def c57_7 : List LOper := [⟨some 2, .mov (.c (.bool false)), none⟩]
def c57_8 : List LOper := [⟨some 66, .ibin .add (.t 8) (.c (.int .i64 1)), none⟩, ⟨some 8, .mov (.t 66), none⟩]
def c57_L0 : LC := (.seq (.reg false c57_2) (.seq (.cond (.t 9) .skip (.seq (.trim []) (.exit 0))) (.seq (.blk 1 (.seq (.reg false c57_3) (.seq (.seq (.reg true c57_4) (.cond (.t 44) (.seq (.reg false c57_5) (.seq (.trim [2]) .ret)) .skip)) (.seq (.reg false c57_6) (.cond (.t 65) (.seq (.reg false c57_7) (.seq (.trim [2]) .ret)) .skip))))) (.reg false c57_8))))
def c57_10 : List LOper := [⟨some 2, .mov (.c (.bool true)), none⟩]
def lc57 : LC := (.seq (.reg false c57_0) (.seq (.seq (.reg false c57_1) (.blk 0 (.loop [1, 6, 7, 8] c57_L0))) (.seq (.reg false c57_10) .ret)))
def lf57 : LFunc := ⟨1, [.tmp 2], true, lc57⟩
def hi57 : Hints := ⟨[], [none, none, some [1, 6, 7, 8], none, some [], none, none, none, none, some [2], none, none, none, some [2], none, none, none, none], []⟩
theorem lf57_ok : compF Try.prog hi57 true Try.f57 = some lf57 := by kernel_rfl

/-! additive/runs.Contains -/
def c58_0 : List LOper := [⟨some 3, .box (.t 1), none⟩, ⟨some 4, .mov (.c (.bool false)), none⟩]
def c58_1 : List LOper := [⟨some 5, .mov (.t 0), none⟩, ⟨some 6, .callp 90 [(.t 5)], none⟩, ⟨some 7, .un .not (.t 6), none⟩]
def c58_2 : List LOper := [⟨some 4, .mov (.c (.bool false)), none⟩]
def c58_3 : List LOper := [⟨some 8, .mov (.t 0), none⟩, ⟨some 9, .mkfn 92 [(.t 3)], none⟩, ⟨some 10, .callq 91 [(.t 8), (.t 9)], none⟩, ⟨some 4, .mov (.t 10), none⟩]
def lc58 : LC := (.seq (.reg false c58_0) (.seq (.seq (.reg false c58_1) (.cond (.t 7) (.seq (.reg false c58_2) .ret) .skip)) (.seq (.reg false c58_3) .ret)))
def lf58 : LFunc := ⟨2, [.tmp 4], true, lc58⟩
def hi58 : Hints := ⟨[(10, .q)], [none, none, none, none, none, none, none], []⟩
theorem lf58_ok : compF Try.prog hi58 true Try.f58 = some lf58 := by kernel_rfl

/-! additive/region.row -/
def c59_0 : List LOper := [⟨some 2, .box (.t 0), none⟩, ⟨some 4, .mov (.c (.nils)), none⟩]
def c59_1 : List LOper := [⟨some 8, .faddr 0 (.t 2), none⟩, ⟨some 9, .load false 1 (.t 8), none⟩, ⟨some 10, .mov (.t 1), none⟩, ⟨some 11, .callq 93 [(.t 9), (.t 10), (.c (.fn 94 []))], none⟩, ⟨some 7, .mov (.t 11), none⟩, ⟨some 12, .ext (.t 7) 0, none⟩, ⟨some 13, .ext (.t 7) 1, none⟩, ⟨some 5, .mov (.t 12), none⟩, ⟨some 6, .mov (.t 13), none⟩]
def c59_2 : List LOper := [⟨some 14, .mov (.t 6), none⟩, ⟨some 15, .un .not (.t 14), none⟩]
def c59_3 : List LOper := [⟨some 4, .mov (.c (.nils)), none⟩]
def c59_4 : List LOper := [⟨some 16, .faddr 0 (.t 2), none⟩, ⟨some 17, .load false 1 (.t 16), none⟩, ⟨some 18, .mov (.t 5), none⟩, ⟨some 19, .iaddr 2 (.t 17) (.t 18), none⟩, ⟨some 20, .faddr 1 (.t 19), none⟩, ⟨some 21, .load false 1 (.t 20), none⟩, ⟨some 4, .mov (.t 21), none⟩]
def lc59 : LC := (.seq (.reg false c59_0) (.seq (.reg false c59_1) (.seq (.seq (.reg false c59_2) (.cond (.t 15) (.seq (.reg false c59_3) .ret) .skip)) (.seq (.reg false c59_4) .ret))))
def lf59 : LFunc := ⟨2, [.tmp 4], true, lc59⟩
def hi59 : Hints := ⟨[(11, .q)], [none, none, none, none, none, none, none, none], []⟩
theorem lf59_ok : compF Try.prog hi59 true Try.f59 = some lf59 := by kernel_rfl

/-! additive/comb.way -/
def c60_0 : List LOper := [⟨some 2, .mov (.c (.bool false)), none⟩]
def c60_1 : List LOper := [⟨some 6, .mov (.t 0), none⟩, ⟨some 7, .len (.t 6), none⟩, ⟨some 8, .mov (.c (.int .i64 0)), none⟩]
def c60_2 : List LOper := [⟨some 9, .ibin .lss (.t 8) (.t 7), none⟩]
def c60_3 : List LOper := [⟨some 10, .mov (.t 8), none⟩, ⟨some 11, .iaddr 2 (.t 6) (.t 8), none⟩, ⟨some 12, .load true 2 (.t 11), none⟩, ⟨some 4, .alloc [.int .i64 0, .int .i64 0], none⟩, ⟨some 3, .mov (.t 10), none⟩, ⟨none, .store 2 (.t 4) (.t 12), none⟩]
def c60_4 : List LOper := [⟨some 13, .load true 2 (.t 4), none⟩, ⟨some 14, .callp 51 [(.t 13)], none⟩, ⟨some 15, .un .not (.t 14), none⟩]
def c60_5 : List LOper := [⟨some 2, .mov (.c (.bool false)), none⟩]
def c60_6 : List LOper := [⟨some 16, .mov (.t 3), none⟩, ⟨some 17, .ibin .eql (.t 16) (.c (.int .i64 0)), none⟩]
def c60_7 : List LOper := [⟨some 18, .mov (.t 0), none⟩, ⟨some 19, .mov (.t 3), none⟩, ⟨some 20, .ibin .sub (.t 19) (.c (.int .i64 1)), none⟩, ⟨some 21, .iaddr 2 (.t 18) (.t 20), none⟩, ⟨some 22, .load true 2 (.t 21), none⟩, ⟨some 23, .load true 2 (.t 4), none⟩, ⟨some 24, .callp 61 [(.t 22), (.t 23)], none⟩, ⟨some 5, .alloc [.int .i64 0, .int .i64 0], none⟩, ⟨none, .store 2 (.t 5) (.t 24), none⟩]
def c60_8 : List LOper := [⟨some 25, .faddr 0 (.t 5), none⟩, ⟨some 26, .load false 1 (.t 25), none⟩, ⟨some 27, .faddr 0 (.t 5), none⟩, ⟨some 28, .load false 1 (.t 27), none⟩, ⟨some 29, .ibin .mul (.t 26) (.t 28), none⟩, ⟨some 30, .faddr 1 (.t 5), none⟩, ⟨some 31, .load false 1 (.t 30), none⟩, ⟨some 32, .faddr 1 (.t 5), none⟩, ⟨some 33, .load false 1 (.t 32), none⟩, ⟨some 34, .ibin .mul (.t 31) (.t 33), none⟩, ⟨some 35, .ibin .add (.t 29) (.t 34), none⟩, ⟨some 36, .ibin .neq (.t 35) (.c (.int .i64 1)), none⟩]
def c60_9 : List LOper := [⟨some 2, .mov (.c (.bool false)), none⟩]
def c60_10 : List LOper := [⟨some 37, .ibin .add (.t 8) (.c (.int .i64 1)), none⟩, ⟨some 8, .mov (.t 37), none⟩]
def c60_L0 : LC := (.seq (.reg false c60_2) (.seq (.cond (.t 9) .skip (.seq (.trim []) (.exit 0))) (.seq (.blk 1 (.seq (.reg false c60_3) (.seq (.seq (.reg false c60_4) (.cond (.t 15) (.seq (.reg false c60_5) (.seq (.trim [2]) .ret)) .skip)) (.seq (.seq (.reg false c60_6) (.cond (.t 17) (.exit 1) .skip)) (.seq (.reg true c60_7) (.seq (.reg false c60_8) (.cond (.t 36) (.seq (.reg false c60_9) (.seq (.trim [2]) .ret)) .skip))))))) (.reg false c60_10))))
def c60_12 : List LOper := [⟨some 2, .mov (.c (.bool true)), none⟩]
def lc60 : LC := (.seq (.reg false c60_0) (.seq (.seq (.reg false c60_1) (.blk 0 (.loop [0, 6, 7, 8] c60_L0))) (.seq (.reg false c60_12) .ret)))
def lf60 : LFunc := ⟨1, [.tmp 2], true, lc60⟩
def hi60 : Hints := ⟨[], [none, none, some [0, 6, 7, 8], none, some [], none, none, none, none, some [2], none, none, none, none, none, none, none, some [2], none, none, none, none], []⟩
theorem lf60_ok : compF Try.prog hi60 true Try.f60 = some lf60 := by kernel_rfl

/-! additive/comb.step -/
def c61_0 : List LOper := [⟨some 2, .box (.t 0), none⟩, ⟨some 3, .box (.t 1), none⟩, ⟨some 4, .alloc [.int .i64 0, .int .i64 0], none⟩]
def c61_1 : List LOper := [⟨some 5, .faddr 0 (.t 3), none⟩, ⟨some 6, .load false 1 (.t 5), none⟩, ⟨some 7, .faddr 0 (.t 2), none⟩, ⟨some 8, .load false 1 (.t 7), none⟩, ⟨some 9, .ibin .sub (.t 6) (.t 8), none⟩, ⟨some 10, .faddr 1 (.t 3), none⟩, ⟨some 11, .load false 1 (.t 10), none⟩, ⟨some 12, .faddr 1 (.t 2), none⟩, ⟨some 13, .load false 1 (.t 12), none⟩, ⟨some 14, .ibin .sub (.t 11) (.t 13), none⟩, ⟨some 15, .build [.int .i64 0, .int .i64 0] [(0, 1, (.t 9)), (1, 1, (.t 14))], none⟩, ⟨none, .store 2 (.t 4) (.t 15), none⟩]
def lc61 : LC := (.seq (.reg false c61_0) (.seq (.reg false c61_1) .ret))
def lf61 : LFunc := ⟨2, [.cell 4 true 2], true, lc61⟩
def hi61 : Hints := ⟨[], [none, none, none], []⟩
theorem lf61_ok : compF Try.prog hi61 true Try.f61 = some lf61 := by kernel_rfl

/-! additive/comb.examined -/
def c63_0 : List LOper := [⟨some 3, .box (.t 0), none⟩, ⟨some 4, .box (.t 1), none⟩, ⟨some 5, .box (.t 2), none⟩, ⟨some 6, .mov (.c (.nilm)), none⟩]
def c63_1 : List LOper := [⟨some 16, .mkM, none⟩, ⟨some 17, .load true 2 (.t 5), none⟩, ⟨some 18, .build [.int .i64 0, .int .i64 0, .int .i64 0, .int .i64 0, .int .i64 0] [], none⟩, ⟨none, .setM true [false, false] (.t 16) (.t 17) (.t 18), none⟩, ⟨some 19, .mov (.t 16), none⟩, ⟨some 7, .mov (.t 19), none⟩]
def c63_2 : List LOper := [⟨some 20, .load true 2 (.t 5), none⟩, ⟨some 21, .bslice 1 2 26 [.int .i64 0, .int .i64 0] [(0, 2, (.t 20))], none⟩, ⟨some 8, .mov (.t 21), none⟩]
def c63_3 : List LOper := [⟨some 22, .mov (.t 8), none⟩, ⟨some 23, .len (.t 22), none⟩, ⟨some 24, .ibin .gtr (.t 23) (.c (.int .i64 0)), none⟩]
def c63_4 : List LOper := [⟨some 25, .mov (.t 8), none⟩, ⟨some 26, .iaddr 2 (.t 25) (.c (.int .i64 0)), none⟩, ⟨some 27, .load true 2 (.t 26), none⟩, ⟨some 9, .alloc [.int .i64 0, .int .i64 0], none⟩, ⟨none, .store 2 (.t 9) (.t 27), none⟩]
def c63_5 : List LOper := [⟨some 28, .mov (.t 8), none⟩, ⟨some 29, .slc 2 (.t 28) (some (.c (.int .i64 1))) none, none⟩, ⟨some 8, .mov (.t 29), none⟩]
def c63_6 : List LOper := [⟨some 30, .mov (.t 7), none⟩, ⟨some 31, .load true 2 (.t 9), none⟩, ⟨some 32, .look false true [false, false] (.agg [.int .i64 0, .int .i64 0, .int .i64 0, .int .i64 0, .int .i64 0]) (.t 30) (.t 31), none⟩, ⟨some 10, .alloc [.int .i64 0, .int .i64 0, .int .i64 0, .int .i64 0, .int .i64 0], none⟩, ⟨none, .store 5 (.t 10) (.t 32), none⟩]
def c63_7 : List LOper := [⟨some 33, .callp 65 [], none⟩, ⟨some 34, .mov (.c (.int .i64 0)), none⟩]
def c63_8 : List LOper := [⟨some 35, .ibin .lss (.t 34) (.c (.int .i64 4)), none⟩]
def c63_9 : List LOper := [⟨some 36, .mov (.t 34), none⟩, ⟨some 37, .idx 4 2 true (.t 33) (.t 34), none⟩, ⟨some 12, .alloc [.int .i64 0, .int .i64 0], none⟩, ⟨some 11, .mov (.t 36), none⟩, ⟨none, .store 2 (.t 12) (.t 37), none⟩]
def c63_10 : List LOper := [⟨some 38, .faddr 0 (.t 9), none⟩, ⟨some 39, .load false 1 (.t 38), none⟩, ⟨some 40, .faddr 0 (.t 12), none⟩, ⟨some 41, .load false 1 (.t 40), none⟩, ⟨some 42, .ibin .add (.t 39) (.t 41), none⟩, ⟨some 43, .faddr 1 (.t 9), none⟩, ⟨some 44, .load false 1 (.t 43), none⟩, ⟨some 45, .faddr 1 (.t 12), none⟩, ⟨some 46, .load false 1 (.t 45), none⟩, ⟨some 47, .ibin .add (.t 44) (.t 46), none⟩, ⟨some 48, .build [.int .i64 0, .int .i64 0] [(0, 1, (.t 42)), (1, 1, (.t 47))], none⟩, ⟨some 13, .alloc [.int .i64 0, .int .i64 0], none⟩, ⟨none, .store 2 (.t 13) (.t 48), none⟩]
def c63_11 : List LOper := [⟨some 50, .mov (.t 7), none⟩, ⟨some 51, .load true 2 (.t 13), none⟩, ⟨some 52, .look true true [false, false] (.agg [.int .i64 0, .int .i64 0, .int .i64 0, .int .i64 0, .int .i64 0]) (.t 50) (.t 51), none⟩, ⟨some 49, .mov (.t 52), none⟩, ⟨some 53, .ext (.t 49) 0, none⟩, ⟨some 54, .ext (.t 49) 1, none⟩, ⟨some 14, .alloc [.int .i64 0, .int .i64 0, .int .i64 0, .int .i64 0, .int .i64 0], none⟩, ⟨none, .store 5 (.t 14) (.t 53), none⟩, ⟨some 15, .mov (.t 54), none⟩]
def c63_12 : List LOper := [⟨some 55, .mov (.t 15), none⟩, ⟨some 56, .un .not (.t 55), none⟩, ⟨some 57, .mov (.t 56), none⟩, ⟨some 58, .load true 1 (.t 3), some (57, true)⟩, ⟨some 59, .load true 2 (.t 13), some (57, true)⟩, ⟨some 60, .callp 29 [(.t 58), (.t 59)], some (57, true)⟩, ⟨some 61, .pick (.t 57) (.t 60) (.c (.bool false)), none⟩]
def c63_13 : List LOper := [⟨some 62, .mov (.t 7), none⟩, ⟨some 63, .load true 2 (.t 13), none⟩, ⟨some 64, .faddr 0 (.t 10), none⟩, ⟨some 65, .load false 1 (.t 64), none⟩, ⟨some 66, .ibin .add (.t 65) (.c (.int .i64 1)), none⟩, ⟨some 67, .build [.int .i64 0, .int .i64 0, .int .i64 0, .int .i64 0, .int .i64 0] [(0, 1, (.t 66))], none⟩, ⟨none, .setM true [false, false] (.t 62) (.t 63) (.t 67), none⟩]
def c63_14 : List LOper := [⟨some 68, .mov (.t 8), none⟩, ⟨some 69, .load true 2 (.t 13), none⟩, ⟨some 70, .bslice 1 2 26 [.int .i64 0, .int .i64 0] [(0, 2, (.t 69))], none⟩, ⟨some 71, .app 2 16 26 [.int .i64 0, .int .i64 0] (.t 68) (.t 70), none⟩, ⟨some 8, .mov (.t 71), none⟩]
def c63_15 : List LOper := [⟨some 72, .load true 2 (.t 9), none⟩, ⟨some 73, .load true 2 (.t 5), none⟩, ⟨some 74, .eqv false true [false, false] (.t 72) (.t 73), none⟩]
def c63_16 : List LOper := [⟨some 75, .mov (.t 11), none⟩, ⟨some 76, .faddr 1 (.t 10), none⟩, ⟨some 77, .iaddrA 4 1 (.t 76) (.t 75), none⟩, ⟨none, .store 1 (.t 77) (.c (.int .i64 1099511627776)), none⟩]
def c63_17 : List LOper := [⟨some 78, .mov (.t 15), none⟩, ⟨some 79, .mov (.t 78), none⟩, ⟨some 80, .faddr 0 (.t 14), some (79, true)⟩, ⟨some 81, .load false 1 (.t 80), some (79, true)⟩, ⟨some 82, .faddr 0 (.t 10), some (79, true)⟩, ⟨some 83, .load false 1 (.t 82), some (79, true)⟩, ⟨some 84, .ibin .sub (.t 83) (.c (.int .i64 1)), some (79, true)⟩, ⟨some 85, .ibin .eql (.t 81) (.t 84), some (79, true)⟩, ⟨some 86, .pick (.t 79) (.t 85) (.c (.bool false)), none⟩]
def c63_18 : List LOper := [⟨some 87, .mov (.t 11), none⟩, ⟨some 88, .faddr 1 (.t 10), none⟩, ⟨some 89, .iaddrA 4 1 (.t 88) (.t 87), none⟩, ⟨none, .store 1 (.t 89) (.c (.int .i64 0)), none⟩]
def c63_19 : List LOper := [⟨some 90, .load true 2 (.t 13), none⟩, ⟨some 91, .load true 2 (.t 5), none⟩, ⟨some 92, .eqv true true [false, false] (.t 90) (.t 91), none⟩]
def c63_20 : List LOper := [⟨some 94, .mov (.t 11), none⟩, ⟨some 95, .load true 5 (.t 14), none⟩, ⟨some 96, .mov (.t 11), none⟩, ⟨some 97, .callp 64 [(.t 95), (.t 96)], none⟩, ⟨some 93, .mov (.t 97), none⟩, ⟨some 98, .ext (.t 93) 0, none⟩, ⟨some 99, .ext (.t 93) 1, none⟩, ⟨some 100, .faddr 1 (.t 10), none⟩, ⟨some 101, .iaddrA 4 1 (.t 100) (.t 94), none⟩, ⟨none, .store 1 (.t 101) (.t 98), none⟩]
def c63_21 : List LOper := [⟨some 102, .ibin .add (.t 34) (.c (.int .i64 1)), none⟩, ⟨some 34, .mov (.t 102), none⟩]
def c63_L0 : LC := (.seq (.reg false c63_8) (.seq (.cond (.t 35) .skip (.seq (.trim [3, 4, 5, 7, 8, 9, 10]) (.exit 2))) (.seq (.blk 3 (.seq (.reg false c63_9) (.seq (.reg false c63_10) (.seq (.reg false c63_11) (.seq (.seq (.reg false c63_12) (.cond (.t 61) (.seq (.reg false c63_13) (.reg false c63_14)) .skip)) (.seq (.seq (.reg false c63_15) (.cond (.t 74) (.exit 3) .skip)) (.seq (.reg false c63_16) (.seq (.reg false c63_17) (.cond (.t 86) (.seq (.reg false c63_18) (.seq (.reg false c63_19) (.cond (.t 92) (.reg false c63_20) .skip))) .skip))))))))) (.reg false c63_21))))
def c63_23 : List LOper := [⟨some 103, .mov (.t 7), none⟩, ⟨some 104, .load true 2 (.t 9), none⟩, ⟨some 105, .load true 5 (.t 10), none⟩, ⟨none, .setM true [false, false] (.t 103) (.t 104) (.t 105), none⟩]
def c63_24 : List LOper := [⟨some 106, .load true 2 (.t 9), none⟩, ⟨some 107, .load true 2 (.t 4), none⟩, ⟨some 108, .eqv false true [false, false] (.t 106) (.t 107), none⟩]
def c63_L1 : LC := (.seq (.seq (.reg false c63_3) (.cond (.t 24) .skip (.seq (.trim [7]) (.exit 0)))) (.blk 1 (.seq (.reg false c63_4) (.seq (.reg false c63_5) (.seq (.reg false c63_6) (.seq (.seq (.reg false c63_7) (.blk 2 (.loop [3, 4, 5, 7, 8, 9, 10, 33, 34] c63_L0))) (.seq (.reg false c63_23) (.seq (.reg false c63_24) (.cond (.t 108) (.seq (.trim [7]) (.exit 0)) .skip)))))))))
def c63_26 : List LOper := [⟨some 109, .mov (.t 7), none⟩, ⟨some 6, .mov (.t 109), none⟩]
def lc63 : LC := (.seq (.reg false c63_0) (.seq (.reg false c63_1) (.seq (.seq (.reg false c63_2) (.blk 0 (.loop [3, 4, 5, 7, 8] c63_L1))) (.seq (.reg false c63_26) .ret))))
def lf63 : LFunc := ⟨3, [.tmp 6], true, lc63⟩
def hi63 : Hints := ⟨[], [none, none, none, some [3, 4, 5, 7, 8], none, some [7], none, none, none, none, none, some [3, 4, 5, 7, 8, 9, 10, 33, 34], none, some [3, 4, 5, 7, 8, 9, 10], none, none, none, none, none, none, none, none, none, none, none, none, none, none, none, none, none, none, some [7], none, none, none], []⟩
theorem lf63_ok : compF Try.prog hi63 true Try.f63 = some lf63 := by kernel_rfl

/-! additive/comb.behind -/
def c64_0 : List LOper := [⟨some 2, .box (.t 0), none⟩, ⟨some 4, .mov (.c (.int .i64 0)), none⟩, ⟨some 5, .mov (.c (.int .i64 0)), none⟩]
def c64_1 : List LOper := [⟨some 6, .mov (.c (.int .i64 1099511627776)), none⟩, ⟨some 7, .mov (.c (.int .i64 0)), none⟩]
def c64_2 : List LOper := [⟨some 10, .faddr 1 (.t 2), none⟩, ⟨some 11, .load true 4 (.t 10), none⟩, ⟨some 12, .mov (.c (.int .i64 0)), none⟩]
def c64_3 : List LOper := [⟨some 13, .ibin .lss (.t 12) (.c (.int .i64 4)), none⟩]
def c64_4 : List LOper := [⟨some 14, .mov (.t 12), none⟩, ⟨some 15, .idx 4 1 false (.t 11) (.t 12), none⟩, ⟨some 8, .mov (.t 14), none⟩, ⟨some 9, .mov (.t 15), none⟩]
def c64_5 : List LOper := [⟨some 16, .mov (.t 1), none⟩, ⟨some 17, .ibin .geq (.t 16) (.c (.int .i64 0)), none⟩, ⟨some 18, .mov (.t 17), none⟩, ⟨some 19, .mov (.t 8), some (18, true)⟩, ⟨some 20, .mov (.t 1), some (18, true)⟩, ⟨some 21, .ibin .neq (.t 19) (.t 20), some (18, true)⟩, ⟨some 22, .pick (.t 18) (.t 21) (.c (.bool false)), none⟩]
def c64_6 : List LOper := [⟨some 23, .mov (.t 9), none⟩, ⟨some 24, .ibin .add (.t 23) (.c (.int .i64 1)), none⟩, ⟨some 9, .mov (.t 24), none⟩]
def c64_7 : List LOper := [⟨some 25, .mov (.t 9), none⟩, ⟨some 26, .mov (.t 6), none⟩, ⟨some 27, .ibin .lss (.t 25) (.t 26), none⟩]
def c64_8 : List LOper := [⟨some 28, .mov (.t 9), none⟩, ⟨some 29, .mov (.t 8), none⟩, ⟨some 6, .mov (.t 28), none⟩, ⟨some 7, .mov (.t 29), none⟩]
def c64_9 : List LOper := [⟨some 30, .ibin .add (.t 12) (.c (.int .i64 1)), none⟩, ⟨some 12, .mov (.t 30), none⟩]
def c64_L0 : LC := (.seq (.reg false c64_3) (.seq (.cond (.t 13) .skip (.seq (.trim [6, 7]) (.exit 0))) (.seq (.blk 1 (.seq (.reg false c64_4) (.seq (.seq (.reg false c64_5) (.cond (.t 22) (.reg false c64_6) .skip)) (.seq (.reg false c64_7) (.cond (.t 27) (.reg false c64_8) .skip))))) (.reg false c64_9))))
def c64_11 : List LOper := [⟨some 31, .mov (.t 6), none⟩, ⟨some 32, .mov (.t 7), none⟩, ⟨some 4, .mov (.t 31), none⟩, ⟨some 5, .mov (.t 32), none⟩]
def lc64 : LC := (.seq (.reg false c64_0) (.seq (.reg false c64_1) (.seq (.seq (.reg false c64_2) (.blk 0 (.loop [1, 6, 7, 11, 12] c64_L0))) (.seq (.reg false c64_11) .ret))))
def lf64 : LFunc := ⟨2, [.tmp 4, .tmp 5], true, lc64⟩
def hi64 : Hints := ⟨[], [none, none, none, some [1, 6, 7, 11, 12], none, some [6, 7], none, none, none, none, none, none, none, none, none], []⟩
theorem lf64_ok : compF Try.prog hi64 true Try.f64 = some lf64 := by kernel_rfl

/-! additive/comb.steps -/
def c65_0 : List LOper := [⟨some 0, .alloc [.int .i64 0, .int .i64 0, .int .i64 0, .int .i64 0, .int .i64 0, .int .i64 0, .int .i64 0, .int .i64 0], none⟩]
def c65_1 : List LOper := [⟨some 1, .build [.int .i64 0, .int .i64 0] [(0, 1, (.c (.int .i64 1)))], none⟩, ⟨some 2, .build [.int .i64 0, .int .i64 0] [(0, 1, (.c (.int .i64 (-1))))], none⟩, ⟨some 3, .build [.int .i64 0, .int .i64 0] [(1, 1, (.c (.int .i64 1)))], none⟩, ⟨some 4, .build [.int .i64 0, .int .i64 0] [(1, 1, (.c (.int .i64 (-1))))], none⟩, ⟨some 5, .build [.int .i64 0, .int .i64 0, .int .i64 0, .int .i64 0, .int .i64 0, .int .i64 0, .int .i64 0, .int .i64 0] [(0, 2, (.t 1)), (2, 2, (.t 2)), (4, 2, (.t 3)), (6, 2, (.t 4))], none⟩, ⟨none, .store 8 (.t 0) (.t 5), none⟩]
def lc65 : LC := (.seq (.reg false c65_0) (.seq (.reg false c65_1) .ret))
def lf65 : LFunc := ⟨0, [.cell 0 true 8], true, lc65⟩
def hi65 : Hints := ⟨[], [none, none, none], []⟩
theorem lf65_ok : compF Try.prog hi65 true Try.f65 = some lf65 := by kernel_rfl

/-! additive/additiveref34.table -/
def c66_0 : List LOper := [⟨some 2, .mov (.c (.nils)), none⟩]
def c66_1 : List LOper := [⟨some 6, .mov (.t 0), none⟩, ⟨some 7, .len (.t 6), none⟩, ⟨some 8, .mkS 4 32 84 [.int .i64 0, .int .i64 0, .int .i64 0, .int .i64 0] (.t 7) (.t 7), none⟩, ⟨some 3, .mov (.t 8), none⟩]
def c66_2 : List LOper := [⟨some 4, .mov (.c (.int .i64 0)), none⟩]
def c66_3 : List LOper := [⟨some 9, .mov (.t 4), none⟩, ⟨some 10, .mov (.t 0), none⟩, ⟨some 11, .len (.t 10), none⟩, ⟨some 12, .ibin .lss (.t 9) (.t 11), none⟩]
def c66_4 : List LOper := [⟨some 5, .mov (.c (.int .i64 0)), none⟩]
def c66_5 : List LOper := [⟨some 15, .mov (.t 5), none⟩, ⟨some 16, .ibin .lss (.t 15) (.c (.int .i64 4)), none⟩]
def c66_6 : List LOper := [⟨some 19, .mov (.t 3), none⟩, ⟨some 20, .mov (.t 4), none⟩, ⟨some 21, .mov (.t 5), none⟩, ⟨some 22, .mov (.t 0), none⟩, ⟨some 23, .mov (.t 0), none⟩, ⟨some 24, .mov (.t 4), none⟩, ⟨some 25, .iaddr 2 (.t 23) (.t 24), none⟩, ⟨some 26, .load true 2 (.t 25), none⟩, ⟨some 27, .mov (.t 5), none⟩, ⟨some 28, .callp 96 [(.t 26), (.t 27)], none⟩, ⟨some 29, .callp 68 [(.t 22), (.t 28)], none⟩, ⟨some 30, .iaddr 4 (.t 19) (.t 20), none⟩, ⟨some 31, .iaddrA 4 1 (.t 30) (.t 21), none⟩, ⟨none, .store 1 (.t 31) (.t 29), none⟩]
def c66_7 : List LOper := [⟨some 17, .mov (.t 5), none⟩, ⟨some 18, .ibin .add (.t 17) (.c (.int .i64 1)), none⟩, ⟨some 5, .mov (.t 18), none⟩]
def c66_L0 : LC := (.seq (.seq (.reg false c66_5) (.cond (.t 16) .skip (.seq (.trim [0, 3, 4]) (.exit 2)))) (.seq (.blk 3 (.reg true c66_6)) (.reg false c66_7)))
def c66_9 : List LOper := [⟨some 13, .mov (.t 4), none⟩, ⟨some 14, .ibin .add (.t 13) (.c (.int .i64 1)), none⟩, ⟨some 4, .mov (.t 14), none⟩]
def c66_L1 : LC := (.seq (.seq (.reg false c66_3) (.cond (.t 12) .skip (.seq (.trim [3]) (.exit 0)))) (.seq (.blk 1 (.seq (.reg false c66_4) (.blk 2 (.loop [0, 3, 4, 5] c66_L0)))) (.reg false c66_9)))
def c66_11 : List LOper := [⟨some 32, .mov (.t 3), none⟩, ⟨some 2, .mov (.t 32), none⟩]
def lc66 : LC := (.seq (.reg false c66_0) (.seq (.reg false c66_1) (.seq (.seq (.reg false c66_2) (.blk 0 (.loop [0, 3, 4] c66_L1))) (.seq (.reg false c66_11) .ret))))
def lf66 : LFunc := ⟨1, [.tmp 2], true, lc66⟩
def hi66 : Hints := ⟨[], [none, none, none, some [0, 3, 4], none, some [3], none, none, some [0, 3, 4, 5], none, some [0, 3, 4], none, none, none, none, none, none], []⟩
theorem lf66_ok : compF Try.prog hi66 true Try.f66 = some lf66 := by kernel_rfl

/-! additive/additiveref34.layers -/
def c67_0 : List LOper := [⟨some 4, .mov (.c (.nils)), none⟩]
def c67_1 : List LOper := [⟨some 12, .mov (.t 0), none⟩, ⟨some 13, .len (.t 12), none⟩, ⟨some 14, .mkS 1 1 4 [.bool false] (.t 13) (.t 13), none⟩, ⟨some 5, .mov (.t 14), none⟩]
def c67_2 : List LOper := [⟨some 15, .mov (.t 5), none⟩, ⟨some 16, .mov (.t 1), none⟩, ⟨some 17, .iaddr 1 (.t 15) (.t 16), none⟩, ⟨none, .store 1 (.t 17) (.c (.bool true)), none⟩]
def c67_3 : List LOper := [⟨some 18, .mov (.t 1), none⟩, ⟨some 19, .bslz 1 1 3 [.int .i64 0] [(0, 1, (.t 18))], none⟩, ⟨some 20, .bslice 1 1 38 [.nils] [(0, 1, (.t 19))], none⟩, ⟨some 6, .mov (.t 20), none⟩]
def c67_4 : List LOper := [⟨some 21, .mov (.t 6), none⟩, ⟨some 22, .mov (.t 6), none⟩, ⟨some 23, .len (.t 22), none⟩, ⟨some 24, .ibin .sub (.t 23) (.c (.int .i64 1)), none⟩, ⟨some 25, .iaddr 1 (.t 21) (.t 24), none⟩, ⟨some 26, .load false 1 (.t 25), none⟩, ⟨some 27, .len (.t 26), none⟩, ⟨some 28, .ibin .gtr (.t 27) (.c (.int .i64 0)), none⟩]
def c67_5 : List LOper := [⟨some 29, .mov (.t 6), none⟩, ⟨some 30, .mov (.t 6), none⟩, ⟨some 31, .len (.t 30), none⟩, ⟨some 32, .ibin .sub (.t 31) (.c (.int .i64 1)), none⟩, ⟨some 33, .iaddr 1 (.t 29) (.t 32), none⟩, ⟨some 34, .load false 1 (.t 33), none⟩, ⟨some 7, .mov (.t 34), none⟩]
def c67_6 : List LOper := [⟨some 8, .mov (.c (.nils)), none⟩]
def c67_7 : List LOper := [⟨some 9, .mov (.c (.int .i64 0)), none⟩]
def c67_8 : List LOper := [⟨some 35, .mov (.t 9), none⟩, ⟨some 36, .mov (.t 7), none⟩, ⟨some 37, .len (.t 36), none⟩, ⟨some 38, .ibin .lss (.t 35) (.t 37), none⟩]
def c67_9 : List LOper := [⟨some 10, .mov (.c (.int .i64 0)), none⟩]
def c67_10 : List LOper := [⟨some 41, .mov (.t 10), none⟩, ⟨some 42, .ibin .lss (.t 41) (.c (.int .i64 4)), none⟩]
def c67_11 : List LOper := [⟨some 45, .mov (.t 0), none⟩, ⟨some 46, .mov (.t 7), none⟩, ⟨some 47, .mov (.t 9), none⟩, ⟨some 48, .iaddr 1 (.t 46) (.t 47), none⟩, ⟨some 49, .load false 1 (.t 48), none⟩, ⟨some 50, .mov (.t 10), none⟩, ⟨some 51, .iaddr 4 (.t 45) (.t 49), none⟩, ⟨some 52, .iaddrA 4 1 (.t 51) (.t 50), none⟩, ⟨some 53, .load false 1 (.t 52), none⟩, ⟨some 11, .mov (.t 53), none⟩]
def c67_12 : List LOper := [⟨some 54, .mov (.t 11), none⟩, ⟨some 55, .ibin .geq (.t 54) (.c (.int .i64 0)), none⟩, ⟨some 56, .mov (.t 55), none⟩, ⟨some 57, .mov (.t 5), some (56, true)⟩, ⟨some 58, .mov (.t 11), some (56, true)⟩, ⟨some 59, .iaddr 1 (.t 57) (.t 58), some (56, true)⟩, ⟨some 60, .load false 1 (.t 59), some (56, true)⟩, ⟨some 61, .un .not (.t 60), some (56, true)⟩, ⟨some 62, .pick (.t 56) (.t 61) (.c (.bool false)), none⟩]
def c67_13 : List LOper := [⟨some 63, .mov (.t 5), none⟩, ⟨some 64, .mov (.t 11), none⟩, ⟨some 65, .iaddr 1 (.t 63) (.t 64), none⟩, ⟨none, .store 1 (.t 65) (.c (.bool true)), none⟩]
def c67_14 : List LOper := [⟨some 66, .mov (.t 8), none⟩, ⟨some 67, .mov (.t 11), none⟩, ⟨some 68, .bslice 1 1 3 [.int .i64 0] [(0, 1, (.t 67))], none⟩, ⟨some 69, .app 1 8 3 [.int .i64 0] (.t 66) (.t 68), none⟩, ⟨some 8, .mov (.t 69), none⟩]
def c67_15 : List LOper := [⟨some 43, .mov (.t 10), none⟩, ⟨some 44, .ibin .add (.t 43) (.c (.int .i64 1)), none⟩, ⟨some 10, .mov (.t 44), none⟩]
def c67_L0 : LC := (.seq (.seq (.reg false c67_10) (.cond (.t 42) .skip (.seq (.trim [0, 5, 6, 7, 8, 9]) (.exit 4)))) (.seq (.blk 5 (.seq (.reg false c67_11) (.seq (.reg false c67_12) (.cond (.t 62) (.seq (.reg false c67_13) (.reg false c67_14)) .skip)))) (.reg false c67_15)))
def c67_17 : List LOper := [⟨some 39, .mov (.t 9), none⟩, ⟨some 40, .ibin .add (.t 39) (.c (.int .i64 1)), none⟩, ⟨some 9, .mov (.t 40), none⟩]
def c67_L1 : LC := (.seq (.seq (.reg false c67_8) (.cond (.t 38) .skip (.seq (.trim [0, 5, 6, 8]) (.exit 2)))) (.seq (.blk 3 (.seq (.reg false c67_9) (.blk 4 (.loop [0, 5, 6, 7, 8, 9, 10] c67_L0)))) (.reg false c67_17)))
def c67_19 : List LOper := [⟨some 70, .mov (.t 6), none⟩, ⟨some 71, .frz (.t 8), none⟩, ⟨some 72, .bslice 1 1 38 [.nils] [(0, 1, (.t 71))], none⟩, ⟨some 73, .app 1 24 38 [.nils] (.t 70) (.t 72), none⟩, ⟨some 6, .mov (.t 73), none⟩]
def c67_L2 : LC := (.seq (.seq (.reg false c67_4) (.cond (.t 28) .skip (.seq (.trim [6]) (.exit 0)))) (.blk 1 (.seq (.reg false c67_5) (.seq (.reg false c67_6) (.seq (.seq (.reg false c67_7) (.blk 2 (.loop [0, 5, 6, 7, 8, 9] c67_L1))) (.reg false c67_19))))))
def c67_21 : List LOper := [⟨some 74, .mov (.t 6), none⟩, ⟨some 4, .mov (.t 74), none⟩]
def lc67 : LC := (.seq (.reg false c67_0) (.seq (.reg false c67_1) (.seq (.reg false c67_2) (.seq (.reg false c67_3) (.seq (.blk 0 (.loop [0, 5, 6] c67_L2)) (.seq (.reg false c67_21) .ret))))))
def lf67 : LFunc := ⟨2, [.tmp 4], true, lc67⟩
def hi67 : Hints := ⟨[(19, .z), (71, .z)], [none, none, none, none, some [0, 5, 6], none, some [6], none, none, none, none, some [0, 5, 6, 7, 8, 9], none, some [0, 5, 6, 8], none, none, some [0, 5, 6, 7, 8, 9, 10], none, some [0, 5, 6, 7, 8, 9], none, none, none, none, none, none, none, none, none, none], []⟩
theorem lf67_ok : compF Try.prog hi67 true Try.f67 = some lf67 := by kernel_rfl

/-! additive/additiveref34.spot -/
def c68_0 : List LOper := [⟨some 3, .box (.t 1), none⟩, ⟨some 4, .mov (.c (.int .i64 0)), none⟩]
def c68_1 : List LOper := [⟨some 5, .mov (.c (.int .i64 0)), none⟩]
def c68_2 : List LOper := [⟨some 6, .mov (.t 5), none⟩, ⟨some 7, .mov (.t 0), none⟩, ⟨some 8, .len (.t 7), none⟩, ⟨some 9, .ibin .lss (.t 6) (.t 8), none⟩]
def c68_3 : List LOper := [⟨some 12, .mov (.t 0), none⟩, ⟨some 13, .mov (.t 5), none⟩, ⟨some 14, .iaddr 2 (.t 12) (.t 13), none⟩, ⟨some 15, .load true 2 (.t 14), none⟩, ⟨some 16, .load true 2 (.t 3), none⟩, ⟨some 17, .eqv false true [false, false] (.t 15) (.t 16), none⟩]
def c68_4 : List LOper := [⟨some 18, .mov (.t 5), none⟩, ⟨some 4, .mov (.t 18), none⟩]
def c68_5 : List LOper := [⟨some 10, .mov (.t 5), none⟩, ⟨some 11, .ibin .add (.t 10) (.c (.int .i64 1)), none⟩, ⟨some 5, .mov (.t 11), none⟩]
def c68_L0 : LC := (.seq (.seq (.reg false c68_2) (.cond (.t 9) .skip (.seq (.trim []) (.exit 0)))) (.seq (.blk 1 (.seq (.reg true c68_3) (.cond (.t 17) (.seq (.reg false c68_4) (.seq (.trim [4]) .ret)) .skip))) (.reg false c68_5)))
def c68_7 : List LOper := [⟨some 4, .mov (.c (.int .i64 (-1))), none⟩]
def lc68 : LC := (.seq (.reg false c68_0) (.seq (.seq (.reg false c68_1) (.blk 0 (.loop [0, 3, 5] c68_L0))) (.seq (.reg false c68_7) .ret)))
def lf68 : LFunc := ⟨2, [.tmp 4], true, lc68⟩
def hi68 : Hints := ⟨[], [none, none, some [0, 3, 5], none, some [], none, none, none, some [4], none, none, none, none], []⟩
theorem lf68_ok : compF Try.prog hi68 true Try.f68 = some lf68 := by kernel_rfl

/-! additive/additiveref34.easiest -/
def c69_0 : List LOper := [⟨some 10, .mov (.c (.int .i64 0)), none⟩, ⟨some 11, .mov (.c (.int .i64 0)), none⟩]
def c69_1 : List LOper := [⟨some 12, .mov (.c (.int .i64 (-1))), none⟩, ⟨some 13, .mov (.c (.int .i64 0)), none⟩]
def c69_2 : List LOper := [⟨some 14, .mov (.c (.int .i64 0)), none⟩]
def c69_3 : List LOper := [⟨some 17, .mov (.t 14), none⟩, ⟨some 18, .ibin .lss (.t 17) (.c (.int .i64 4)), none⟩]
def c69_4 : List LOper := [⟨some 21, .mov (.t 0), none⟩, ⟨some 22, .mov (.t 3), none⟩, ⟨some 23, .mov (.t 14), none⟩, ⟨some 24, .iaddr 4 (.t 21) (.t 22), none⟩, ⟨some 25, .iaddrA 4 1 (.t 24) (.t 23), none⟩, ⟨some 26, .load false 1 (.t 25), none⟩, ⟨some 15, .mov (.t 26), none⟩]
def c69_5 : List LOper := [⟨some 27, .mov (.t 15), none⟩, ⟨some 28, .ibin .lss (.t 27) (.c (.int .i64 0)), none⟩, ⟨some 29, .mov (.t 28), none⟩, ⟨some 30, .mov (.t 1), some (29, false)⟩, ⟨some 31, .mov (.t 15), some (29, false)⟩, ⟨some 32, .iaddr 1 (.t 30) (.t 31), some (29, false)⟩, ⟨some 33, .load false 1 (.t 32), some (29, false)⟩, ⟨some 34, .mov (.t 1), some (29, false)⟩, ⟨some 35, .mov (.t 3), some (29, false)⟩, ⟨some 36, .iaddr 1 (.t 34) (.t 35), some (29, false)⟩, ⟨some 37, .load false 1 (.t 36), some (29, false)⟩, ⟨some 38, .ibin .sub (.t 37) (.c (.int .i64 1)), some (29, false)⟩, ⟨some 39, .ibin .neq (.t 33) (.t 38), some (29, false)⟩, ⟨some 40, .pick (.t 29) (.c (.bool true)) (.t 39), none⟩]
def c69_6 : List LOper := [⟨some 41, .mov (.t 2), none⟩, ⟨some 42, .mov (.t 15), none⟩, ⟨some 43, .mov (.t 14), none⟩, ⟨some 44, .iaddr 5 (.t 41) (.t 42), none⟩, ⟨some 45, .iaddrA 5 1 (.t 44) (.t 43), none⟩, ⟨some 46, .load false 1 (.t 45), none⟩, ⟨some 16, .mov (.t 46), none⟩]
def c69_7 : List LOper := [⟨some 47, .mov (.t 4), none⟩, ⟨some 48, .ibin .lss (.t 47) (.c (.int .i64 4)), none⟩, ⟨some 49, .mov (.t 48), none⟩, ⟨some 50, .mov (.t 4), some (49, true)⟩, ⟨some 51, .mov (.t 14), some (49, true)⟩, ⟨some 52, .ibin .neq (.t 50) (.t 51), some (49, true)⟩, ⟨some 53, .pick (.t 49) (.t 52) (.c (.bool false)), none⟩]
def c69_8 : List LOper := [⟨some 54, .mov (.t 16), none⟩, ⟨some 55, .ibin .add (.t 54) (.c (.int .i64 1)), none⟩, ⟨some 16, .mov (.t 55), none⟩]
def c69_9 : List LOper := [⟨some 56, .mov (.t 12), none⟩, ⟨some 57, .ibin .lss (.t 56) (.c (.int .i64 0)), none⟩, ⟨some 58, .mov (.t 57), none⟩, ⟨some 59, .mov (.t 16), some (58, false)⟩, ⟨some 60, .mov (.t 13), some (58, false)⟩, ⟨some 61, .ibin .lss (.t 59) (.t 60), some (58, false)⟩, ⟨some 62, .pick (.t 58) (.c (.bool true)) (.t 61), none⟩]
def c69_10 : List LOper := [⟨some 63, .mov (.t 14), none⟩, ⟨some 12, .mov (.t 63), none⟩]
def c69_11 : List LOper := [⟨some 64, .mov (.t 16), none⟩, ⟨some 13, .mov (.t 64), none⟩]
def c69_12 : List LOper := [⟨some 19, .mov (.t 14), none⟩, ⟨some 20, .ibin .add (.t 19) (.c (.int .i64 1)), none⟩, ⟨some 14, .mov (.t 20), none⟩]
def c69_L0 : LC := (.seq (.seq (.reg false c69_3) (.cond (.t 18) .skip (.seq (.trim [12, 13]) (.exit 0)))) (.seq (.blk 1 (.seq (.reg false c69_4) (.seq (.seq (.reg true c69_5) (.cond (.t 40) (.exit 1) .skip)) (.seq (.reg false c69_6) (.seq (.seq (.reg false c69_7) (.cond (.t 53) (.reg false c69_8) .skip)) (.seq (.reg false c69_9) (.cond (.t 62) (.seq (.reg false c69_10) (.reg false c69_11)) .skip))))))) (.reg false c69_12)))
def c69_14 : List LOper := [⟨some 65, .mov (.t 12), none⟩, ⟨some 66, .mov (.t 13), none⟩, ⟨some 10, .mov (.t 65), none⟩, ⟨some 11, .mov (.t 66), none⟩]
def lc69 : LC := (.seq (.reg false c69_0) (.seq (.reg false c69_1) (.seq (.seq (.reg false c69_2) (.blk 0 (.loop [0, 1, 2, 3, 4, 12, 13, 14] c69_L0))) (.seq (.reg false c69_14) .ret))))
def lf69 : LFunc := ⟨5, [.tmp 10, .tmp 11], true, lc69⟩
def hi69 : Hints := ⟨[], [none, none, none, some [0, 1, 2, 3, 4, 12, 13, 14], none, some [12, 13], none, none, none, none, none, none, none, none, none, none, none, none, none, none], []⟩
theorem lf69_ok : compF Try.prog hi69 true Try.f69 = some lf69 := by kernel_rfl

/-! additive/additiveref34.found -/
def c87_0 : List LOper := [⟨some 3, .box (.t 1), none⟩, ⟨some 4, .mov (.c (.bool false)), none⟩]
def c87_1 : List LOper := [⟨some 5, .mov (.c (.int .i64 0)), none⟩]
def c87_2 : List LOper := [⟨some 6, .mov (.t 5), none⟩, ⟨some 7, .mov (.t 0), none⟩, ⟨some 8, .len (.t 7), none⟩, ⟨some 9, .ibin .lss (.t 6) (.t 8), none⟩]
def c87_3 : List LOper := [⟨some 12, .mov (.t 0), none⟩, ⟨some 13, .mov (.t 5), none⟩, ⟨some 14, .iaddr 3 (.t 12) (.t 13), none⟩, ⟨some 15, .faddr 0 (.t 14), none⟩, ⟨some 16, .load true 2 (.t 15), none⟩, ⟨some 17, .load true 2 (.t 3), none⟩, ⟨some 18, .eqv false true [false, false] (.t 16) (.t 17), none⟩]
def c87_4 : List LOper := [⟨some 4, .mov (.c (.bool true)), none⟩]
def c87_5 : List LOper := [⟨some 10, .mov (.t 5), none⟩, ⟨some 11, .ibin .add (.t 10) (.c (.int .i64 1)), none⟩, ⟨some 5, .mov (.t 11), none⟩]
def c87_L0 : LC := (.seq (.seq (.reg false c87_2) (.cond (.t 9) .skip (.seq (.trim []) (.exit 0)))) (.seq (.blk 1 (.seq (.reg true c87_3) (.cond (.t 18) (.seq (.reg false c87_4) (.seq (.trim [4]) .ret)) .skip))) (.reg false c87_5)))
def c87_7 : List LOper := [⟨some 4, .mov (.c (.bool false)), none⟩]
def lc87 : LC := (.seq (.reg false c87_0) (.seq (.seq (.reg false c87_1) (.blk 0 (.loop [0, 3, 5] c87_L0))) (.seq (.reg false c87_7) .ret)))
def lf87 : LFunc := ⟨2, [.tmp 4], true, lc87⟩
def hi87 : Hints := ⟨[], [none, none, some [0, 3, 5], none, some [], none, none, none, some [4], none, none, none, none], []⟩
theorem lf87_ok : compF Try.prog hi87 true Try.f87 = some lf87 := by kernel_rfl

/-! additive/additiveref18.fine -/
def c88_0 : List LOper := [⟨some 2, .mov (.c (.bool false)), none⟩]
def c88_1 : List LOper := [⟨some 3, .mov (.c (.int .i64 0)), none⟩]
def c88_2 : List LOper := [⟨some 4, .mov (.t 3), none⟩, ⟨some 5, .mov (.t 0), none⟩, ⟨some 6, .len (.t 5), none⟩, ⟨some 7, .ibin .lss (.t 4) (.t 6), none⟩]
def c88_3 : List LOper := [⟨some 10, .mov (.t 0), none⟩, ⟨some 11, .mov (.t 3), none⟩, ⟨some 12, .iaddr 2 (.t 10) (.t 11), none⟩, ⟨some 13, .faddr 0 (.t 12), none⟩, ⟨some 14, .load false 1 (.t 13), none⟩, ⟨some 15, .ibin .lss (.t 14) (.c (.int .i64 (-4096))), none⟩, ⟨some 16, .mov (.t 15), none⟩, ⟨some 17, .mov (.t 0), some (16, false)⟩, ⟨some 18, .mov (.t 3), some (16, false)⟩, ⟨some 19, .iaddr 2 (.t 17) (.t 18), some (16, false)⟩, ⟨some 20, .faddr 0 (.t 19), some (16, false)⟩, ⟨some 21, .load false 1 (.t 20), some (16, false)⟩, ⟨some 22, .mov (.t 0), some (16, false)⟩, ⟨some 23, .mov (.t 3), some (16, false)⟩, ⟨some 24, .iaddr 2 (.t 22) (.t 23), some (16, false)⟩, ⟨some 25, .faddr 1 (.t 24), some (16, false)⟩, ⟨some 26, .load false 1 (.t 25), some (16, false)⟩, ⟨some 27, .ibin .geq (.t 21) (.t 26), some (16, false)⟩, ⟨some 28, .pick (.t 16) (.c (.bool true)) (.t 27), none⟩, ⟨some 29, .mov (.t 28), none⟩, ⟨some 30, .mov (.t 0), some (29, false)⟩, ⟨some 31, .mov (.t 3), some (29, false)⟩, ⟨some 32, .iaddr 2 (.t 30) (.t 31), some (29, false)⟩, ⟨some 33, .faddr 1 (.t 32), some (29, false)⟩, ⟨some 34, .load false 1 (.t 33), some (29, false)⟩, ⟨some 35, .ibin .gtr (.t 34) (.c (.int .i64 4096)), some (29, false)⟩, ⟨some 36, .pick (.t 29) (.c (.bool true)) (.t 35), none⟩, ⟨some 37, .mov (.t 36), none⟩, ⟨some 38, .mov (.t 3), some (37, false)⟩, ⟨some 39, .ibin .gtr (.t 38) (.c (.int .i64 0)), some (37, false)⟩, ⟨some 40, .mov (.t 39), some (37, false)⟩, ⟨some 41, .mov (.t 0), some (40, true)⟩, ⟨some 42, .mov (.t 3), some (40, true)⟩, ⟨some 43, .iaddr 2 (.t 41) (.t 42), some (40, true)⟩, ⟨some 44, .faddr 0 (.t 43), some (40, true)⟩, ⟨some 45, .load false 1 (.t 44), some (40, true)⟩, ⟨some 46, .mov (.t 0), some (40, true)⟩, ⟨some 47, .mov (.t 3), some (40, true)⟩, ⟨some 48, .ibin .sub (.t 47) (.c (.int .i64 1)), some (40, true)⟩, ⟨some 49, .iaddr 2 (.t 46) (.t 48), some (40, true)⟩, ⟨some 50, .faddr 1 (.t 49), some (40, true)⟩, ⟨some 51, .load false 1 (.t 50), some (40, true)⟩, ⟨some 52, .ibin .leq (.t 45) (.t 51), some (40, true)⟩, ⟨some 53, .pick (.t 40) (.t 52) (.c (.bool false)), some (37, false)⟩, ⟨some 54, .pick (.t 37) (.c (.bool true)) (.t 53), none⟩]
def c88_4 : List LOper := [⟨some 2, .mov (.c (.bool false)), none⟩]
def c88_5 : List LOper := [⟨some 8, .mov (.t 3), none⟩, ⟨some 9, .ibin .add (.t 8) (.c (.int .i64 1)), none⟩, ⟨some 3, .mov (.t 9), none⟩]
def c88_L0 : LC := (.seq (.seq (.reg false c88_2) (.cond (.t 7) .skip (.seq (.trim [0]) (.exit 0)))) (.seq (.blk 1 (.seq (.reg true c88_3) (.cond (.t 54) (.seq (.reg false c88_4) (.seq (.trim [2]) .ret)) .skip))) (.reg false c88_5)))
def c88_7 : List LOper := [⟨some 55, .mov (.t 0), none⟩, ⟨some 56, .len (.t 55), none⟩, ⟨some 57, .ibin .gtr (.t 56) (.c (.int .i64 0)), none⟩, ⟨some 2, .mov (.t 57), none⟩]
def lc88 : LC := (.seq (.reg false c88_0) (.seq (.seq (.reg false c88_1) (.blk 0 (.loop [0, 3] c88_L0))) (.seq (.reg false c88_7) .ret)))
def lf88 : LFunc := ⟨1, [.tmp 2], true, lc88⟩
def hi88 : Hints := ⟨[], [none, none, some [0, 3], none, some [0], none, none, none, some [2], none, none, none, none], []⟩
theorem lf88_ok : compF Try.prog hi88 true Try.f88 = some lf88 := by kernel_rfl

/-! additive/region.ok -/
def c89_0 : List LOper := [⟨some 2, .mov (.c (.bool false)), none⟩]
def c89_1 : List LOper := [⟨some 3, .mov (.t 0), none⟩, ⟨some 4, .ibin .geq (.t 3) (.c (.int .i64 (-4096))), none⟩, ⟨some 5, .mov (.t 4), none⟩, ⟨some 6, .mov (.t 0), some (5, true)⟩, ⟨some 7, .ibin .lss (.t 6) (.c (.int .i64 4096)), some (5, true)⟩, ⟨some 8, .pick (.t 5) (.t 7) (.c (.bool false)), none⟩, ⟨some 2, .mov (.t 8), none⟩]
def lc89 : LC := (.seq (.reg false c89_0) (.seq (.reg false c89_1) .ret))
def lf89 : LFunc := ⟨1, [.tmp 2], true, lc89⟩
def hi89 : Hints := ⟨[], [none, none, none], []⟩
theorem lf89_ok : compF Try.prog hi89 true Try.f89 = some lf89 := by kernel_rfl

/-! additive/runs.Valid -/
def c90_0 : List LOper := [⟨some 2, .mov (.c (.bool false)), none⟩]
def c90_1 : List LOper := [⟨some 5, .mov (.t 0), none⟩, ⟨some 6, .len (.t 5), none⟩, ⟨some 7, .mov (.c (.int .i64 0)), none⟩]
def c90_2 : List LOper := [⟨some 8, .ibin .lss (.t 7) (.t 6), none⟩]
def c90_3 : List LOper := [⟨some 9, .mov (.t 7), none⟩, ⟨some 10, .iaddr 2 (.t 5) (.t 7), none⟩, ⟨some 11, .load true 2 (.t 10), none⟩, ⟨some 4, .alloc [.int .i64 0, .int .i64 0], none⟩, ⟨some 3, .mov (.t 9), none⟩, ⟨none, .store 2 (.t 4) (.t 11), none⟩]
def c90_4 : List LOper := [⟨some 12, .faddr 0 (.t 4), none⟩, ⟨some 13, .load false 1 (.t 12), none⟩, ⟨some 14, .faddr 1 (.t 4), none⟩, ⟨some 15, .load false 1 (.t 14), none⟩, ⟨some 16, .ibin .geq (.t 13) (.t 15), none⟩, ⟨some 17, .mov (.t 16), none⟩, ⟨some 18, .load true 2 (.t 4), some (17, false)⟩, ⟨some 19, .callp 112 [(.t 18)], some (17, false)⟩, ⟨some 20, .un .not (.t 19), some (17, false)⟩, ⟨some 21, .pick (.t 17) (.c (.bool true)) (.t 20), none⟩, ⟨some 22, .mov (.t 21), none⟩, ⟨some 23, .mov (.t 3), some (22, false)⟩, ⟨some 24, .ibin .gtr (.t 23) (.c (.int .i64 0)), some (22, false)⟩, ⟨some 25, .mov (.t 24), some (22, false)⟩, ⟨some 26, .faddr 0 (.t 4), some (25, true)⟩, ⟨some 27, .load false 1 (.t 26), some (25, true)⟩, ⟨some 28, .mov (.t 0), some (25, true)⟩, ⟨some 29, .mov (.t 3), some (25, true)⟩, ⟨some 30, .ibin .sub (.t 29) (.c (.int .i64 1)), some (25, true)⟩, ⟨some 31, .iaddr 2 (.t 28) (.t 30), some (25, true)⟩, ⟨some 32, .faddr 1 (.t 31), some (25, true)⟩, ⟨some 33, .load false 1 (.t 32), some (25, true)⟩, ⟨some 34, .ibin .leq (.t 27) (.t 33), some (25, true)⟩, ⟨some 35, .pick (.t 25) (.t 34) (.c (.bool false)), some (22, false)⟩, ⟨some 36, .pick (.t 22) (.c (.bool true)) (.t 35), none⟩]
def c90_5 : List LOper := [⟨some 2, .mov (.c (.bool false)), none⟩]
def c90_6 : List LOper := [⟨some 37, .ibin .add (.t 7) (.c (.int .i64 1)), none⟩, ⟨some 7, .mov (.t 37), none⟩]
def c90_L0 : LC := (.seq (.reg false c90_2) (.seq (.cond (.t 8) .skip (.seq (.trim []) (.exit 0))) (.seq (.blk 1 (.seq (.reg false c90_3) (.seq (.reg true c90_4) (.cond (.t 36) (.seq (.reg false c90_5) (.seq (.trim [2]) .ret)) .skip)))) (.reg false c90_6))))
def c90_8 : List LOper := [⟨some 2, .mov (.c (.bool true)), none⟩]
def lc90 : LC := (.seq (.reg false c90_0) (.seq (.seq (.reg false c90_1) (.blk 0 (.loop [0, 5, 6, 7] c90_L0))) (.seq (.reg false c90_8) .ret)))
def lf90 : LFunc := ⟨1, [.tmp 2], true, lc90⟩
def hi90 : Hints := ⟨[], [none, none, some [0, 5, 6, 7], none, some [], none, none, none, none, some [2], none, none, none, none], []⟩
theorem lf90_ok : compF Try.prog hi90 true Try.f90 = some lf90 := by kernel_rfl

/-! slices.ContainsFunc[[]additive/api.Run,additive/api.Run] -/
def c91_0 : List LOper := [⟨some 4, .mov (.c (.bool false)), none⟩]
def c91_1 : List LOper := [⟨some 5, .mov (.t 0), none⟩, ⟨some 6, .mov (.t 1), none⟩, ⟨some 7, .callq 113 [(.t 5), (.t 6)], none⟩, ⟨some 8, .ibin .geq (.t 7) (.c (.int .i64 0)), none⟩, ⟨some 4, .mov (.t 8), none⟩]
def lc91 : LC := (.seq (.reg false c91_0) (.seq (.reg false c91_1) .ret))
def lf91 : LFunc := ⟨2, [.tmp 4], true, lc91⟩
def hi91 : Hints := ⟨[(7, .q)], [none, none, none], []⟩
theorem lf91_ok : compF Try.prog hi91 true Try.f91 = some lf91 := by kernel_rfl

/-! additive/runs.Contains$1 -/
def c92_0 : List LOper := [⟨some 2, .box (.t 0), none⟩, ⟨some 3, .mov (.c (.bool false)), none⟩]
def c92_1 : List LOper := [⟨some 4, .faddr 0 (.t 2), none⟩, ⟨some 5, .load false 1 (.t 4), none⟩, ⟨some 6, .load false 1 (.t 1), none⟩, ⟨some 7, .ibin .leq (.t 5) (.t 6), none⟩, ⟨some 8, .mov (.t 7), none⟩, ⟨some 9, .load false 1 (.t 1), some (8, true)⟩, ⟨some 10, .faddr 1 (.t 2), some (8, true)⟩, ⟨some 11, .load false 1 (.t 10), some (8, true)⟩, ⟨some 12, .ibin .lss (.t 9) (.t 11), some (8, true)⟩, ⟨some 13, .pick (.t 8) (.t 12) (.c (.bool false)), none⟩, ⟨some 3, .mov (.t 13), none⟩]
def lc92 : LC := (.seq (.reg false c92_0) (.seq (.reg false c92_1) .ret))
def lf92 : LFunc := ⟨2, [.tmp 3], true, lc92⟩
def hi92 : Hints := ⟨[], [none, none, none], []⟩
theorem lf92_ok : compF Try.prog hi92 true Try.f92 = some lf92 := by kernel_rfl

/-! slices.BinarySearchFunc[[]additive/api.Row,additive/api.Row,int] -/
def c93_0 : List LOper := [⟨some 6, .mov (.c (.int .i64 0)), none⟩, ⟨some 7, .mov (.c (.bool false)), none⟩]
def c93_1 : List LOper := [⟨some 12, .mov (.t 0), none⟩, ⟨some 13, .len (.t 12), none⟩, ⟨some 8, .mov (.t 13), none⟩]
def c93_2 : List LOper := [⟨some 14, .mov (.t 8), none⟩, ⟨some 9, .mov (.c (.int .i64 0)), none⟩, ⟨some 10, .mov (.t 14), none⟩]
def c93_3 : List LOper := [⟨some 15, .mov (.t 9), none⟩, ⟨some 16, .mov (.t 10), none⟩, ⟨some 17, .ibin .lss (.t 15) (.t 16), none⟩]
def c93_4 : List LOper := [⟨some 18, .mov (.t 9), none⟩, ⟨some 19, .mov (.t 10), none⟩, ⟨some 20, .ibin .add (.t 18) (.t 19), none⟩, ⟨some 21, .conv .u64 (.t 20), none⟩, ⟨some 22, .shf .shr (.t 21) (.c (.int .u64 1)), none⟩, ⟨some 23, .conv .i64 (.t 22), none⟩, ⟨some 11, .mov (.t 23), none⟩]
def c93_5 : List LOper := [⟨some 24, .mov (.t 2), none⟩, ⟨some 25, .mov (.t 0), none⟩, ⟨some 26, .mov (.t 11), none⟩, ⟨some 27, .iaddr 2 (.t 25) (.t 26), none⟩, ⟨some 28, .load true 2 (.t 27), none⟩, ⟨some 29, .mov (.t 1), none⟩, ⟨some 30, .callv (.t 24) [(.t 28), (.t 29)], none⟩, ⟨some 31, .ibin .lss (.t 30) (.c (.int .i64 0)), none⟩]
def c93_6 : List LOper := [⟨some 32, .mov (.t 11), none⟩, ⟨some 33, .ibin .add (.t 32) (.c (.int .i64 1)), none⟩, ⟨some 9, .mov (.t 33), none⟩]
def c93_7 : List LOper := [⟨some 34, .mov (.t 11), none⟩, ⟨some 10, .mov (.t 34), none⟩]
def c93_L0 : LC := (.seq (.seq (.reg false c93_3) (.cond (.t 17) .skip (.seq (.trim [0, 1, 2, 8, 9]) (.exit 0)))) (.blk 1 (.seq (.reg false c93_4) (.seq (.reg false c93_5) (.cond (.t 31) (.reg false c93_6) (.reg false c93_7))))))
def c93_9 : List LOper := [⟨some 35, .mov (.t 9), none⟩, ⟨some 36, .mov (.t 9), none⟩, ⟨some 37, .mov (.t 8), none⟩, ⟨some 38, .ibin .lss (.t 36) (.t 37), none⟩, ⟨some 39, .mov (.t 38), none⟩, ⟨some 40, .mov (.t 2), some (39, true)⟩, ⟨some 41, .mov (.t 0), some (39, true)⟩, ⟨some 42, .mov (.t 9), some (39, true)⟩, ⟨some 43, .iaddr 2 (.t 41) (.t 42), some (39, true)⟩, ⟨some 44, .load true 2 (.t 43), some (39, true)⟩, ⟨some 45, .mov (.t 1), some (39, true)⟩, ⟨some 46, .callv (.t 40) [(.t 44), (.t 45)], some (39, true)⟩, ⟨some 47, .ibin .eql (.t 46) (.c (.int .i64 0)), some (39, true)⟩, ⟨some 48, .pick (.t 39) (.t 47) (.c (.bool false)), none⟩, ⟨some 6, .mov (.t 35), none⟩, ⟨some 7, .mov (.t 48), none⟩]
def lc93 : LC := (.seq (.reg false c93_0) (.seq (.reg false c93_1) (.seq (.reg false c93_2) (.seq (.blk 0 (.loop [0, 1, 2, 8, 9, 10] c93_L0)) (.seq (.reg false c93_9) .ret)))))
def lf93 : LFunc := ⟨3, [.tmp 6, .tmp 7], true, lc93⟩
def hi93 : Hints := ⟨[], [none, none, none, some [0, 1, 2, 8, 9, 10], none, some [0, 1, 2, 8, 9], none, none, none, none, none, none], []⟩
theorem lf93_ok : compF Try.prog hi93 true Try.f93 = some lf93 := by kernel_rfl

/-! additive/region.row$1 -/
def c94_0 : List LOper := [⟨some 2, .box (.t 0), none⟩, ⟨some 4, .mov (.c (.int .i64 0)), none⟩]
def c94_1 : List LOper := [⟨some 5, .faddr 0 (.t 2), none⟩, ⟨some 6, .load false 1 (.t 5), none⟩, ⟨some 7, .mov (.t 1), none⟩, ⟨some 8, .callp 95 [(.t 6), (.t 7)], none⟩, ⟨some 4, .mov (.t 8), none⟩]
def lc94 : LC := (.seq (.reg false c94_0) (.seq (.reg false c94_1) .ret))
def lf94 : LFunc := ⟨2, [.tmp 4], true, lc94⟩
def hi94 : Hints := ⟨[], [none, none, none], []⟩
theorem lf94_ok : compF Try.prog hi94 true Try.f94 = some lf94 := by kernel_rfl

/-! cmp.Compare[int] -/
def c95_0 : List LOper := [⟨some 4, .mov (.c (.int .i64 0)), none⟩]
def c95_1 : List LOper := [⟨some 7, .mov (.t 0), none⟩, ⟨some 8, .callp 114 [(.t 7)], none⟩, ⟨some 5, .mov (.t 8), none⟩]
def c95_2 : List LOper := [⟨some 9, .mov (.t 1), none⟩, ⟨some 10, .callp 114 [(.t 9)], none⟩, ⟨some 6, .mov (.t 10), none⟩]
def c95_3 : List LOper := [⟨some 11, .mov (.t 5), none⟩]
def c95_4 : List LOper := [⟨some 12, .mov (.t 6), none⟩]
def c95_5 : List LOper := [⟨some 4, .mov (.c (.int .i64 0)), none⟩]
def c95_6 : List LOper := [⟨some 4, .mov (.c (.int .i64 (-1))), none⟩]
def c95_7 : List LOper := [⟨some 13, .mov (.t 6), none⟩]
def c95_8 : List LOper := [⟨some 4, .mov (.c (.int .i64 1)), none⟩]
def c95_9 : List LOper := [⟨some 14, .mov (.t 0), none⟩, ⟨some 15, .mov (.t 1), none⟩, ⟨some 16, .ibin .lss (.t 14) (.t 15), none⟩]
def c95_10 : List LOper := [⟨some 4, .mov (.c (.int .i64 (-1))), none⟩]
def c95_11 : List LOper := [⟨some 17, .mov (.t 0), none⟩, ⟨some 18, .mov (.t 1), none⟩, ⟨some 19, .ibin .gtr (.t 17) (.t 18), none⟩]
def c95_12 : List LOper := [⟨some 4, .mov (.c (.int .i64 1)), none⟩]
def c95_13 : List LOper := [⟨some 4, .mov (.c (.int .i64 0)), none⟩]
def lc95 : LC := (.seq (.reg false c95_0) (.seq (.reg false c95_1) (.seq (.reg false c95_2) (.seq (.seq (.reg false c95_3) (.cond (.t 11) (.seq (.seq (.reg false c95_4) (.cond (.t 12) (.seq (.reg false c95_5) .ret) .skip)) (.seq (.reg false c95_6) .ret)) .skip)) (.seq (.seq (.reg false c95_7) (.cond (.t 13) (.seq (.reg false c95_8) .ret) .skip)) (.seq (.seq (.reg false c95_9) (.cond (.t 16) (.seq (.reg false c95_10) .ret) .skip)) (.seq (.seq (.reg false c95_11) (.cond (.t 19) (.seq (.reg false c95_12) .ret) .skip)) (.seq (.reg false c95_13) .ret))))))))
def lf95 : LFunc := ⟨2, [.tmp 4], true, lc95⟩
def hi95 : Hints := ⟨[], [none, none, none, none, none, none, none, none, none, none, none, none, none, none, none, none, none, none, none, none, none, none, none, none, none], []⟩
theorem lf95_ok : compF Try.prog hi95 true Try.f95 = some lf95 := by kernel_rfl

/-! additive/additiveref34.ahead -/
def c96_0 : List LOper := [⟨some 2, .box (.t 0), none⟩, ⟨some 4, .alloc [.int .i64 0, .int .i64 0], none⟩]
def c96_1 : List LOper := [⟨some 5, .mov (.t 1), none⟩]
def c96_2 : List LOper := [⟨some 7, .ibin .eql (.t 5) (.c (.int .i64 0)), none⟩, ⟨some 6, .mov (.t 7), none⟩]
def c96_3 : List LOper := [⟨some 8, .faddr 0 (.t 2), none⟩, ⟨some 9, .load false 1 (.t 8), none⟩, ⟨some 10, .ibin .add (.t 9) (.c (.int .i64 1)), none⟩, ⟨some 11, .faddr 1 (.t 2), none⟩, ⟨some 12, .load false 1 (.t 11), none⟩, ⟨some 13, .build [.int .i64 0, .int .i64 0] [(0, 1, (.t 10)), (1, 1, (.t 12))], none⟩, ⟨none, .store 2 (.t 4) (.t 13), none⟩]
def c96_4 : List LOper := [⟨some 15, .ibin .eql (.t 5) (.c (.int .i64 1)), none⟩, ⟨some 14, .mov (.t 15), none⟩]
def c96_5 : List LOper := [⟨some 16, .faddr 0 (.t 2), none⟩, ⟨some 17, .load false 1 (.t 16), none⟩, ⟨some 18, .ibin .sub (.t 17) (.c (.int .i64 1)), none⟩, ⟨some 19, .faddr 1 (.t 2), none⟩, ⟨some 20, .load false 1 (.t 19), none⟩, ⟨some 21, .build [.int .i64 0, .int .i64 0] [(0, 1, (.t 18)), (1, 1, (.t 20))], none⟩, ⟨none, .store 2 (.t 4) (.t 21), none⟩]
def c96_6 : List LOper := [⟨some 23, .ibin .eql (.t 5) (.c (.int .i64 2)), none⟩, ⟨some 22, .mov (.t 23), none⟩]
def c96_7 : List LOper := [⟨some 24, .faddr 0 (.t 2), none⟩, ⟨some 25, .load false 1 (.t 24), none⟩, ⟨some 26, .faddr 1 (.t 2), none⟩, ⟨some 27, .load false 1 (.t 26), none⟩, ⟨some 28, .ibin .add (.t 27) (.c (.int .i64 1)), none⟩, ⟨some 29, .build [.int .i64 0, .int .i64 0] [(0, 1, (.t 25)), (1, 1, (.t 28))], none⟩, ⟨none, .store 2 (.t 4) (.t 29), none⟩]
def c96_8 : List LOper := [⟨some 30, .faddr 0 (.t 2), none⟩, ⟨some 31, .load false 1 (.t 30), none⟩, ⟨some 32, .faddr 1 (.t 2), none⟩, ⟨some 33, .load false 1 (.t 32), none⟩, ⟨some 34, .ibin .sub (.t 33) (.c (.int .i64 1)), none⟩, ⟨some 35, .build [.int .i64 0, .int .i64 0] [(0, 1, (.t 31)), (1, 1, (.t 34))], none⟩, ⟨none, .store 2 (.t 4) (.t 35), none⟩]
def lc96 : LC := (.seq (.reg false c96_0) (.seq (.seq (.reg false c96_1) (.blk 0 (.seq (.reg false c96_2) (.cond (.t 6) (.seq (.reg false c96_3) .ret) (.seq (.reg false c96_4) (.cond (.t 14) (.seq (.reg false c96_5) .ret) (.seq (.reg false c96_6) (.cond (.t 22) (.seq (.reg false c96_7) .ret) .skip)))))))) (.seq (.reg false c96_8) .ret)))
def lf96 : LFunc := ⟨2, [.cell 4 true 2], true, lc96⟩
def hi96 : Hints := ⟨[], [none, none, none, none, none, none, none, none, none, none, none, none, none, none], []⟩
theorem lf96_ok : compF Try.prog hi96 true Try.f96 = some lf96 := by kernel_rfl

/-! additive/runs.fits -/
def c112_0 : List LOper := [⟨some 1, .box (.t 0), none⟩, ⟨some 2, .mov (.c (.bool false)), none⟩]
def c112_1 : List LOper := [⟨some 3, .faddr 0 (.t 1), none⟩, ⟨some 4, .load false 1 (.t 3), none⟩, ⟨some 5, .ibin .geq (.t 4) (.c (.int .i64 (-1048576))), none⟩, ⟨some 6, .mov (.t 5), none⟩, ⟨some 7, .faddr 0 (.t 1), some (6, true)⟩, ⟨some 8, .load false 1 (.t 7), some (6, true)⟩, ⟨some 9, .ibin .leq (.t 8) (.c (.int .i64 1048576)), some (6, true)⟩, ⟨some 10, .pick (.t 6) (.t 9) (.c (.bool false)), none⟩, ⟨some 11, .mov (.t 10), none⟩, ⟨some 12, .faddr 1 (.t 1), some (11, true)⟩, ⟨some 13, .load false 1 (.t 12), some (11, true)⟩, ⟨some 14, .ibin .geq (.t 13) (.c (.int .i64 (-1048576))), some (11, true)⟩, ⟨some 15, .pick (.t 11) (.t 14) (.c (.bool false)), none⟩, ⟨some 16, .mov (.t 15), none⟩, ⟨some 17, .faddr 1 (.t 1), some (16, true)⟩, ⟨some 18, .load false 1 (.t 17), some (16, true)⟩, ⟨some 19, .ibin .leq (.t 18) (.c (.int .i64 1048576)), some (16, true)⟩, ⟨some 20, .pick (.t 16) (.t 19) (.c (.bool false)), none⟩, ⟨some 2, .mov (.t 20), none⟩]
def lc112 : LC := (.seq (.reg false c112_0) (.seq (.reg false c112_1) .ret))
def lf112 : LFunc := ⟨1, [.tmp 2], true, lc112⟩
def hi112 : Hints := ⟨[], [none, none, none], []⟩
theorem lf112_ok : compF Try.prog hi112 true Try.f112 = some lf112 := by kernel_rfl

/-! slices.IndexFunc[[]additive/api.Run,additive/api.Run] -/
def c113_0 : List LOper := [⟨some 4, .mov (.c (.int .i64 0)), none⟩]
def c113_1 : List LOper := [⟨some 6, .mov (.t 0), none⟩, ⟨some 7, .len (.t 6), none⟩, ⟨some 8, .mov (.c (.int .i64 0)), none⟩]
def c113_2 : List LOper := [⟨some 9, .ibin .lss (.t 8) (.t 7), none⟩]
def c113_3 : List LOper := [⟨some 10, .mov (.t 8), none⟩, ⟨some 5, .mov (.t 10), none⟩]
def c113_4 : List LOper := [⟨some 11, .mov (.t 1), none⟩, ⟨some 12, .mov (.t 0), none⟩, ⟨some 13, .mov (.t 5), none⟩, ⟨some 14, .iaddr 2 (.t 12) (.t 13), none⟩, ⟨some 15, .load true 2 (.t 14), none⟩, ⟨some 16, .callv (.t 11) [(.t 15)], none⟩]
def c113_5 : List LOper := [⟨some 17, .mov (.t 5), none⟩, ⟨some 4, .mov (.t 17), none⟩]
def c113_6 : List LOper := [⟨some 18, .ibin .add (.t 8) (.c (.int .i64 1)), none⟩, ⟨some 8, .mov (.t 18), none⟩]
def c113_L0 : LC := (.seq (.reg false c113_2) (.seq (.cond (.t 9) .skip (.seq (.trim []) (.exit 0))) (.seq (.blk 1 (.seq (.reg false c113_3) (.seq (.reg false c113_4) (.cond (.t 16) (.seq (.reg false c113_5) (.seq (.trim [4]) .ret)) .skip)))) (.reg false c113_6))))
def c113_8 : List LOper := [⟨some 4, .mov (.c (.int .i64 (-1))), none⟩]
def lc113 : LC := (.seq (.reg false c113_0) (.seq (.seq (.reg false c113_1) (.blk 0 (.loop [0, 1, 7, 8] c113_L0))) (.seq (.reg false c113_8) .ret)))
def lf113 : LFunc := ⟨2, [.tmp 4], true, lc113⟩
def hi113 : Hints := ⟨[], [none, none, some [0, 1, 7, 8], none, some [], none, none, none, none, some [4], none, none, none, none], []⟩
theorem lf113_ok : compF Try.prog hi113 true Try.f113 = some lf113 := by kernel_rfl

/-! cmp.isNaN[int] -/
def c114_0 : List LOper := [⟨some 2, .mov (.c (.bool false)), none⟩]
def c114_1 : List LOper := [⟨some 3, .mov (.t 0), none⟩, ⟨some 4, .mov (.t 0), none⟩, ⟨some 5, .ibin .neq (.t 3) (.t 4), none⟩, ⟨some 2, .mov (.t 5), none⟩]
def lc114 : LC := (.seq (.reg false c114_0) (.seq (.reg false c114_1) .ret))
def lf114 : LFunc := ⟨1, [.tmp 2], true, lc114⟩
def hi114 : Hints := ⟨[], [none, none, none], []⟩
theorem lf114_ok : compF Try.prog hi114 true Try.f114 = some lf114 := by kernel_rfl

def env : Env where
  code := fun f => match f with
    | 3 => some lf3
    | 9 => some lf9
    | 10 => some lf10
    | 16 => some lf16
    | 17 => some lf17
    | 18 => some lf18
    | 19 => some lf19
    | 20 => some lf20
    | 21 => some lf21
    | 22 => some lf22
    | 23 => some lf23
    | 25 => some lf25
    | 27 => some lf27
    | 28 => some lf28
    | 29 => some lf29
    | 30 => some lf30
    | 32 => some lf32
    | 33 => some lf33
    | 34 => some lf34
    | 46 => some lf46
    | 47 => some lf47
    | 48 => some lf48
    | 49 => some lf49
    | 50 => some lf50
    | 51 => some lf51
    | 54 => some lf54
    | 55 => some lf55
    | 56 => some lf56
    | 57 => some lf57
    | 58 => some lf58
    | 59 => some lf59
    | 60 => some lf60
    | 61 => some lf61
    | 63 => some lf63
    | 64 => some lf64
    | 65 => some lf65
    | 66 => some lf66
    | 67 => some lf67
    | 68 => some lf68
    | 69 => some lf69
    | 87 => some lf87
    | 88 => some lf88
    | 89 => some lf89
    | 90 => some lf90
    | 91 => some lf91
    | 92 => some lf92
    | 93 => some lf93
    | 94 => some lf94
    | 95 => some lf95
    | 96 => some lf96
    | 112 => some lf112
    | 113 => some lf113
    | 114 => some lf114
    | _ => none
  ext := fun _ _ _ => none
theorem env_ok : EnvOK Try.prog env where
  mixed := by kernel_rfl
  code := fun f lf h => by
    simp only [env] at h
    split at h
    · injection h with h; subst h; exact ⟨Try.f3, hi3, Try.func3, lf3_ok⟩
    · injection h with h; subst h; exact ⟨Try.f9, hi9, Try.func9, lf9_ok⟩
    · injection h with h; subst h; exact ⟨Try.f10, hi10, Try.func10, lf10_ok⟩
    · injection h with h; subst h; exact ⟨Try.f16, hi16, Try.func16, lf16_ok⟩
    · injection h with h; subst h; exact ⟨Try.f17, hi17, Try.func17, lf17_ok⟩
    · injection h with h; subst h; exact ⟨Try.f18, hi18, Try.func18, lf18_ok⟩
    · injection h with h; subst h; exact ⟨Try.f19, hi19, Try.func19, lf19_ok⟩
    · injection h with h; subst h; exact ⟨Try.f20, hi20, Try.func20, lf20_ok⟩
    · injection h with h; subst h; exact ⟨Try.f21, hi21, Try.func21, lf21_ok⟩
    · injection h with h; subst h; exact ⟨Try.f22, hi22, Try.func22, lf22_ok⟩
    · injection h with h; subst h; exact ⟨Try.f23, hi23, Try.func23, lf23_ok⟩
    · injection h with h; subst h; exact ⟨Try.f25, hi25, Try.func25, lf25_ok⟩
    · injection h with h; subst h; exact ⟨Try.f27, hi27, Try.func27, lf27_ok⟩
    · injection h with h; subst h; exact ⟨Try.f28, hi28, Try.func28, lf28_ok⟩
    · injection h with h; subst h; exact ⟨Try.f29, hi29, Try.func29, lf29_ok⟩
    · injection h with h; subst h; exact ⟨Try.f30, hi30, Try.func30, lf30_ok⟩
    · injection h with h; subst h; exact ⟨Try.f32, hi32, Try.func32, lf32_ok⟩
    · injection h with h; subst h; exact ⟨Try.f33, hi33, Try.func33, lf33_ok⟩
    · injection h with h; subst h; exact ⟨Try.f34, hi34, Try.func34, lf34_ok⟩
    · injection h with h; subst h; exact ⟨Try.f46, hi46, Try.func46, lf46_ok⟩
    · injection h with h; subst h; exact ⟨Try.f47, hi47, Try.func47, lf47_ok⟩
    · injection h with h; subst h; exact ⟨Try.f48, hi48, Try.func48, lf48_ok⟩
    · injection h with h; subst h; exact ⟨Try.f49, hi49, Try.func49, lf49_ok⟩
    · injection h with h; subst h; exact ⟨Try.f50, hi50, Try.func50, lf50_ok⟩
    · injection h with h; subst h; exact ⟨Try.f51, hi51, Try.func51, lf51_ok⟩
    · injection h with h; subst h; exact ⟨Try.f54, hi54, Try.func54, lf54_ok⟩
    · injection h with h; subst h; exact ⟨Try.f55, hi55, Try.func55, lf55_ok⟩
    · injection h with h; subst h; exact ⟨Try.f56, hi56, Try.func56, lf56_ok⟩
    · injection h with h; subst h; exact ⟨Try.f57, hi57, Try.func57, lf57_ok⟩
    · injection h with h; subst h; exact ⟨Try.f58, hi58, Try.func58, lf58_ok⟩
    · injection h with h; subst h; exact ⟨Try.f59, hi59, Try.func59, lf59_ok⟩
    · injection h with h; subst h; exact ⟨Try.f60, hi60, Try.func60, lf60_ok⟩
    · injection h with h; subst h; exact ⟨Try.f61, hi61, Try.func61, lf61_ok⟩
    · injection h with h; subst h; exact ⟨Try.f63, hi63, Try.func63, lf63_ok⟩
    · injection h with h; subst h; exact ⟨Try.f64, hi64, Try.func64, lf64_ok⟩
    · injection h with h; subst h; exact ⟨Try.f65, hi65, Try.func65, lf65_ok⟩
    · injection h with h; subst h; exact ⟨Try.f66, hi66, Try.func66, lf66_ok⟩
    · injection h with h; subst h; exact ⟨Try.f67, hi67, Try.func67, lf67_ok⟩
    · injection h with h; subst h; exact ⟨Try.f68, hi68, Try.func68, lf68_ok⟩
    · injection h with h; subst h; exact ⟨Try.f69, hi69, Try.func69, lf69_ok⟩
    · injection h with h; subst h; exact ⟨Try.f87, hi87, Try.func87, lf87_ok⟩
    · injection h with h; subst h; exact ⟨Try.f88, hi88, Try.func88, lf88_ok⟩
    · injection h with h; subst h; exact ⟨Try.f89, hi89, Try.func89, lf89_ok⟩
    · injection h with h; subst h; exact ⟨Try.f90, hi90, Try.func90, lf90_ok⟩
    · injection h with h; subst h; exact ⟨Try.f91, hi91, Try.func91, lf91_ok⟩
    · injection h with h; subst h; exact ⟨Try.f92, hi92, Try.func92, lf92_ok⟩
    · injection h with h; subst h; exact ⟨Try.f93, hi93, Try.func93, lf93_ok⟩
    · injection h with h; subst h; exact ⟨Try.f94, hi94, Try.func94, lf94_ok⟩
    · injection h with h; subst h; exact ⟨Try.f95, hi95, Try.func95, lf95_ok⟩
    · injection h with h; subst h; exact ⟨Try.f96, hi96, Try.func96, lf96_ok⟩
    · injection h with h; subst h; exact ⟨Try.f112, hi112, Try.func112, lf112_ok⟩
    · injection h with h; subst h; exact ⟨Try.f113, hi113, Try.func113, lf113_ok⟩
    · injection h with h; subst h; exact ⟨Try.f114, hi114, Try.func114, lf114_ok⟩
    · cases h
  ext := ⟨fun _ _ _ _ h => (by cases h), fun _ _ _ _ h => (by cases h), fun _ _ _ _ _ _ h => (by cases h)⟩
end Go.Proofs.Ytchiiiahgmfofaa
