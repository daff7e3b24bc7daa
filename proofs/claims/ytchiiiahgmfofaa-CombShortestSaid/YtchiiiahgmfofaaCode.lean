/- The code of the functions of this seat, as the evaluator has it; by program (gen.py). Each is the compilation of the loaded function. -/
import Derived.Test.YtchiiiahgmfofaaVn
import Derived.Test.YtchiiiahgmfofaaProg
import Derived.KernelRfl
namespace Go.Proofs.Ytchiiiahgmfofaa
open Go Go.Vv Go.Proofs
set_option maxRecDepth 100000

/-! additive/additivelaw34.CombPaths -/
def c3_0 : List LOper := [⟨some 3, .box (.t 0), none⟩, ⟨some 4, .box (.t 1), none⟩, ⟨some 5, .box (.t 2), none⟩, ⟨some 6, .mov (.c (.bool false)), none⟩]
def c3_1 : List LOper := [⟨some 11, .load true 1 (.t 3), none⟩, ⟨some 12, .callp 16 [(.t 11)], none⟩, ⟨some 13, .un .not (.t 12), none⟩]
def c3_2 : List LOper := [⟨some 14, .callp 17 [], none⟩, ⟨some 6, .mov (.t 14), none⟩]
def c3_3 : List LOper := [⟨some 16, .load true 1 (.t 3), none⟩, ⟨some 17, .load true 2 (.t 4), none⟩, ⟨some 18, .load true 2 (.t 5), none⟩, ⟨some 19, .callp 18 [(.t 16), (.t 17), (.t 18)], none⟩, ⟨some 15, .mov (.t 19), none⟩, ⟨some 20, .ext (.t 15) 0, none⟩, ⟨some 21, .ext (.t 15) 1, none⟩, ⟨some 7, .mov (.t 20), none⟩, ⟨some 8, .mov (.t 21), none⟩]
def c3_4 : List LOper := [⟨some 23, .load true 1 (.t 3), none⟩, ⟨some 24, .load true 2 (.t 4), none⟩, ⟨some 25, .load true 2 (.t 5), none⟩, ⟨some 26, .callp 19 [(.t 23), (.t 24), (.t 25)], none⟩, ⟨some 22, .mov (.t 26), none⟩, ⟨some 27, .ext (.t 22) 0, none⟩, ⟨some 28, .ext (.t 22) 1, none⟩, ⟨some 9, .mov (.t 27), none⟩, ⟨some 10, .mov (.t 28), none⟩]
def c3_5 : List LOper := [⟨some 29, .mov (.t 7), none⟩, ⟨some 30, .mov (.t 9), none⟩, ⟨some 31, .callp 20 [(.t 29), (.t 30)], none⟩, ⟨some 32, .mov (.t 31), none⟩, ⟨some 33, .mov (.t 8), some (32, true)⟩, ⟨some 34, .mov (.t 10), some (32, true)⟩, ⟨some 35, .eqv false false [true] (.t 33) (.t 34), some (32, true)⟩, ⟨some 36, .pick (.t 32) (.t 35) (.c (.bool false)), none⟩, ⟨some 37, .mov (.t 36), none⟩, ⟨some 38, .load true 1 (.t 3), some (37, true)⟩, ⟨some 39, .load true 2 (.t 4), some (37, true)⟩, ⟨some 40, .load true 2 (.t 5), some (37, true)⟩, ⟨some 41, .callp 21 [(.t 38), (.t 39), (.t 40)], some (37, true)⟩, ⟨some 42, .load true 1 (.t 3), some (37, true)⟩, ⟨some 43, .load true 2 (.t 4), some (37, true)⟩, ⟨some 44, .load true 2 (.t 5), some (37, true)⟩, ⟨some 45, .callp 22 [(.t 42), (.t 43), (.t 44)], some (37, true)⟩, ⟨some 46, .ibin .eql (.t 41) (.t 45), some (37, true)⟩, ⟨some 47, .pick (.t 37) (.t 46) (.c (.bool false)), none⟩, ⟨some 48, .mov (.t 47), none⟩, ⟨some 49, .callp 17 [], some (48, true)⟩, ⟨some 50, .pick (.t 48) (.t 49) (.c (.bool false)), none⟩, ⟨some 6, .mov (.t 50), none⟩]
def lc3 : LC := (.seq (.reg false c3_0) (.seq (.seq (.reg false c3_1) (.cond (.t 13) (.seq (.reg false c3_2) .ret) .skip)) (.seq (.reg false c3_3) (.seq (.reg false c3_4) (.seq (.reg true c3_5) .ret)))))
def lf3 : LFunc := ⟨3, [.tmp 6], true, lc3⟩
def hi3 : Hints := ⟨[], [none, none, none, none, none, none, none, none, none], []⟩
theorem lf3_ok : compF Try.prog hi3 true Try.f3 = some lf3 := by kernel_rfl

/-! additive/additivelaw34.CombShortest -/
def c5_0 : List LOper := [⟨some 3, .box (.t 0), none⟩, ⟨some 4, .box (.t 1), none⟩, ⟨some 5, .box (.t 2), none⟩, ⟨some 6, .mov (.c (.bool false)), none⟩]
def c5_1 : List LOper := [⟨some 14, .load true 1 (.t 3), none⟩, ⟨some 15, .callp 16 [(.t 14)], none⟩, ⟨some 16, .un .not (.t 15), none⟩]
def c5_2 : List LOper := [⟨some 17, .callp 17 [], none⟩, ⟨some 6, .mov (.t 17), none⟩]
def c5_3 : List LOper := [⟨some 19, .load true 1 (.t 3), none⟩, ⟨some 20, .load true 2 (.t 4), none⟩, ⟨some 21, .load true 2 (.t 5), none⟩, ⟨some 22, .callp 18 [(.t 19), (.t 20), (.t 21)], none⟩, ⟨some 18, .mov (.t 22), none⟩, ⟨some 23, .ext (.t 18) 0, none⟩, ⟨some 24, .ext (.t 18) 1, none⟩, ⟨some 7, .mov (.t 23), none⟩, ⟨some 8, .mov (.t 24), none⟩]
def c5_4 : List LOper := [⟨some 25, .load true 1 (.t 3), none⟩, ⟨some 26, .callp 25 [(.t 25)], none⟩, ⟨some 9, .mov (.t 26), none⟩]
def c5_5 : List LOper := [⟨some 27, .mov (.t 9), none⟩, ⟨some 28, .load true 2 (.t 4), none⟩, ⟨some 29, .callz 26 [(.t 27), (.t 28)], none⟩, ⟨some 10, .mov (.t 29), none⟩]
def c5_6 : List LOper := [⟨some 11, .mov (.c (.int .i64 (-1))), none⟩]
def c5_7 : List LOper := [⟨some 12, .mov (.c (.int .i64 0)), none⟩]
def c5_8 : List LOper := [⟨some 30, .mov (.t 12), none⟩, ⟨some 31, .mov (.t 9), none⟩, ⟨some 32, .len (.t 31), none⟩, ⟨some 33, .ibin .lss (.t 30) (.t 32), none⟩]
def c5_9 : List LOper := [⟨some 36, .mov (.t 9), none⟩, ⟨some 37, .mov (.t 12), none⟩, ⟨some 38, .iaddr 2 (.t 36) (.t 37), none⟩, ⟨some 39, .load true 2 (.t 38), none⟩, ⟨some 40, .load true 2 (.t 5), none⟩, ⟨some 41, .eqv false true [false, false] (.t 39) (.t 40), none⟩]
def c5_10 : List LOper := [⟨some 42, .mov (.t 10), none⟩, ⟨some 43, .mov (.t 12), none⟩, ⟨some 44, .iaddr 1 (.t 42) (.t 43), none⟩, ⟨some 45, .load false 1 (.t 44), none⟩, ⟨some 11, .mov (.t 45), none⟩]
def c5_11 : List LOper := [⟨some 34, .mov (.t 12), none⟩, ⟨some 35, .ibin .add (.t 34) (.c (.int .i64 1)), none⟩, ⟨some 12, .mov (.t 35), none⟩]
def c5_L0 : LC := (.seq (.seq (.reg false c5_8) (.cond (.t 33) .skip (.seq (.trim [3, 4, 5, 7, 8, 11]) (.exit 0)))) (.seq (.blk 1 (.seq (.reg true c5_9) (.cond (.t 41) (.reg false c5_10) .skip))) (.reg false c5_11)))
def c5_13 : List LOper := [⟨some 46, .mov (.t 8), none⟩, ⟨some 47, .un .not (.t 46), none⟩]
def c5_14 : List LOper := [⟨some 48, .mov (.t 11), none⟩, ⟨some 49, .ibin .lss (.t 48) (.c (.int .i64 0)), none⟩, ⟨some 50, .mov (.t 49), none⟩, ⟨some 51, .mov (.t 7), some (50, true)⟩, ⟨some 52, .len (.t 51), some (50, true)⟩, ⟨some 53, .ibin .eql (.t 52) (.c (.int .i64 0)), some (50, true)⟩, ⟨some 54, .pick (.t 50) (.t 53) (.c (.bool false)), none⟩, ⟨some 55, .mov (.t 54), none⟩, ⟨some 56, .callp 17 [], some (55, true)⟩, ⟨some 57, .pick (.t 55) (.t 56) (.c (.bool false)), none⟩, ⟨some 6, .mov (.t 57), none⟩]
def c5_15 : List LOper := [⟨some 58, .mov (.t 7), none⟩, ⟨some 59, .len (.t 58), none⟩, ⟨some 60, .mov (.t 11), none⟩, ⟨some 61, .ibin .add (.t 60) (.c (.int .i64 1)), none⟩, ⟨some 62, .ibin .neq (.t 59) (.t 61), none⟩, ⟨some 63, .mov (.t 62), none⟩, ⟨some 64, .mov (.t 11), some (63, false)⟩, ⟨some 65, .ibin .lss (.t 64) (.c (.int .i64 0)), some (63, false)⟩, ⟨some 66, .pick (.t 63) (.c (.bool true)) (.t 65), none⟩, ⟨some 67, .mov (.t 66), none⟩, ⟨some 68, .mov (.t 7), some (67, false)⟩, ⟨some 69, .iaddr 2 (.t 68) (.c (.int .i64 0)), some (67, false)⟩, ⟨some 70, .load true 2 (.t 69), some (67, false)⟩, ⟨some 71, .load true 2 (.t 4), some (67, false)⟩, ⟨some 72, .eqv true true [false, false] (.t 70) (.t 71), some (67, false)⟩, ⟨some 73, .pick (.t 67) (.c (.bool true)) (.t 72), none⟩, ⟨some 74, .mov (.t 73), none⟩, ⟨some 75, .mov (.t 7), some (74, false)⟩, ⟨some 76, .mov (.t 7), some (74, false)⟩, ⟨some 77, .len (.t 76), some (74, false)⟩, ⟨some 78, .ibin .sub (.t 77) (.c (.int .i64 1)), some (74, false)⟩, ⟨some 79, .iaddr 2 (.t 75) (.t 78), some (74, false)⟩, ⟨some 80, .load true 2 (.t 79), some (74, false)⟩, ⟨some 81, .load true 2 (.t 5), some (74, false)⟩, ⟨some 82, .eqv true true [false, false] (.t 80) (.t 81), some (74, false)⟩, ⟨some 83, .pick (.t 74) (.c (.bool true)) (.t 82), none⟩]
def c5_16 : List LOper := [⟨some 6, .mov (.c (.bool false)), none⟩]
def c5_17 : List LOper := [⟨some 13, .mov (.c (.int .i64 0)), none⟩]
def c5_18 : List LOper := [⟨some 84, .mov (.t 13), none⟩, ⟨some 85, .mov (.t 7), none⟩, ⟨some 86, .len (.t 85), none⟩, ⟨some 87, .ibin .lss (.t 84) (.t 86), none⟩]
def c5_19 : List LOper := [⟨some 90, .load true 1 (.t 3), none⟩, ⟨some 91, .mov (.t 7), none⟩, ⟨some 92, .mov (.t 13), none⟩, ⟨some 93, .iaddr 2 (.t 91) (.t 92), none⟩, ⟨some 94, .load true 2 (.t 93), none⟩, ⟨some 95, .callp 27 [(.t 90), (.t 94)], none⟩, ⟨some 96, .un .not (.t 95), none⟩, ⟨some 97, .mov (.t 96), none⟩, ⟨some 98, .mov (.t 13), some (97, false)⟩, ⟨some 99, .ibin .gtr (.t 98) (.c (.int .i64 0)), some (97, false)⟩, ⟨some 100, .mov (.t 99), some (97, false)⟩, ⟨some 101, .mov (.t 7), some (100, true)⟩, ⟨some 102, .mov (.t 13), some (100, true)⟩, ⟨some 103, .ibin .sub (.t 102) (.c (.int .i64 1)), some (100, true)⟩, ⟨some 104, .iaddr 2 (.t 101) (.t 103), some (100, true)⟩, ⟨some 105, .load true 2 (.t 104), some (100, true)⟩, ⟨some 106, .mov (.t 7), some (100, true)⟩, ⟨some 107, .mov (.t 13), some (100, true)⟩, ⟨some 108, .iaddr 2 (.t 106) (.t 107), some (100, true)⟩, ⟨some 109, .load true 2 (.t 108), some (100, true)⟩, ⟨some 110, .callp 28 [(.t 105), (.t 109)], some (100, true)⟩, ⟨some 111, .un .not (.t 110), some (100, true)⟩, ⟨some 112, .pick (.t 100) (.t 111) (.c (.bool false)), some (97, false)⟩, ⟨some 113, .pick (.t 97) (.c (.bool true)) (.t 112), none⟩]
def c5_20 : List LOper := [⟨some 6, .mov (.c (.bool false)), none⟩]
def c5_21 : List LOper := [⟨some 88, .mov (.t 13), none⟩, ⟨some 89, .ibin .add (.t 88) (.c (.int .i64 1)), none⟩, ⟨some 13, .mov (.t 89), none⟩]
def c5_L1 : LC := (.seq (.seq (.reg false c5_18) (.cond (.t 87) .skip (.seq (.trim []) (.exit 2)))) (.seq (.blk 3 (.seq (.reg true c5_19) (.cond (.t 113) (.seq (.reg false c5_20) (.seq (.trim [6]) .ret)) .skip))) (.reg false c5_21)))
def c5_23 : List LOper := [⟨some 114, .callp 17 [], none⟩, ⟨some 6, .mov (.t 114), none⟩]
def lc5 : LC := (.seq (.reg false c5_0) (.seq (.seq (.reg false c5_1) (.cond (.t 16) (.seq (.reg false c5_2) .ret) .skip)) (.seq (.reg false c5_3) (.seq (.reg false c5_4) (.seq (.reg false c5_5) (.seq (.reg false c5_6) (.seq (.seq (.reg false c5_7) (.blk 0 (.loop [3, 4, 5, 7, 8, 9, 10, 11, 12] c5_L0))) (.seq (.seq (.reg false c5_13) (.cond (.t 47) (.seq (.reg false c5_14) .ret) .skip)) (.seq (.seq (.reg true c5_15) (.cond (.t 83) (.seq (.reg false c5_16) .ret) .skip)) (.seq (.seq (.reg false c5_17) (.blk 2 (.loop [3, 7, 13] c5_L1))) (.seq (.reg false c5_23) .ret)))))))))))
def lf5 : LFunc := ⟨3, [.tmp 6], true, lc5⟩
def hi5 : Hints := ⟨[(29, .z)], [none, none, none, none, none, none, none, none, none, none, some [3, 4, 5, 7, 8, 9, 10, 11, 12], none, some [3, 4, 5, 7, 8, 11], none, none, none, none, none, none, none, none, none, none, none, none, none, some [3, 7, 13], none, some [], none, none, none, some [6], none, none, none, none], []⟩
theorem lf5_ok : compF Try.prog hi5 true Try.f5 = some lf5 := by kernel_rfl

/-! additive/additivelaw34.CombSymmetry -/
def c6_0 : List LOper := [⟨some 3, .box (.t 0), none⟩, ⟨some 4, .box (.t 1), none⟩, ⟨some 5, .box (.t 2), none⟩, ⟨some 6, .mov (.c (.bool false)), none⟩]
def c6_1 : List LOper := [⟨some 8, .load true 1 (.t 3), none⟩, ⟨some 9, .callp 16 [(.t 8)], none⟩, ⟨some 10, .un .not (.t 9), none⟩]
def c6_2 : List LOper := [⟨some 11, .callp 17 [], none⟩, ⟨some 6, .mov (.t 11), none⟩]
def c6_3 : List LOper := [⟨some 12, .load true 1 (.t 3), none⟩, ⟨some 13, .load true 2 (.t 4), none⟩, ⟨some 14, .load true 2 (.t 5), none⟩, ⟨some 15, .callp 21 [(.t 12), (.t 13), (.t 14)], none⟩, ⟨some 7, .mov (.t 15), none⟩]
def c6_4 : List LOper := [⟨some 16, .mov (.t 7), none⟩, ⟨some 17, .load true 1 (.t 3), none⟩, ⟨some 18, .load true 2 (.t 5), none⟩, ⟨some 19, .load true 2 (.t 4), none⟩, ⟨some 20, .callp 21 [(.t 17), (.t 18), (.t 19)], none⟩, ⟨some 21, .ibin .neq (.t 16) (.t 20), none⟩, ⟨some 22, .mov (.t 21), none⟩, ⟨some 23, .load true 1 (.t 3), some (22, false)⟩, ⟨some 24, .load true 2 (.t 4), some (22, false)⟩, ⟨some 25, .callp 29 [(.t 23), (.t 24)], some (22, false)⟩, ⟨some 26, .mov (.t 25), some (22, false)⟩, ⟨some 27, .load true 1 (.t 3), some (26, true)⟩, ⟨some 28, .load true 2 (.t 4), some (26, true)⟩, ⟨some 29, .load true 2 (.t 4), some (26, true)⟩, ⟨some 30, .callp 21 [(.t 27), (.t 28), (.t 29)], some (26, true)⟩, ⟨some 31, .ibin .neq (.t 30) (.c (.int .i64 0)), some (26, true)⟩, ⟨some 32, .pick (.t 26) (.t 31) (.c (.bool false)), some (22, false)⟩, ⟨some 33, .pick (.t 22) (.c (.bool true)) (.t 32), none⟩]
def c6_5 : List LOper := [⟨some 6, .mov (.c (.bool false)), none⟩]
def c6_6 : List LOper := [⟨some 34, .mov (.t 7), none⟩, ⟨some 35, .ibin .lss (.t 34) (.c (.int .i64 0)), none⟩, ⟨some 36, .mov (.t 35), none⟩, ⟨some 37, .mov (.t 7), some (36, false)⟩, ⟨some 38, .load true 2 (.t 4), some (36, false)⟩, ⟨some 39, .load true 2 (.t 5), some (36, false)⟩, ⟨some 40, .callp 23 [(.t 38), (.t 39)], some (36, false)⟩, ⟨some 41, .len (.t 40), some (36, false)⟩, ⟨some 42, .ibin .sub (.t 41) (.c (.int .i64 1)), some (36, false)⟩, ⟨some 43, .ibin .geq (.t 37) (.t 42), some (36, false)⟩, ⟨some 44, .pick (.t 36) (.c (.bool true)) (.t 43), none⟩, ⟨some 45, .mov (.t 44), none⟩, ⟨some 46, .callp 17 [], some (45, true)⟩, ⟨some 47, .pick (.t 45) (.t 46) (.c (.bool false)), none⟩, ⟨some 6, .mov (.t 47), none⟩]
def lc6 : LC := (.seq (.reg false c6_0) (.seq (.seq (.reg false c6_1) (.cond (.t 10) (.seq (.reg false c6_2) .ret) .skip)) (.seq (.reg false c6_3) (.seq (.seq (.reg false c6_4) (.cond (.t 33) (.seq (.reg false c6_5) .ret) .skip)) (.seq (.reg false c6_6) .ret)))))
def lf6 : LFunc := ⟨3, [.tmp 6], true, lc6⟩
def hi6 : Hints := ⟨[], [none, none, none, none, none, none, none, none, none, none, none, none], []⟩
theorem lf6_ok : compF Try.prog hi6 true Try.f6 = some lf6 := by kernel_rfl

/-! additive/additivelaw18.Small -/
def c16_0 : List LOper := [⟨some 1, .box (.t 0), none⟩, ⟨some 2, .mov (.c (.bool false)), none⟩]
def c16_1 : List LOper := [⟨some 4, .faddr 0 (.t 1), none⟩, ⟨some 5, .load false 1 (.t 4), none⟩, ⟨some 6, .len (.t 5), none⟩, ⟨some 7, .ibin .gtr (.t 6) (.c (.int .i64 40)), none⟩]
def c16_2 : List LOper := [⟨some 2, .mov (.c (.bool false)), none⟩]
def c16_3 : List LOper := [⟨some 3, .mov (.c (.int .i64 0)), none⟩]
def c16_4 : List LOper := [⟨some 8, .mov (.t 3), none⟩, ⟨some 9, .faddr 0 (.t 1), none⟩, ⟨some 10, .load false 1 (.t 9), none⟩, ⟨some 11, .len (.t 10), none⟩, ⟨some 12, .ibin .lss (.t 8) (.t 11), none⟩]
def c16_5 : List LOper := [⟨some 15, .faddr 0 (.t 1), none⟩, ⟨some 16, .load false 1 (.t 15), none⟩, ⟨some 17, .mov (.t 3), none⟩, ⟨some 18, .iaddr 2 (.t 16) (.t 17), none⟩, ⟨some 19, .faddr 1 (.t 18), none⟩, ⟨some 20, .load false 1 (.t 19), none⟩, ⟨some 21, .len (.t 20), none⟩, ⟨some 22, .ibin .gtr (.t 21) (.c (.int .i64 40)), none⟩]
def c16_6 : List LOper := [⟨some 2, .mov (.c (.bool false)), none⟩]
def c16_7 : List LOper := [⟨some 13, .mov (.t 3), none⟩, ⟨some 14, .ibin .add (.t 13) (.c (.int .i64 1)), none⟩, ⟨some 3, .mov (.t 14), none⟩]
def c16_L0 : LC := (.seq (.seq (.reg false c16_4) (.cond (.t 12) .skip (.seq (.trim [1]) (.exit 0)))) (.seq (.blk 1 (.seq (.reg false c16_5) (.cond (.t 22) (.seq (.reg false c16_6) (.seq (.trim [2]) .ret)) .skip))) (.reg false c16_7)))
def c16_9 : List LOper := [⟨some 23, .load true 1 (.t 1), none⟩, ⟨some 24, .callp 46 [(.t 23)], none⟩, ⟨some 25, .ibin .leq (.t 24) (.c (.int .i64 600)), none⟩, ⟨some 2, .mov (.t 25), none⟩]
def lc16 : LC := (.seq (.reg false c16_0) (.seq (.seq (.reg false c16_1) (.cond (.t 7) (.seq (.reg false c16_2) .ret) .skip)) (.seq (.seq (.reg false c16_3) (.blk 0 (.loop [1, 3] c16_L0))) (.seq (.reg false c16_9) .ret))))
def lf16 : LFunc := ⟨1, [.tmp 2], true, lc16⟩
def hi16 : Hints := ⟨[], [none, none, none, none, none, none, some [1, 3], none, some [1], none, none, none, some [2], none, none, none, none], []⟩
theorem lf16_ok : compF Try.prog hi16 true Try.f16 = some lf16 := by kernel_rfl

/-! additive/additivelaw34.awake -/
def c17_0 : List LOper := [⟨some 0, .mov (.c (.bool false)), none⟩]
def c17_1 : List LOper := [⟨some 5, .callp 47 [], none⟩, ⟨some 6, .build [.int .i64 0, .int .i64 0] [], none⟩, ⟨some 7, .build [.int .i64 0, .int .i64 0] [(0, 1, (.c (.int .i64 1))), (1, 1, (.c (.int .i64 1)))], none⟩, ⟨some 8, .callp 18 [(.t 5), (.t 6), (.t 7)], none⟩, ⟨some 4, .mov (.t 8), none⟩, ⟨some 9, .ext (.t 4) 0, none⟩, ⟨some 10, .ext (.t 4) 1, none⟩, ⟨some 1, .mov (.t 9), none⟩, ⟨some 2, .mov (.t 10), none⟩]
def c17_2 : List LOper := [⟨some 11, .build [.int .i64 0, .int .i64 0] [], none⟩, ⟨some 12, .build [.int .i64 0, .int .i64 0] [(0, 1, (.c (.int .i64 (-1)))), (1, 1, (.c (.int .i64 1)))], none⟩, ⟨some 13, .callp 23 [(.t 11), (.t 12)], none⟩, ⟨some 3, .mov (.t 13), none⟩]
def c17_3 : List LOper := [⟨some 14, .mov (.t 2), none⟩, ⟨some 15, .mov (.t 14), none⟩, ⟨some 16, .mov (.t 1), some (15, true)⟩, ⟨some 17, .len (.t 16), some (15, true)⟩, ⟨some 18, .ibin .eql (.t 17) (.c (.int .i64 3)), some (15, true)⟩, ⟨some 19, .pick (.t 15) (.t 18) (.c (.bool false)), none⟩, ⟨some 20, .mov (.t 19), none⟩, ⟨some 21, .mov (.t 1), some (20, true)⟩, ⟨some 22, .iaddr 2 (.t 21) (.c (.int .i64 1)), some (20, true)⟩, ⟨some 23, .load true 2 (.t 22), some (20, true)⟩, ⟨some 24, .build [.int .i64 0, .int .i64 0] [(0, 1, (.c (.int .i64 1)))], some (20, true)⟩, ⟨some 25, .eqv false true [false, false] (.t 23) (.t 24), some (20, true)⟩, ⟨some 26, .pick (.t 20) (.t 25) (.c (.bool false)), none⟩, ⟨some 27, .mov (.t 26), none⟩, ⟨some 28, .callp 47 [], some (27, true)⟩, ⟨some 29, .build [.int .i64 0, .int .i64 0] [], some (27, true)⟩, ⟨some 30, .build [.int .i64 0, .int .i64 0] [(0, 1, (.c (.int .i64 1))), (1, 1, (.c (.int .i64 1)))], some (27, true)⟩, ⟨some 31, .callp 21 [(.t 28), (.t 29), (.t 30)], some (27, true)⟩, ⟨some 32, .ibin .eql (.t 31) (.c (.int .i64 2)), some (27, true)⟩, ⟨some 33, .pick (.t 27) (.t 32) (.c (.bool false)), none⟩, ⟨some 34, .mov (.t 33), none⟩, ⟨some 35, .mov (.t 3), some (34, true)⟩, ⟨some 36, .len (.t 35), some (34, true)⟩, ⟨some 37, .ibin .eql (.t 36) (.c (.int .i64 3)), some (34, true)⟩, ⟨some 38, .pick (.t 34) (.t 37) (.c (.bool false)), none⟩, ⟨some 39, .mov (.t 38), none⟩, ⟨some 40, .mov (.t 3), some (39, true)⟩, ⟨some 41, .iaddr 2 (.t 40) (.c (.int .i64 1)), some (39, true)⟩, ⟨some 42, .load true 2 (.t 41), some (39, true)⟩, ⟨some 43, .build [.int .i64 0, .int .i64 0] [(0, 1, (.c (.int .i64 (-1))))], some (39, true)⟩, ⟨some 44, .eqv false true [false, false] (.t 42) (.t 43), some (39, true)⟩, ⟨some 45, .pick (.t 39) (.t 44) (.c (.bool false)), none⟩, ⟨some 0, .mov (.t 45), none⟩]
def lc17 : LC := (.seq (.reg false c17_0) (.seq (.reg false c17_1) (.seq (.reg false c17_2) (.seq (.reg false c17_3) .ret))))
def lf17 : LFunc := ⟨0, [.tmp 0], true, lc17⟩
def hi17 : Hints := ⟨[], [none, none, none, none, none], []⟩
theorem lf17_ok : compF Try.prog hi17 true Try.f17 = some lf17 := by kernel_rfl

/-! additive/comb.Path -/
def c18_0 : List LOper := [⟨some 3, .box (.t 0), none⟩, ⟨some 4, .box (.t 1), none⟩, ⟨some 5, .box (.t 2), none⟩, ⟨some 6, .mov (.c (.nils)), none⟩, ⟨some 7, .mov (.c (.bool false)), none⟩]
def c18_1 : List LOper := [⟨some 13, .load true 1 (.t 3), none⟩, ⟨some 14, .load true 2 (.t 4), none⟩, ⟨some 15, .callp 29 [(.t 13), (.t 14)], none⟩, ⟨some 16, .un .not (.t 15), none⟩, ⟨some 17, .mov (.t 16), none⟩, ⟨some 18, .load true 1 (.t 3), some (17, false)⟩, ⟨some 19, .load true 2 (.t 5), some (17, false)⟩, ⟨some 20, .callp 29 [(.t 18), (.t 19)], some (17, false)⟩, ⟨some 21, .un .not (.t 20), some (17, false)⟩, ⟨some 22, .pick (.t 17) (.c (.bool true)) (.t 21), none⟩]
def c18_2 : List LOper := [⟨some 6, .mov (.c (.nils)), none⟩, ⟨some 7, .mov (.c (.bool false)), none⟩]
def c18_3 : List LOper := [⟨some 23, .load true 1 (.t 3), none⟩, ⟨some 24, .load true 2 (.t 4), none⟩, ⟨some 25, .load true 2 (.t 5), none⟩, ⟨some 26, .callz 48 [(.t 23), (.t 24), (.t 25)], none⟩, ⟨some 8, .mov (.t 26), none⟩]
def c18_4 : List LOper := [⟨some 28, .mov (.t 8), none⟩, ⟨some 29, .load true 2 (.t 5), none⟩, ⟨some 30, .look true true [false, false] (.agg [.int .i64 0, .int .i64 0]) (.t 28) (.t 29), none⟩, ⟨some 27, .mov (.t 30), none⟩, ⟨some 31, .ext (.t 27) 0, none⟩, ⟨some 32, .ext (.t 27) 1, none⟩, ⟨some 9, .alloc [.int .i64 0, .int .i64 0], none⟩, ⟨none, .store 2 (.t 9) (.t 31), none⟩, ⟨some 10, .mov (.t 32), none⟩]
def c18_5 : List LOper := [⟨some 33, .mov (.t 10), none⟩, ⟨some 34, .un .not (.t 33), none⟩]
def c18_6 : List LOper := [⟨some 6, .mov (.c (.nils)), none⟩, ⟨some 7, .mov (.c (.bool false)), none⟩]
def c18_7 : List LOper := [⟨some 35, .load true 2 (.t 5), none⟩, ⟨some 36, .bslice 1 2 26 [.int .i64 0, .int .i64 0] [(0, 2, (.t 35))], none⟩, ⟨some 11, .mov (.t 36), none⟩]
def c18_8 : List LOper := [⟨some 37, .load true 2 (.t 5), none⟩, ⟨some 12, .alloc [.int .i64 0, .int .i64 0], none⟩, ⟨none, .store 2 (.t 12) (.t 37), none⟩]
def c18_9 : List LOper := [⟨some 38, .load true 2 (.t 12), none⟩, ⟨some 39, .load true 2 (.t 4), none⟩, ⟨some 40, .eqv true true [false, false] (.t 38) (.t 39), none⟩]
def c18_10 : List LOper := [⟨some 41, .mov (.t 8), none⟩, ⟨some 42, .load true 2 (.t 12), none⟩, ⟨some 43, .look false true [false, false] (.agg [.int .i64 0, .int .i64 0]) (.t 41) (.t 42), none⟩, ⟨none, .store 2 (.t 12) (.t 43), none⟩]
def c18_11 : List LOper := [⟨some 44, .mov (.t 11), none⟩, ⟨some 45, .load true 2 (.t 12), none⟩, ⟨some 46, .bslice 1 2 26 [.int .i64 0, .int .i64 0] [(0, 2, (.t 45))], none⟩, ⟨some 47, .app 2 16 26 [.int .i64 0, .int .i64 0] (.t 44) (.t 46), none⟩, ⟨some 11, .mov (.t 47), none⟩]
def c18_12 : List LOper := [⟨some 48, .load true 2 (.t 12), none⟩]
def c18_13 : List LOper := [⟨some 12, .alloc [.int .i64 0, .int .i64 0], none⟩, ⟨none, .store 2 (.t 12) (.t 48), none⟩]
def c18_L0 : LC := (.seq (.seq (.reg false c18_9) (.cond (.t 40) .skip (.seq (.trim [11]) (.exit 0)))) (.seq (.blk 1 (.seq (.reg false c18_10) (.reg false c18_11))) (.seq (.reg false c18_12) (.reg false c18_13))))
def c18_15 : List LOper := [⟨some 49, .mov (.t 11), none⟩, ⟨some 50, .callr 49 [(.t 49)], none⟩]
def c18_16 : List LOper := [⟨some 51, .mov (.t 11), none⟩, ⟨some 6, .mov (.t 51), none⟩, ⟨some 7, .mov (.c (.bool true)), none⟩]
def lc18 : LC := (.seq (.reg false c18_0) (.seq (.seq (.reg false c18_1) (.cond (.t 22) (.seq (.reg false c18_2) .ret) .skip)) (.seq (.reg false c18_3) (.seq (.seq (.reg false c18_4) (.seq (.reg false c18_5) (.cond (.t 34) (.seq (.reg false c18_6) .ret) .skip))) (.seq (.reg false c18_7) (.seq (.seq (.reg false c18_8) (.blk 0 (.loop [4, 8, 11, 12] c18_L0))) (.seq (.reg false c18_15) (.seq (.reg false c18_16) .ret))))))))
def lf18 : LFunc := ⟨3, [.tmp 6, .tmp 7], true, lc18⟩
def hi18 : Hints := ⟨[(26, .z), (50, .r)], [none, none, none, none, none, none, none, none, none, none, none, none, none, some [4, 8, 11, 12], none, some [11], none, none, none, none, none, none, none, none], []⟩
theorem lf18_ok : compF Try.prog hi18 true Try.f18 = some lf18 := by kernel_rfl

/-! additive/additiveref34.Path -/
def c19_0 : List LOper := [⟨some 3, .box (.t 0), none⟩, ⟨some 4, .box (.t 1), none⟩, ⟨some 5, .box (.t 2), none⟩, ⟨some 6, .mov (.c (.nils)), none⟩, ⟨some 7, .mov (.c (.bool false)), none⟩]
def c19_1 : List LOper := [⟨some 13, .load true 1 (.t 3), none⟩, ⟨some 14, .load true 2 (.t 4), none⟩, ⟨some 15, .callp 27 [(.t 13), (.t 14)], none⟩, ⟨some 16, .un .not (.t 15), none⟩, ⟨some 17, .mov (.t 16), none⟩, ⟨some 18, .load true 1 (.t 3), some (17, false)⟩, ⟨some 19, .load true 2 (.t 5), some (17, false)⟩, ⟨some 20, .callp 27 [(.t 18), (.t 19)], some (17, false)⟩, ⟨some 21, .un .not (.t 20), some (17, false)⟩, ⟨some 22, .pick (.t 17) (.c (.bool true)) (.t 21), none⟩]
def c19_2 : List LOper := [⟨some 6, .mov (.c (.nils)), none⟩, ⟨some 7, .mov (.c (.bool false)), none⟩]
def c19_3 : List LOper := [⟨some 23, .load true 1 (.t 3), none⟩, ⟨some 24, .load true 2 (.t 4), none⟩, ⟨some 25, .load true 2 (.t 5), none⟩, ⟨some 26, .callz 50 [(.t 23), (.t 24), (.t 25)], none⟩, ⟨some 8, .mov (.t 26), none⟩]
def c19_4 : List LOper := [⟨some 27, .mov (.t 8), none⟩, ⟨some 28, .mov (.t 8), none⟩, ⟨some 29, .len (.t 28), none⟩, ⟨some 30, .ibin .sub (.t 29) (.c (.int .i64 1)), none⟩, ⟨some 31, .iaddr 3 (.t 27) (.t 30), none⟩, ⟨some 32, .faddr 0 (.t 31), none⟩, ⟨some 33, .load true 2 (.t 32), none⟩, ⟨some 34, .load true 2 (.t 5), none⟩, ⟨some 35, .eqv true true [false, false] (.t 33) (.t 34), none⟩]
def c19_5 : List LOper := [⟨some 6, .mov (.c (.nils)), none⟩, ⟨some 7, .mov (.c (.bool false)), none⟩]
def c19_6 : List LOper := [⟨some 9, .mov (.c (.nils)), none⟩]
def c19_7 : List LOper := [⟨some 36, .mov (.t 8), none⟩, ⟨some 37, .len (.t 36), none⟩, ⟨some 38, .ibin .sub (.t 37) (.c (.int .i64 1)), none⟩, ⟨some 10, .mov (.t 38), none⟩]
def c19_8 : List LOper := [⟨some 39, .mov (.t 10), none⟩, ⟨some 40, .ibin .geq (.t 39) (.c (.int .i64 0)), none⟩]
def c19_9 : List LOper := [⟨some 46, .mov (.t 9), none⟩, ⟨some 47, .mov (.t 8), none⟩, ⟨some 48, .mov (.t 10), none⟩, ⟨some 49, .iaddr 3 (.t 47) (.t 48), none⟩, ⟨some 50, .faddr 0 (.t 49), none⟩, ⟨some 51, .load true 2 (.t 50), none⟩, ⟨some 52, .bslice 1 2 26 [.int .i64 0, .int .i64 0] [(0, 2, (.t 51))], none⟩, ⟨some 53, .app 2 16 26 [.int .i64 0, .int .i64 0] (.t 46) (.t 52), none⟩, ⟨some 9, .mov (.t 53), none⟩]
def c19_10 : List LOper := [⟨some 41, .mov (.t 8), none⟩, ⟨some 42, .mov (.t 10), none⟩, ⟨some 43, .iaddr 3 (.t 41) (.t 42), none⟩, ⟨some 44, .faddr 2 (.t 43), none⟩, ⟨some 45, .load false 1 (.t 44), none⟩, ⟨some 10, .mov (.t 45), none⟩]
def c19_L0 : LC := (.seq (.seq (.reg false c19_8) (.cond (.t 40) .skip (.seq (.trim [9]) (.exit 0)))) (.seq (.blk 1 (.reg false c19_9)) (.reg false c19_10)))
def c19_12 : List LOper := [⟨some 11, .mov (.c (.nils)), none⟩]
def c19_13 : List LOper := [⟨some 54, .mov (.t 9), none⟩, ⟨some 55, .len (.t 54), none⟩, ⟨some 56, .ibin .sub (.t 55) (.c (.int .i64 1)), none⟩, ⟨some 12, .mov (.t 56), none⟩]
def c19_14 : List LOper := [⟨some 57, .mov (.t 12), none⟩, ⟨some 58, .ibin .geq (.t 57) (.c (.int .i64 0)), none⟩]
def c19_15 : List LOper := [⟨some 61, .mov (.t 11), none⟩, ⟨some 62, .mov (.t 9), none⟩, ⟨some 63, .mov (.t 12), none⟩, ⟨some 64, .iaddr 2 (.t 62) (.t 63), none⟩, ⟨some 65, .load true 2 (.t 64), none⟩, ⟨some 66, .bslice 1 2 26 [.int .i64 0, .int .i64 0] [(0, 2, (.t 65))], none⟩, ⟨some 67, .app 2 16 26 [.int .i64 0, .int .i64 0] (.t 61) (.t 66), none⟩, ⟨some 11, .mov (.t 67), none⟩]
def c19_16 : List LOper := [⟨some 59, .mov (.t 12), none⟩, ⟨some 60, .ibin .sub (.t 59) (.c (.int .i64 1)), none⟩, ⟨some 12, .mov (.t 60), none⟩]
def c19_L1 : LC := (.seq (.seq (.reg false c19_14) (.cond (.t 58) .skip (.seq (.trim [11]) (.exit 2)))) (.seq (.blk 3 (.reg false c19_15)) (.reg false c19_16)))
def c19_18 : List LOper := [⟨some 68, .mov (.t 11), none⟩, ⟨some 6, .mov (.t 68), none⟩, ⟨some 7, .mov (.c (.bool true)), none⟩]
def lc19 : LC := (.seq (.reg false c19_0) (.seq (.seq (.reg false c19_1) (.cond (.t 22) (.seq (.reg false c19_2) .ret) .skip)) (.seq (.reg false c19_3) (.seq (.seq (.reg true c19_4) (.cond (.t 35) (.seq (.reg false c19_5) .ret) .skip)) (.seq (.reg false c19_6) (.seq (.seq (.reg false c19_7) (.blk 0 (.loop [8, 9, 10] c19_L0))) (.seq (.reg false c19_12) (.seq (.seq (.reg false c19_13) (.blk 2 (.loop [9, 11, 12] c19_L1))) (.seq (.reg false c19_18) .ret)))))))))
def lf19 : LFunc := ⟨3, [.tmp 6, .tmp 7], true, lc19⟩
def hi19 : Hints := ⟨[(26, .z)], [none, none, none, none, none, none, none, none, none, none, none, none, some [8, 9, 10], none, some [9], none, none, none, none, none, some [9, 11, 12], none, some [11], none, none, none, none, none], []⟩
theorem lf19_ok : compF Try.prog hi19 true Try.f19 = some lf19 := by kernel_rfl

/-! additive/additivelaw34.cells -/
def c20_0 : List LOper := [⟨some 4, .mov (.c (.bool false)), none⟩]
def c20_1 : List LOper := [⟨some 6, .mov (.t 0), none⟩, ⟨some 7, .len (.t 6), none⟩, ⟨some 8, .mov (.t 1), none⟩, ⟨some 9, .len (.t 8), none⟩, ⟨some 10, .ibin .neq (.t 7) (.t 9), none⟩]
def c20_2 : List LOper := [⟨some 4, .mov (.c (.bool false)), none⟩]
def c20_3 : List LOper := [⟨some 5, .mov (.c (.int .i64 0)), none⟩]
def c20_4 : List LOper := [⟨some 11, .mov (.t 5), none⟩, ⟨some 12, .mov (.t 0), none⟩, ⟨some 13, .len (.t 12), none⟩, ⟨some 14, .ibin .lss (.t 11) (.t 13), none⟩]
def c20_5 : List LOper := [⟨some 17, .mov (.t 0), none⟩, ⟨some 18, .mov (.t 5), none⟩, ⟨some 19, .iaddr 2 (.t 17) (.t 18), none⟩, ⟨some 20, .load true 2 (.t 19), none⟩, ⟨some 21, .mov (.t 1), none⟩, ⟨some 22, .mov (.t 5), none⟩, ⟨some 23, .iaddr 2 (.t 21) (.t 22), none⟩, ⟨some 24, .load true 2 (.t 23), none⟩, ⟨some 25, .eqv true true [false, false] (.t 20) (.t 24), none⟩]
def c20_6 : List LOper := [⟨some 4, .mov (.c (.bool false)), none⟩]
def c20_7 : List LOper := [⟨some 15, .mov (.t 5), none⟩, ⟨some 16, .ibin .add (.t 15) (.c (.int .i64 1)), none⟩, ⟨some 5, .mov (.t 16), none⟩]
def c20_L0 : LC := (.seq (.seq (.reg false c20_4) (.cond (.t 14) .skip (.seq (.trim []) (.exit 0)))) (.seq (.blk 1 (.seq (.reg true c20_5) (.cond (.t 25) (.seq (.reg false c20_6) (.seq (.trim [4]) .ret)) .skip))) (.reg false c20_7)))
def c20_9 : List LOper := [⟨some 4, .mov (.c (.bool true)), none⟩]
def lc20 : LC := (.seq (.reg false c20_0) (.seq (.seq (.reg false c20_1) (.cond (.t 10) (.seq (.reg false c20_2) .ret) .skip)) (.seq (.seq (.reg false c20_3) (.blk 0 (.loop [0, 1, 5] c20_L0))) (.seq (.reg false c20_9) .ret))))
def lf20 : LFunc := ⟨2, [.tmp 4], true, lc20⟩
def hi20 : Hints := ⟨[], [none, none, none, none, none, none, some [0, 1, 5], none, some [], none, none, none, some [4], none, none, none, none], []⟩
theorem lf20_ok : compF Try.prog hi20 true Try.f20 = some lf20 := by kernel_rfl

/-! additive/comb.Distance -/
def c21_0 : List LOper := [⟨some 3, .box (.t 0), none⟩, ⟨some 4, .box (.t 1), none⟩, ⟨some 5, .box (.t 2), none⟩, ⟨some 6, .mov (.c (.int .i64 0)), none⟩]
def c21_1 : List LOper := [⟨some 10, .load true 1 (.t 3), none⟩, ⟨some 11, .load true 2 (.t 4), none⟩, ⟨some 12, .load true 2 (.t 5), none⟩, ⟨some 13, .callp 18 [(.t 10), (.t 11), (.t 12)], none⟩, ⟨some 9, .mov (.t 13), none⟩, ⟨some 14, .ext (.t 9) 0, none⟩, ⟨some 15, .ext (.t 9) 1, none⟩, ⟨some 7, .mov (.t 14), none⟩, ⟨some 8, .mov (.t 15), none⟩]
def c21_2 : List LOper := [⟨some 16, .mov (.t 8), none⟩, ⟨some 17, .un .not (.t 16), none⟩]
def c21_3 : List LOper := [⟨some 6, .mov (.c (.int .i64 (-1))), none⟩]
def c21_4 : List LOper := [⟨some 18, .mov (.t 7), none⟩, ⟨some 19, .len (.t 18), none⟩, ⟨some 20, .ibin .sub (.t 19) (.c (.int .i64 1)), none⟩, ⟨some 6, .mov (.t 20), none⟩]
def lc21 : LC := (.seq (.reg false c21_0) (.seq (.reg false c21_1) (.seq (.seq (.reg false c21_2) (.cond (.t 17) (.seq (.reg false c21_3) .ret) .skip)) (.seq (.reg false c21_4) .ret))))
def lf21 : LFunc := ⟨3, [.tmp 6], true, lc21⟩
def hi21 : Hints := ⟨[], [none, none, none, none, none, none, none, none], []⟩
theorem lf21_ok : compF Try.prog hi21 true Try.f21 = some lf21 := by kernel_rfl

/-! additive/additiveref34.Distance -/
def c22_0 : List LOper := [⟨some 3, .box (.t 0), none⟩, ⟨some 4, .box (.t 1), none⟩, ⟨some 5, .box (.t 2), none⟩, ⟨some 6, .mov (.c (.int .i64 0)), none⟩]
def c22_1 : List LOper := [⟨some 10, .load true 1 (.t 3), none⟩, ⟨some 11, .load true 2 (.t 4), none⟩, ⟨some 12, .load true 2 (.t 5), none⟩, ⟨some 13, .callp 19 [(.t 10), (.t 11), (.t 12)], none⟩, ⟨some 9, .mov (.t 13), none⟩, ⟨some 14, .ext (.t 9) 0, none⟩, ⟨some 15, .ext (.t 9) 1, none⟩, ⟨some 7, .mov (.t 14), none⟩, ⟨some 8, .mov (.t 15), none⟩]
def c22_2 : List LOper := [⟨some 16, .mov (.t 8), none⟩, ⟨some 17, .un .not (.t 16), none⟩]
def c22_3 : List LOper := [⟨some 6, .mov (.c (.int .i64 (-1))), none⟩]
def c22_4 : List LOper := [⟨some 18, .mov (.t 7), none⟩, ⟨some 19, .len (.t 18), none⟩, ⟨some 20, .ibin .sub (.t 19) (.c (.int .i64 1)), none⟩, ⟨some 6, .mov (.t 20), none⟩]
def lc22 : LC := (.seq (.reg false c22_0) (.seq (.reg false c22_1) (.seq (.seq (.reg false c22_2) (.cond (.t 17) (.seq (.reg false c22_3) .ret) .skip)) (.seq (.reg false c22_4) .ret))))
def lf22 : LFunc := ⟨3, [.tmp 6], true, lc22⟩
def hi22 : Hints := ⟨[], [none, none, none, none, none, none, none, none], []⟩
theorem lf22_ok : compF Try.prog hi22 true Try.f22 = some lf22 := by kernel_rfl

/-! additive/comb.Straight -/
def c23_0 : List LOper := [⟨some 2, .box (.t 0), none⟩, ⟨some 3, .box (.t 1), none⟩, ⟨some 4, .mov (.c (.nils)), none⟩]
def c23_1 : List LOper := [⟨some 6, .load true 2 (.t 2), none⟩, ⟨some 7, .callp 51 [(.t 6)], none⟩, ⟨some 8, .un .not (.t 7), none⟩, ⟨some 9, .mov (.t 8), none⟩, ⟨some 10, .load true 2 (.t 3), some (9, false)⟩, ⟨some 11, .callp 51 [(.t 10)], some (9, false)⟩, ⟨some 12, .un .not (.t 11), some (9, false)⟩, ⟨some 13, .pick (.t 9) (.c (.bool true)) (.t 12), none⟩]
def c23_2 : List LOper := [⟨some 4, .mov (.c (.nils)), none⟩]
def c23_3 : List LOper := [⟨some 14, .load true 2 (.t 2), none⟩, ⟨some 15, .bslice 1 2 26 [.int .i64 0, .int .i64 0] [(0, 2, (.t 14))], none⟩, ⟨some 5, .mov (.t 15), none⟩]
def c23_4 : List LOper := [⟨some 16, .load true 2 (.t 2), none⟩, ⟨some 17, .load true 2 (.t 3), none⟩, ⟨some 18, .eqv true true [false, false] (.t 16) (.t 17), none⟩]
def c23_5 : List LOper := [⟨some 24, .faddr 0 (.t 2), none⟩, ⟨some 25, .load false 1 (.t 24), none⟩, ⟨some 26, .faddr 0 (.t 3), none⟩, ⟨some 27, .load false 1 (.t 26), none⟩, ⟨some 28, .ibin .lss (.t 25) (.t 27), none⟩, ⟨some 23, .mov (.t 28), none⟩]
def c23_6 : List LOper := [⟨some 29, .faddr 0 (.t 2), none⟩, ⟨some 30, .load false 1 (.t 29), none⟩, ⟨some 31, .ibin .add (.t 30) (.c (.int .i64 1)), none⟩, ⟨some 32, .faddr 0 (.t 2), none⟩, ⟨none, .store 1 (.t 32) (.t 31), none⟩]
def c23_7 : List LOper := [⟨some 34, .faddr 0 (.t 2), none⟩, ⟨some 35, .load false 1 (.t 34), none⟩, ⟨some 36, .faddr 0 (.t 3), none⟩, ⟨some 37, .load false 1 (.t 36), none⟩, ⟨some 38, .ibin .gtr (.t 35) (.t 37), none⟩, ⟨some 33, .mov (.t 38), none⟩]
def c23_8 : List LOper := [⟨some 39, .faddr 0 (.t 2), none⟩, ⟨some 40, .load false 1 (.t 39), none⟩, ⟨some 41, .ibin .sub (.t 40) (.c (.int .i64 1)), none⟩, ⟨some 42, .faddr 0 (.t 2), none⟩, ⟨none, .store 1 (.t 42) (.t 41), none⟩]
def c23_9 : List LOper := [⟨some 44, .faddr 1 (.t 2), none⟩, ⟨some 45, .load false 1 (.t 44), none⟩, ⟨some 46, .faddr 1 (.t 3), none⟩, ⟨some 47, .load false 1 (.t 46), none⟩, ⟨some 48, .ibin .lss (.t 45) (.t 47), none⟩, ⟨some 43, .mov (.t 48), none⟩]
def c23_10 : List LOper := [⟨some 49, .faddr 1 (.t 2), none⟩, ⟨some 50, .load false 1 (.t 49), none⟩, ⟨some 51, .ibin .add (.t 50) (.c (.int .i64 1)), none⟩, ⟨some 52, .faddr 1 (.t 2), none⟩, ⟨none, .store 1 (.t 52) (.t 51), none⟩]
def c23_11 : List LOper := [⟨some 19, .faddr 1 (.t 2), none⟩, ⟨some 20, .load false 1 (.t 19), none⟩, ⟨some 21, .ibin .sub (.t 20) (.c (.int .i64 1)), none⟩, ⟨some 22, .faddr 1 (.t 2), none⟩, ⟨none, .store 1 (.t 22) (.t 21), none⟩]
def c23_12 : List LOper := [⟨some 53, .mov (.t 5), none⟩, ⟨some 54, .load true 2 (.t 2), none⟩, ⟨some 55, .bslice 1 2 26 [.int .i64 0, .int .i64 0] [(0, 2, (.t 54))], none⟩, ⟨some 56, .app 2 16 26 [.int .i64 0, .int .i64 0] (.t 53) (.t 55), none⟩, ⟨some 5, .mov (.t 56), none⟩]
def c23_L0 : LC := (.seq (.seq (.reg false c23_4) (.cond (.t 18) .skip (.seq (.trim [5]) (.exit 0)))) (.blk 1 (.seq (.blk 2 (.seq (.reg false c23_5) (.cond (.t 23) (.reg false c23_6) (.seq (.reg false c23_7) (.cond (.t 33) (.reg false c23_8) (.seq (.reg false c23_9) (.cond (.t 43) (.reg false c23_10) (.reg false c23_11)))))))) (.reg false c23_12))))
def c23_14 : List LOper := [⟨some 57, .mov (.t 5), none⟩, ⟨some 4, .mov (.t 57), none⟩]
def lc23 : LC := (.seq (.reg false c23_0) (.seq (.seq (.reg false c23_1) (.cond (.t 13) (.seq (.reg false c23_2) .ret) .skip)) (.seq (.reg false c23_3) (.seq (.blk 0 (.loop [2, 3, 5] c23_L0)) (.seq (.reg false c23_14) .ret)))))
def lf23 : LFunc := ⟨2, [.tmp 4], true, lc23⟩
def hi23 : Hints := ⟨[], [none, none, none, none, none, none, some [2, 3, 5], none, some [5], none, none, none, none, none, none, none, none], []⟩
theorem lf23_ok : compF Try.prog hi23 true Try.f23 = some lf23 := by kernel_rfl

/-! additive/additiveref18.Cells -/
def c25_0 : List LOper := [⟨some 1, .box (.t 0), none⟩, ⟨some 2, .mov (.c (.nils)), none⟩]
def c25_1 : List LOper := [⟨some 3, .mov (.c (.nils)), none⟩]
def c25_2 : List LOper := [⟨some 7, .load true 1 (.t 1), none⟩, ⟨some 8, .callp 54 [(.t 7)], none⟩, ⟨some 9, .un .not (.t 8), none⟩]
def c25_3 : List LOper := [⟨some 10, .mov (.t 3), none⟩, ⟨some 2, .mov (.t 10), none⟩]
def c25_4 : List LOper := [⟨some 4, .mov (.c (.int .i64 0)), none⟩]
def c25_5 : List LOper := [⟨some 11, .mov (.t 4), none⟩, ⟨some 12, .faddr 0 (.t 1), none⟩, ⟨some 13, .load false 1 (.t 12), none⟩, ⟨some 14, .len (.t 13), none⟩, ⟨some 15, .ibin .lss (.t 11) (.t 14), none⟩]
def c25_6 : List LOper := [⟨some 5, .mov (.c (.int .i64 0)), none⟩]
def c25_7 : List LOper := [⟨some 18, .mov (.t 5), none⟩, ⟨some 19, .faddr 0 (.t 1), none⟩, ⟨some 20, .load false 1 (.t 19), none⟩, ⟨some 21, .mov (.t 4), none⟩, ⟨some 22, .iaddr 2 (.t 20) (.t 21), none⟩, ⟨some 23, .faddr 1 (.t 22), none⟩, ⟨some 24, .load false 1 (.t 23), none⟩, ⟨some 25, .len (.t 24), none⟩, ⟨some 26, .ibin .lss (.t 18) (.t 25), none⟩]
def c25_8 : List LOper := [⟨some 29, .faddr 0 (.t 1), none⟩, ⟨some 30, .load false 1 (.t 29), none⟩, ⟨some 31, .mov (.t 4), none⟩, ⟨some 32, .iaddr 2 (.t 30) (.t 31), none⟩, ⟨some 33, .faddr 1 (.t 32), none⟩, ⟨some 34, .load false 1 (.t 33), none⟩, ⟨some 35, .mov (.t 5), none⟩, ⟨some 36, .iaddr 2 (.t 34) (.t 35), none⟩, ⟨some 37, .faddr 0 (.t 36), none⟩, ⟨some 38, .load false 1 (.t 37), none⟩, ⟨some 6, .mov (.t 38), none⟩]
def c25_9 : List LOper := [⟨some 39, .mov (.t 6), none⟩, ⟨some 40, .faddr 0 (.t 1), none⟩, ⟨some 41, .load false 1 (.t 40), none⟩, ⟨some 42, .mov (.t 4), none⟩, ⟨some 43, .iaddr 2 (.t 41) (.t 42), none⟩, ⟨some 44, .faddr 1 (.t 43), none⟩, ⟨some 45, .load false 1 (.t 44), none⟩, ⟨some 46, .mov (.t 5), none⟩, ⟨some 47, .iaddr 2 (.t 45) (.t 46), none⟩, ⟨some 48, .faddr 1 (.t 47), none⟩, ⟨some 49, .load false 1 (.t 48), none⟩, ⟨some 50, .ibin .lss (.t 39) (.t 49), none⟩]
def c25_10 : List LOper := [⟨some 53, .mov (.t 3), none⟩, ⟨some 54, .mov (.t 6), none⟩, ⟨some 55, .faddr 0 (.t 1), none⟩, ⟨some 56, .load false 1 (.t 55), none⟩, ⟨some 57, .mov (.t 4), none⟩, ⟨some 58, .iaddr 2 (.t 56) (.t 57), none⟩, ⟨some 59, .faddr 0 (.t 58), none⟩, ⟨some 60, .load false 1 (.t 59), none⟩, ⟨some 61, .build [.int .i64 0, .int .i64 0] [(0, 1, (.t 54)), (1, 1, (.t 60))], none⟩, ⟨some 62, .bslice 1 2 26 [.int .i64 0, .int .i64 0] [(0, 2, (.t 61))], none⟩, ⟨some 63, .app 2 16 26 [.int .i64 0, .int .i64 0] (.t 53) (.t 62), none⟩, ⟨some 3, .mov (.t 63), none⟩]
def c25_11 : List LOper := [⟨some 51, .mov (.t 6), none⟩, ⟨some 52, .ibin .add (.t 51) (.c (.int .i64 1)), none⟩, ⟨some 6, .mov (.t 52), none⟩]
def c25_L0 : LC := (.seq (.seq (.reg false c25_9) (.cond (.t 50) .skip (.seq (.trim [1, 3, 4, 5]) (.exit 4)))) (.seq (.blk 5 (.reg false c25_10)) (.reg false c25_11)))
def c25_13 : List LOper := [⟨some 27, .mov (.t 5), none⟩, ⟨some 28, .ibin .add (.t 27) (.c (.int .i64 1)), none⟩, ⟨some 5, .mov (.t 28), none⟩]
def c25_L1 : LC := (.seq (.seq (.reg false c25_7) (.cond (.t 26) .skip (.seq (.trim [1, 3, 4]) (.exit 2)))) (.seq (.blk 3 (.seq (.reg false c25_8) (.blk 4 (.loop [1, 3, 4, 5, 6] c25_L0)))) (.reg false c25_13)))
def c25_15 : List LOper := [⟨some 16, .mov (.t 4), none⟩, ⟨some 17, .ibin .add (.t 16) (.c (.int .i64 1)), none⟩, ⟨some 4, .mov (.t 17), none⟩]
def c25_L2 : LC := (.seq (.seq (.reg false c25_5) (.cond (.t 15) .skip (.seq (.trim [3]) (.exit 0)))) (.seq (.blk 1 (.seq (.reg false c25_6) (.blk 2 (.loop [1, 3, 4, 5] c25_L1)))) (.reg false c25_15)))
def c25_17 : List LOper := [⟨some 64, .mov (.t 3), none⟩, ⟨some 2, .mov (.t 64), none⟩]
def lc25 : LC := (.seq (.reg false c25_0) (.seq (.reg false c25_1) (.seq (.seq (.reg false c25_2) (.cond (.t 9) (.seq (.reg false c25_3) .ret) .skip)) (.seq (.seq (.reg false c25_4) (.blk 0 (.loop [1, 3, 4] c25_L2))) (.seq (.reg false c25_17) .ret)))))
def lf25 : LFunc := ⟨1, [.tmp 2], true, lc25⟩
def hi25 : Hints := ⟨[], [none, none, none, none, none, none, none, some [1, 3, 4], none, some [3], none, none, some [1, 3, 4, 5], none, some [1, 3, 4], none, none, some [1, 3, 4, 5, 6], none, some [1, 3, 4, 5], none, none, none, none, none, none, none], []⟩
theorem lf25_ok : compF Try.prog hi25 true Try.f25 = some lf25 := by kernel_rfl

/-! additive/additivelaw34.levels -/
def c26_0 : List LOper := [⟨some 3, .box (.t 1), none⟩, ⟨some 4, .mov (.c (.nils)), none⟩]
def c26_1 : List LOper := [⟨some 11, .mov (.t 0), none⟩, ⟨some 12, .len (.t 11), none⟩, ⟨some 13, .mkS 1 8 3 [.int .i64 0] (.t 12) (.t 12), none⟩, ⟨some 5, .mov (.t 13), none⟩]
def c26_2 : List LOper := [⟨some 6, .mov (.c (.int .i64 0)), none⟩]
def c26_3 : List LOper := [⟨some 14, .mov (.t 6), none⟩, ⟨some 15, .mov (.t 0), none⟩, ⟨some 16, .len (.t 15), none⟩, ⟨some 17, .ibin .lss (.t 14) (.t 16), none⟩]
def c26_4 : List LOper := [⟨some 20, .mov (.t 5), none⟩, ⟨some 21, .mov (.t 6), none⟩, ⟨some 22, .iaddr 1 (.t 20) (.t 21), none⟩, ⟨none, .store 1 (.t 22) (.c (.int .i64 (-1))), none⟩]
def c26_5 : List LOper := [⟨some 23, .mov (.t 0), none⟩, ⟨some 24, .mov (.t 6), none⟩, ⟨some 25, .iaddr 2 (.t 23) (.t 24), none⟩, ⟨some 26, .load true 2 (.t 25), none⟩, ⟨some 27, .load true 2 (.t 3), none⟩, ⟨some 28, .eqv false true [false, false] (.t 26) (.t 27), none⟩]
def c26_6 : List LOper := [⟨some 29, .mov (.t 5), none⟩, ⟨some 30, .mov (.t 6), none⟩, ⟨some 31, .iaddr 1 (.t 29) (.t 30), none⟩, ⟨none, .store 1 (.t 31) (.c (.int .i64 0)), none⟩]
def c26_7 : List LOper := [⟨some 18, .mov (.t 6), none⟩, ⟨some 19, .ibin .add (.t 18) (.c (.int .i64 1)), none⟩, ⟨some 6, .mov (.t 19), none⟩]
def c26_L0 : LC := (.seq (.seq (.reg false c26_3) (.cond (.t 17) .skip (.seq (.trim [0, 5]) (.exit 0)))) (.seq (.blk 1 (.seq (.reg false c26_4) (.seq (.reg true c26_5) (.cond (.t 28) (.reg false c26_6) .skip)))) (.reg false c26_7)))
def c26_9 : List LOper := [⟨some 7, .mov (.c (.int .i64 0)), none⟩]
def c26_10 : List LOper := [⟨some 32, .mov (.t 7), none⟩, ⟨some 33, .mov (.t 0), none⟩, ⟨some 34, .len (.t 33), none⟩, ⟨some 35, .ibin .lss (.t 32) (.t 34), none⟩]
def c26_11 : List LOper := [⟨some 8, .mov (.c (.bool false)), none⟩]
def c26_12 : List LOper := [⟨some 9, .mov (.c (.int .i64 0)), none⟩]
def c26_13 : List LOper := [⟨some 38, .mov (.t 9), none⟩, ⟨some 39, .mov (.t 0), none⟩, ⟨some 40, .len (.t 39), none⟩, ⟨some 41, .ibin .lss (.t 38) (.t 40), none⟩]
def c26_14 : List LOper := [⟨some 10, .mov (.c (.int .i64 0)), none⟩]
def c26_15 : List LOper := [⟨some 44, .mov (.t 10), none⟩, ⟨some 45, .mov (.t 0), none⟩, ⟨some 46, .len (.t 45), none⟩, ⟨some 47, .ibin .lss (.t 44) (.t 46), none⟩, ⟨some 48, .mov (.t 47), none⟩, ⟨some 49, .mov (.t 5), some (48, true)⟩, ⟨some 50, .mov (.t 9), some (48, true)⟩, ⟨some 51, .iaddr 1 (.t 49) (.t 50), some (48, true)⟩, ⟨some 52, .load false 1 (.t 51), some (48, true)⟩, ⟨some 53, .mov (.t 7), some (48, true)⟩, ⟨some 54, .ibin .eql (.t 52) (.t 53), some (48, true)⟩, ⟨some 55, .pick (.t 48) (.t 54) (.c (.bool false)), none⟩]
def c26_16 : List LOper := [⟨some 58, .mov (.t 5), none⟩, ⟨some 59, .mov (.t 10), none⟩, ⟨some 60, .iaddr 1 (.t 58) (.t 59), none⟩, ⟨some 61, .load false 1 (.t 60), none⟩, ⟨some 62, .ibin .lss (.t 61) (.c (.int .i64 0)), none⟩, ⟨some 63, .mov (.t 62), none⟩, ⟨some 64, .mov (.t 0), some (63, true)⟩, ⟨some 65, .mov (.t 9), some (63, true)⟩, ⟨some 66, .iaddr 2 (.t 64) (.t 65), some (63, true)⟩, ⟨some 67, .load true 2 (.t 66), some (63, true)⟩, ⟨some 68, .mov (.t 0), some (63, true)⟩, ⟨some 69, .mov (.t 10), some (63, true)⟩, ⟨some 70, .iaddr 2 (.t 68) (.t 69), some (63, true)⟩, ⟨some 71, .load true 2 (.t 70), some (63, true)⟩, ⟨some 72, .callp 28 [(.t 67), (.t 71)], some (63, true)⟩, ⟨some 73, .pick (.t 63) (.t 72) (.c (.bool false)), none⟩]
def c26_17 : List LOper := [⟨some 74, .mov (.t 5), none⟩, ⟨some 75, .mov (.t 10), none⟩, ⟨some 76, .mov (.t 7), none⟩, ⟨some 77, .ibin .add (.t 76) (.c (.int .i64 1)), none⟩, ⟨some 78, .iaddr 1 (.t 74) (.t 75), none⟩, ⟨none, .store 1 (.t 78) (.t 77), none⟩]
def c26_18 : List LOper := [⟨some 8, .mov (.c (.bool true)), none⟩]
def c26_19 : List LOper := [⟨some 56, .mov (.t 10), none⟩, ⟨some 57, .ibin .add (.t 56) (.c (.int .i64 1)), none⟩, ⟨some 10, .mov (.t 57), none⟩]
def c26_L1 : LC := (.seq (.seq (.reg false c26_15) (.cond (.t 55) .skip (.seq (.trim [0, 5, 7, 8, 9]) (.exit 6)))) (.seq (.blk 7 (.seq (.reg true c26_16) (.cond (.t 73) (.seq (.reg false c26_17) (.reg false c26_18)) .skip))) (.reg false c26_19)))
def c26_21 : List LOper := [⟨some 42, .mov (.t 9), none⟩, ⟨some 43, .ibin .add (.t 42) (.c (.int .i64 1)), none⟩, ⟨some 9, .mov (.t 43), none⟩]
def c26_L2 : LC := (.seq (.seq (.reg false c26_13) (.cond (.t 41) .skip (.seq (.trim [0, 5, 7, 8]) (.exit 4)))) (.seq (.blk 5 (.seq (.reg false c26_14) (.blk 6 (.loop [0, 5, 7, 8, 9, 10] c26_L1)))) (.reg false c26_21)))
def c26_23 : List LOper := [⟨some 79, .mov (.t 8), none⟩, ⟨some 80, .un .not (.t 79), none⟩]
def c26_24 : List LOper := [⟨some 81, .mov (.t 5), none⟩, ⟨some 4, .mov (.t 81), none⟩]
def c26_25 : List LOper := [⟨some 36, .mov (.t 7), none⟩, ⟨some 37, .ibin .add (.t 36) (.c (.int .i64 1)), none⟩, ⟨some 7, .mov (.t 37), none⟩]
def c26_L3 : LC := (.seq (.seq (.reg false c26_10) (.cond (.t 35) .skip (.seq (.trim [5]) (.exit 2)))) (.seq (.blk 3 (.seq (.reg false c26_11) (.seq (.seq (.reg false c26_12) (.blk 4 (.loop [0, 5, 7, 8, 9] c26_L2))) (.seq (.reg false c26_23) (.cond (.t 80) (.seq (.reg false c26_24) (.seq (.trim [4]) .ret)) .skip))))) (.reg false c26_25)))
def c26_27 : List LOper := [⟨some 82, .mov (.t 5), none⟩, ⟨some 4, .mov (.t 82), none⟩]
def lc26 : LC := (.seq (.reg false c26_0) (.seq (.reg false c26_1) (.seq (.seq (.reg false c26_2) (.blk 0 (.loop [0, 3, 5, 6] c26_L0))) (.seq (.seq (.reg false c26_9) (.blk 2 (.loop [0, 5, 7] c26_L3))) (.seq (.reg false c26_27) .ret)))))
def lf26 : LFunc := ⟨2, [.tmp 4], true, lc26⟩
def hi26 : Hints := ⟨[], [none, none, none, some [0, 3, 5, 6], none, some [0, 5], none, none, none, none, none, none, some [0, 5, 7], none, some [5], none, none, none, some [0, 5, 7, 8, 9], none, some [0, 5, 7, 8], none, none, some [0, 5, 7, 8, 9, 10], none, some [0, 5, 7, 8, 9], none, none, none, none, none, none, none, none, some [4], none, none, none, none], []⟩
theorem lf26_ok : compF Try.prog hi26 true Try.f26 = some lf26 := by kernel_rfl

/-! additive/additiveref18.Contains -/
def c27_0 : List LOper := [⟨some 2, .box (.t 0), none⟩, ⟨some 3, .box (.t 1), none⟩, ⟨some 4, .mov (.c (.bool false)), none⟩]
def c27_1 : List LOper := [⟨some 5, .load true 1 (.t 2), none⟩, ⟨some 6, .callp 54 [(.t 5)], none⟩, ⟨some 7, .mov (.t 6), none⟩, ⟨some 8, .load true 1 (.t 2), some (7, true)⟩, ⟨some 9, .faddr 1 (.t 3), some (7, true)⟩, ⟨some 10, .load false 1 (.t 9), some (7, true)⟩, ⟨some 11, .callp 56 [(.t 8), (.t 10)], some (7, true)⟩, ⟨some 12, .faddr 0 (.t 3), some (7, true)⟩, ⟨some 13, .load false 1 (.t 12), some (7, true)⟩, ⟨some 14, .callp 55 [(.t 11), (.t 13)], some (7, true)⟩, ⟨some 15, .pick (.t 7) (.t 14) (.c (.bool false)), none⟩, ⟨some 4, .mov (.t 15), none⟩]
def lc27 : LC := (.seq (.reg false c27_0) (.seq (.reg true c27_1) .ret))
def lf27 : LFunc := ⟨2, [.tmp 4], true, lc27⟩
def hi27 : Hints := ⟨[], [none, none, none], []⟩
theorem lf27_ok : compF Try.prog hi27 true Try.f27 = some lf27 := by kernel_rfl

/-! additive/additivelaw34.step -/
def c28_0 : List LOper := [⟨some 2, .box (.t 0), none⟩, ⟨some 3, .box (.t 1), none⟩, ⟨some 4, .mov (.c (.bool false)), none⟩]
def c28_1 : List LOper := [⟨some 7, .faddr 0 (.t 2), none⟩, ⟨some 8, .load false 1 (.t 7), none⟩, ⟨some 9, .faddr 0 (.t 3), none⟩, ⟨some 10, .load false 1 (.t 9), none⟩, ⟨some 11, .ibin .sub (.t 8) (.t 10), none⟩, ⟨some 12, .faddr 1 (.t 2), none⟩, ⟨some 13, .load false 1 (.t 12), none⟩, ⟨some 14, .faddr 1 (.t 3), none⟩, ⟨some 15, .load false 1 (.t 14), none⟩, ⟨some 16, .ibin .sub (.t 13) (.t 15), none⟩, ⟨some 5, .mov (.t 11), none⟩, ⟨some 6, .mov (.t 16), none⟩]
def c28_2 : List LOper := [⟨some 17, .mov (.t 5), none⟩, ⟨some 18, .mov (.t 5), none⟩, ⟨some 19, .ibin .mul (.t 17) (.t 18), none⟩, ⟨some 20, .mov (.t 6), none⟩, ⟨some 21, .mov (.t 6), none⟩, ⟨some 22, .ibin .mul (.t 20) (.t 21), none⟩, ⟨some 23, .ibin .add (.t 19) (.t 22), none⟩, ⟨some 24, .ibin .eql (.t 23) (.c (.int .i64 1)), none⟩, ⟨some 4, .mov (.t 24), none⟩]
def lc28 : LC := (.seq (.reg false c28_0) (.seq (.reg true c28_1) (.seq (.reg false c28_2) .ret)))
def lf28 : LFunc := ⟨2, [.tmp 4], true, lc28⟩
def hi28 : Hints := ⟨[], [none, none, none, none], []⟩
theorem lf28_ok : compF Try.prog hi28 true Try.f28 = some lf28 := by kernel_rfl

/-! additive/region.Contains -/
def c29_0 : List LOper := [⟨some 2, .box (.t 0), none⟩, ⟨some 3, .box (.t 1), none⟩, ⟨some 4, .mov (.c (.bool false)), none⟩]
def c29_1 : List LOper := [⟨some 5, .load true 1 (.t 2), none⟩, ⟨some 6, .callp 57 [(.t 5)], none⟩, ⟨some 7, .mov (.t 6), none⟩, ⟨some 8, .load true 1 (.t 2), some (7, true)⟩, ⟨some 9, .faddr 1 (.t 3), some (7, true)⟩, ⟨some 10, .load false 1 (.t 9), some (7, true)⟩, ⟨some 11, .callp 59 [(.t 8), (.t 10)], some (7, true)⟩, ⟨some 12, .faddr 0 (.t 3), some (7, true)⟩, ⟨some 13, .load false 1 (.t 12), some (7, true)⟩, ⟨some 14, .callp 58 [(.t 11), (.t 13)], some (7, true)⟩, ⟨some 15, .pick (.t 7) (.t 14) (.c (.bool false)), none⟩, ⟨some 4, .mov (.t 15), none⟩]
def lc29 : LC := (.seq (.reg false c29_0) (.seq (.reg true c29_1) .ret))
def lf29 : LFunc := ⟨2, [.tmp 4], true, lc29⟩
def hi29 : Hints := ⟨[], [none, none, none], []⟩
theorem lf29_ok : compF Try.prog hi29 true Try.f29 = some lf29 := by kernel_rfl

/-! additive/additiveref18.Count -/
def c46_0 : List LOper := [⟨some 1, .box (.t 0), none⟩, ⟨some 2, .mov (.c (.int .i64 0)), none⟩]
def c46_1 : List LOper := [⟨some 3, .mov (.c (.int .i64 0)), none⟩]
def c46_2 : List LOper := [⟨some 6, .load true 1 (.t 1), none⟩, ⟨some 7, .callp 54 [(.t 6)], none⟩, ⟨some 8, .un .not (.t 7), none⟩]
def c46_3 : List LOper := [⟨some 9, .mov (.t 3), none⟩, ⟨some 2, .mov (.t 9), none⟩]
def c46_4 : List LOper := [⟨some 4, .mov (.c (.int .i64 0)), none⟩]
def c46_5 : List LOper := [⟨some 10, .mov (.t 4), none⟩, ⟨some 11, .faddr 0 (.t 1), none⟩, ⟨some 12, .load false 1 (.t 11), none⟩, ⟨some 13, .len (.t 12), none⟩, ⟨some 14, .ibin .lss (.t 10) (.t 13), none⟩]
def c46_6 : List LOper := [⟨some 5, .mov (.c (.int .i64 0)), none⟩]
def c46_7 : List LOper := [⟨some 17, .mov (.t 5), none⟩, ⟨some 18, .faddr 0 (.t 1), none⟩, ⟨some 19, .load false 1 (.t 18), none⟩, ⟨some 20, .mov (.t 4), none⟩, ⟨some 21, .iaddr 2 (.t 19) (.t 20), none⟩, ⟨some 22, .faddr 1 (.t 21), none⟩, ⟨some 23, .load false 1 (.t 22), none⟩, ⟨some 24, .len (.t 23), none⟩, ⟨some 25, .ibin .lss (.t 17) (.t 24), none⟩]
def c46_8 : List LOper := [⟨some 28, .mov (.t 3), none⟩, ⟨some 29, .faddr 0 (.t 1), none⟩, ⟨some 30, .load false 1 (.t 29), none⟩, ⟨some 31, .mov (.t 4), none⟩, ⟨some 32, .iaddr 2 (.t 30) (.t 31), none⟩, ⟨some 33, .faddr 1 (.t 32), none⟩, ⟨some 34, .load false 1 (.t 33), none⟩, ⟨some 35, .mov (.t 5), none⟩, ⟨some 36, .iaddr 2 (.t 34) (.t 35), none⟩, ⟨some 37, .faddr 1 (.t 36), none⟩, ⟨some 38, .load false 1 (.t 37), none⟩, ⟨some 39, .faddr 0 (.t 1), none⟩, ⟨some 40, .load false 1 (.t 39), none⟩, ⟨some 41, .mov (.t 4), none⟩, ⟨some 42, .iaddr 2 (.t 40) (.t 41), none⟩, ⟨some 43, .faddr 1 (.t 42), none⟩, ⟨some 44, .load false 1 (.t 43), none⟩, ⟨some 45, .mov (.t 5), none⟩, ⟨some 46, .iaddr 2 (.t 44) (.t 45), none⟩, ⟨some 47, .faddr 0 (.t 46), none⟩, ⟨some 48, .load false 1 (.t 47), none⟩, ⟨some 49, .ibin .sub (.t 38) (.t 48), none⟩, ⟨some 50, .ibin .add (.t 28) (.t 49), none⟩, ⟨some 3, .mov (.t 50), none⟩]
def c46_9 : List LOper := [⟨some 26, .mov (.t 5), none⟩, ⟨some 27, .ibin .add (.t 26) (.c (.int .i64 1)), none⟩, ⟨some 5, .mov (.t 27), none⟩]
def c46_L0 : LC := (.seq (.seq (.reg false c46_7) (.cond (.t 25) .skip (.seq (.trim [1, 3, 4]) (.exit 2)))) (.seq (.blk 3 (.reg true c46_8)) (.reg false c46_9)))
def c46_11 : List LOper := [⟨some 15, .mov (.t 4), none⟩, ⟨some 16, .ibin .add (.t 15) (.c (.int .i64 1)), none⟩, ⟨some 4, .mov (.t 16), none⟩]
def c46_L1 : LC := (.seq (.seq (.reg false c46_5) (.cond (.t 14) .skip (.seq (.trim [3]) (.exit 0)))) (.seq (.blk 1 (.seq (.reg false c46_6) (.blk 2 (.loop [1, 3, 4, 5] c46_L0)))) (.reg false c46_11)))
def c46_13 : List LOper := [⟨some 51, .mov (.t 3), none⟩, ⟨some 2, .mov (.t 51), none⟩]
def lc46 : LC := (.seq (.reg false c46_0) (.seq (.reg false c46_1) (.seq (.seq (.reg false c46_2) (.cond (.t 8) (.seq (.reg false c46_3) .ret) .skip)) (.seq (.seq (.reg false c46_4) (.blk 0 (.loop [1, 3, 4] c46_L1))) (.seq (.reg false c46_13) .ret)))))
def lf46 : LFunc := ⟨1, [.tmp 2], true, lc46⟩
def hi46 : Hints := ⟨[], [none, none, none, none, none, none, none, some [1, 3, 4], none, some [3], none, none, some [1, 3, 4, 5], none, some [1, 3, 4], none, none, none, none, none, none], []⟩
theorem lf46_ok : compF Try.prog hi46 true Try.f46 = some lf46 := by kernel_rfl

/-! additive/additivelaw34.square -/
def c47_0 : List LOper := [⟨some 0, .alloc [.nils], none⟩]
def c47_1 : List LOper := [⟨some 1, .build [.int .i64 0, .int .i64 0] [(0, 1, (.c (.int .i64 0))), (1, 1, (.c (.int .i64 2)))], none⟩, ⟨some 2, .bslice 1 2 78 [.int .i64 0, .int .i64 0] [(0, 2, (.t 1))], none⟩, ⟨some 3, .build [.int .i64 0, .nils] [(1, 1, (.t 2))], none⟩, ⟨some 4, .build [.int .i64 0, .int .i64 0] [(0, 1, (.c (.int .i64 0))), (1, 1, (.c (.int .i64 2)))], none⟩, ⟨some 5, .bslice 1 2 78 [.int .i64 0, .int .i64 0] [(0, 2, (.t 4))], none⟩, ⟨some 6, .build [.int .i64 0, .nils] [(0, 1, (.c (.int .i64 1))), (1, 1, (.t 5))], none⟩, ⟨some 7, .bslice 2 2 65 [.int .i64 0, .nils] [(0, 2, (.t 3)), (2, 2, (.t 6))], none⟩, ⟨some 8, .build [.nils] [(0, 1, (.t 7))], none⟩, ⟨none, .store 1 (.t 0) (.t 8), none⟩]
def lc47 : LC := (.seq (.reg false c47_0) (.seq (.reg false c47_1) .ret))
def lf47 : LFunc := ⟨0, [.cell 0 true 1], true, lc47⟩
def hi47 : Hints := ⟨[], [none, none, none], []⟩
theorem lf47_ok : compF Try.prog hi47 true Try.f47 = some lf47 := by kernel_rfl

/-! additive/comb.search -/
def c48_0 : List LOper := [⟨some 3, .box (.t 0), none⟩, ⟨some 4, .box (.t 1), none⟩, ⟨some 5, .box (.t 2), none⟩, ⟨some 6, .mov (.c (.nilm)), none⟩]
def c48_1 : List LOper := [⟨some 14, .mkM, none⟩, ⟨some 15, .load true 2 (.t 4), none⟩, ⟨some 16, .load true 2 (.t 4), none⟩, ⟨none, .setM true [false, false] (.t 14) (.t 15) (.t 16), none⟩, ⟨some 17, .mov (.t 14), none⟩, ⟨some 7, .mov (.t 17), none⟩]
def c48_2 : List LOper := [⟨some 18, .load true 2 (.t 4), none⟩, ⟨some 19, .bslice 1 2 26 [.int .i64 0, .int .i64 0] [(0, 2, (.t 18))], none⟩, ⟨some 8, .mov (.t 19), none⟩]
def c48_3 : List LOper := [⟨some 20, .mov (.t 8), none⟩, ⟨some 21, .len (.t 20), none⟩, ⟨some 22, .ibin .gtr (.t 21) (.c (.int .i64 0)), none⟩]
def c48_4 : List LOper := [⟨some 23, .mov (.t 8), none⟩, ⟨some 24, .iaddr 2 (.t 23) (.c (.int .i64 0)), none⟩, ⟨some 25, .load true 2 (.t 24), none⟩, ⟨some 9, .alloc [.int .i64 0, .int .i64 0], none⟩, ⟨none, .store 2 (.t 9) (.t 25), none⟩]
def c48_5 : List LOper := [⟨some 26, .mov (.t 8), none⟩, ⟨some 27, .slc 2 (.t 26) (some (.c (.int .i64 1))) none, none⟩, ⟨some 8, .mov (.t 27), none⟩]
def c48_6 : List LOper := [⟨some 28, .load true 2 (.t 9), none⟩, ⟨some 29, .load true 2 (.t 5), none⟩, ⟨some 30, .eqv false true [false, false] (.t 28) (.t 29), none⟩]
def c48_7 : List LOper := [⟨some 31, .faddr 0 (.t 9), none⟩, ⟨some 32, .load false 1 (.t 31), none⟩, ⟨some 33, .ibin .add (.t 32) (.c (.int .i64 1)), none⟩, ⟨some 34, .faddr 1 (.t 9), none⟩, ⟨some 35, .load false 1 (.t 34), none⟩, ⟨some 36, .build [.int .i64 0, .int .i64 0] [(0, 1, (.t 33)), (1, 1, (.t 35))], none⟩, ⟨some 37, .faddr 0 (.t 9), none⟩, ⟨some 38, .load false 1 (.t 37), none⟩, ⟨some 39, .ibin .sub (.t 38) (.c (.int .i64 1)), none⟩, ⟨some 40, .faddr 1 (.t 9), none⟩, ⟨some 41, .load false 1 (.t 40), none⟩, ⟨some 42, .build [.int .i64 0, .int .i64 0] [(0, 1, (.t 39)), (1, 1, (.t 41))], none⟩, ⟨some 43, .faddr 0 (.t 9), none⟩, ⟨some 44, .load false 1 (.t 43), none⟩, ⟨some 45, .faddr 1 (.t 9), none⟩, ⟨some 46, .load false 1 (.t 45), none⟩, ⟨some 47, .ibin .add (.t 46) (.c (.int .i64 1)), none⟩, ⟨some 48, .build [.int .i64 0, .int .i64 0] [(0, 1, (.t 44)), (1, 1, (.t 47))], none⟩, ⟨some 49, .faddr 0 (.t 9), none⟩, ⟨some 50, .load false 1 (.t 49), none⟩, ⟨some 51, .faddr 1 (.t 9), none⟩, ⟨some 52, .load false 1 (.t 51), none⟩, ⟨some 53, .ibin .sub (.t 52) (.c (.int .i64 1)), none⟩, ⟨some 54, .build [.int .i64 0, .int .i64 0] [(0, 1, (.t 50)), (1, 1, (.t 53))], none⟩, ⟨some 55, .build [.int .i64 0, .int .i64 0, .int .i64 0, .int .i64 0, .int .i64 0, .int .i64 0, .int .i64 0, .int .i64 0] [(0, 2, (.t 36)), (2, 2, (.t 42)), (4, 2, (.t 48)), (6, 2, (.t 54))], none⟩, ⟨some 56, .mov (.c (.int .i64 0)), none⟩]
def c48_8 : List LOper := [⟨some 57, .ibin .lss (.t 56) (.c (.int .i64 4)), none⟩]
def c48_9 : List LOper := [⟨some 58, .idx 4 2 true (.t 55) (.t 56), none⟩, ⟨some 11, .alloc [.int .i64 0, .int .i64 0], none⟩, ⟨none, .store 2 (.t 11) (.t 58), none⟩]
def c48_10 : List LOper := [⟨some 60, .mov (.t 7), none⟩, ⟨some 61, .load true 2 (.t 11), none⟩, ⟨some 62, .look true true [false, false] (.agg [.int .i64 0, .int .i64 0]) (.t 60) (.t 61), none⟩, ⟨some 59, .mov (.t 62), none⟩, ⟨some 63, .ext (.t 59) 0, none⟩, ⟨some 64, .ext (.t 59) 1, none⟩, ⟨some 12, .alloc [.int .i64 0, .int .i64 0], none⟩, ⟨none, .store 2 (.t 12) (.t 63), none⟩, ⟨some 13, .mov (.t 64), none⟩]
def c48_11 : List LOper := [⟨some 65, .mov (.t 13), none⟩, ⟨some 66, .un .not (.t 65), none⟩, ⟨some 67, .mov (.t 66), none⟩, ⟨some 68, .load true 1 (.t 3), some (67, true)⟩, ⟨some 69, .load true 2 (.t 11), some (67, true)⟩, ⟨some 70, .callp 29 [(.t 68), (.t 69)], some (67, true)⟩, ⟨some 71, .pick (.t 67) (.t 70) (.c (.bool false)), none⟩]
def c48_12 : List LOper := [⟨some 72, .mov (.t 7), none⟩, ⟨some 73, .load true 2 (.t 11), none⟩, ⟨some 74, .load true 2 (.t 9), none⟩, ⟨none, .setM true [false, false] (.t 72) (.t 73) (.t 74), none⟩]
def c48_13 : List LOper := [⟨some 75, .mov (.t 8), none⟩, ⟨some 76, .load true 2 (.t 11), none⟩, ⟨some 77, .bslice 1 2 26 [.int .i64 0, .int .i64 0] [(0, 2, (.t 76))], none⟩, ⟨some 78, .app 2 16 26 [.int .i64 0, .int .i64 0] (.t 75) (.t 77), none⟩, ⟨some 8, .mov (.t 78), none⟩]
def c48_14 : List LOper := [⟨some 79, .ibin .add (.t 56) (.c (.int .i64 1)), none⟩, ⟨some 56, .mov (.t 79), none⟩]
def c48_L0 : LC := (.seq (.reg false c48_8) (.seq (.cond (.t 57) .skip (.seq (.trim [3, 5, 7, 8]) (.exit 2))) (.seq (.blk 3 (.seq (.reg false c48_9) (.seq (.reg false c48_10) (.seq (.reg false c48_11) (.cond (.t 71) (.seq (.reg false c48_12) (.reg false c48_13)) .skip))))) (.reg false c48_14))))
def c48_L1 : LC := (.seq (.seq (.reg false c48_3) (.cond (.t 22) .skip (.seq (.trim [7]) (.exit 0)))) (.blk 1 (.seq (.reg false c48_4) (.seq (.reg false c48_5) (.seq (.seq (.reg false c48_6) (.cond (.t 30) (.seq (.trim [7]) (.exit 0)) .skip)) (.seq (.reg false c48_7) (.blk 2 (.loop [3, 5, 7, 8, 9, 55, 56] c48_L0))))))))
def c48_17 : List LOper := [⟨some 80, .mov (.t 7), none⟩, ⟨some 6, .mov (.t 80), none⟩]
def lc48 : LC := (.seq (.reg false c48_0) (.seq (.reg false c48_1) (.seq (.seq (.reg false c48_2) (.blk 0 (.loop [3, 5, 7, 8] c48_L1))) (.seq (.reg false c48_17) .ret))))
def lf48 : LFunc := ⟨3, [.tmp 6], true, lc48⟩
def hi48 : Hints := ⟨[], [none, none, none, some [3, 5, 7, 8], none, some [7], none, none, none, none, some [7], none, none, some [3, 5, 7, 8, 9, 55, 56], none, some [3, 5, 7, 8], none, none, none, none, none, none, none, none, none], []⟩
theorem lf48_ok : compF Try.prog hi48 true Try.f48 = some lf48 := by kernel_rfl

/-! slices.Reverse[[]additive/api.Cell,additive/api.Cell] -/
def c49_0 : List LOper := [⟨some 4, .mov (.t 0), none⟩, ⟨some 5, .len (.t 4), none⟩, ⟨some 6, .ibin .sub (.t 5) (.c (.int .i64 1)), none⟩, ⟨some 2, .mov (.c (.int .i64 0)), none⟩, ⟨some 3, .mov (.t 6), none⟩]
def c49_1 : List LOper := [⟨some 7, .mov (.t 2), none⟩, ⟨some 8, .mov (.t 3), none⟩, ⟨some 9, .ibin .lss (.t 7) (.t 8), none⟩]
def c49_2 : List LOper := [⟨some 14, .mov (.t 0), none⟩, ⟨some 15, .mov (.t 2), none⟩, ⟨some 16, .mov (.t 0), none⟩, ⟨some 17, .mov (.t 3), none⟩, ⟨some 18, .mov (.t 0), none⟩, ⟨some 19, .mov (.t 3), none⟩, ⟨some 20, .iaddr 2 (.t 18) (.t 19), none⟩, ⟨some 21, .load true 2 (.t 20), none⟩, ⟨some 22, .mov (.t 0), none⟩, ⟨some 23, .mov (.t 2), none⟩, ⟨some 24, .iaddr 2 (.t 22) (.t 23), none⟩, ⟨some 25, .load true 2 (.t 24), none⟩, ⟨some 26, .iaddr 2 (.t 14) (.t 15), none⟩, ⟨none, .store 2 (.t 26) (.t 21), none⟩, ⟨some 27, .iaddr 2 (.t 16) (.t 17), none⟩, ⟨none, .store 2 (.t 27) (.t 25), none⟩]
def c49_3 : List LOper := [⟨some 10, .mov (.t 2), none⟩, ⟨some 11, .ibin .add (.t 10) (.c (.int .i64 1)), none⟩, ⟨some 12, .mov (.t 3), none⟩, ⟨some 13, .ibin .sub (.t 12) (.c (.int .i64 1)), none⟩, ⟨some 2, .mov (.t 11), none⟩, ⟨some 3, .mov (.t 13), none⟩]
def c49_L0 : LC := (.seq (.seq (.reg false c49_1) (.cond (.t 9) .skip (.seq (.trim []) (.exit 0)))) (.seq (.blk 1 (.reg true c49_2)) (.reg false c49_3)))
def lc49 : LC := (.seq (.reg false c49_0) (.blk 0 (.loop [0, 2, 3] c49_L0)))
def lf49 : LFunc := ⟨1, [], false, lc49⟩
def hi49 : Hints := ⟨[], [none, some [0, 2, 3], none, some [], none, none], []⟩
theorem lf49_ok : compF Try.prog hi49 false Try.f49 = some lf49 := by kernel_rfl

/-! additive/additiveref34.search -/
def c50_0 : List LOper := [⟨some 3, .box (.t 0), none⟩, ⟨some 4, .box (.t 1), none⟩, ⟨some 5, .box (.t 2), none⟩, ⟨some 6, .mov (.c (.nils)), none⟩]
def c50_1 : List LOper := [⟨some 12, .load true 2 (.t 4), none⟩, ⟨some 13, .build [.int .i64 0, .int .i64 0, .int .i64 0] [(0, 2, (.t 12)), (2, 1, (.c (.int .i64 (-1))))], none⟩, ⟨some 14, .bslice 1 3 75 [.int .i64 0, .int .i64 0, .int .i64 0] [(0, 3, (.t 13))], none⟩, ⟨some 7, .mov (.t 14), none⟩]
def c50_2 : List LOper := [⟨some 8, .mov (.c (.int .i64 0)), none⟩]
def c50_3 : List LOper := [⟨some 15, .mov (.t 8), none⟩, ⟨some 16, .mov (.t 7), none⟩, ⟨some 17, .len (.t 16), none⟩, ⟨some 18, .ibin .lss (.t 15) (.t 17), none⟩, ⟨some 19, .mov (.t 18), none⟩, ⟨some 20, .mov (.t 7), some (19, true)⟩, ⟨some 21, .mov (.t 7), some (19, true)⟩, ⟨some 22, .len (.t 21), some (19, true)⟩, ⟨some 23, .ibin .sub (.t 22) (.c (.int .i64 1)), some (19, true)⟩, ⟨some 24, .iaddr 3 (.t 20) (.t 23), some (19, true)⟩, ⟨some 25, .faddr 0 (.t 24), some (19, true)⟩, ⟨some 26, .load true 2 (.t 25), some (19, true)⟩, ⟨some 27, .load true 2 (.t 5), some (19, true)⟩, ⟨some 28, .eqv true true [false, false] (.t 26) (.t 27), some (19, true)⟩, ⟨some 29, .pick (.t 19) (.t 28) (.c (.bool false)), none⟩]
def c50_4 : List LOper := [⟨some 32, .mov (.t 7), none⟩, ⟨some 33, .mov (.t 8), none⟩, ⟨some 34, .iaddr 3 (.t 32) (.t 33), none⟩, ⟨some 35, .faddr 0 (.t 34), none⟩, ⟨some 36, .load true 2 (.t 35), none⟩, ⟨some 9, .alloc [.int .i64 0, .int .i64 0], none⟩, ⟨none, .store 2 (.t 9) (.t 36), none⟩]
def c50_5 : List LOper := [⟨some 37, .faddr 0 (.t 9), none⟩, ⟨some 38, .load false 1 (.t 37), none⟩, ⟨some 39, .ibin .add (.t 38) (.c (.int .i64 1)), none⟩, ⟨some 40, .faddr 1 (.t 9), none⟩, ⟨some 41, .load false 1 (.t 40), none⟩, ⟨some 42, .build [.int .i64 0, .int .i64 0] [(0, 1, (.t 39)), (1, 1, (.t 41))], none⟩, ⟨some 43, .faddr 0 (.t 9), none⟩, ⟨some 44, .load false 1 (.t 43), none⟩, ⟨some 45, .ibin .sub (.t 44) (.c (.int .i64 1)), none⟩, ⟨some 46, .faddr 1 (.t 9), none⟩, ⟨some 47, .load false 1 (.t 46), none⟩, ⟨some 48, .build [.int .i64 0, .int .i64 0] [(0, 1, (.t 45)), (1, 1, (.t 47))], none⟩, ⟨some 49, .faddr 0 (.t 9), none⟩, ⟨some 50, .load false 1 (.t 49), none⟩, ⟨some 51, .faddr 1 (.t 9), none⟩, ⟨some 52, .load false 1 (.t 51), none⟩, ⟨some 53, .ibin .add (.t 52) (.c (.int .i64 1)), none⟩, ⟨some 54, .build [.int .i64 0, .int .i64 0] [(0, 1, (.t 50)), (1, 1, (.t 53))], none⟩, ⟨some 55, .faddr 0 (.t 9), none⟩, ⟨some 56, .load false 1 (.t 55), none⟩, ⟨some 57, .faddr 1 (.t 9), none⟩, ⟨some 58, .load false 1 (.t 57), none⟩, ⟨some 59, .ibin .sub (.t 58) (.c (.int .i64 1)), none⟩, ⟨some 60, .build [.int .i64 0, .int .i64 0] [(0, 1, (.t 56)), (1, 1, (.t 59))], none⟩, ⟨some 61, .bslice 4 2 26 [.int .i64 0, .int .i64 0] [(0, 2, (.t 42)), (2, 2, (.t 48)), (4, 2, (.t 54)), (6, 2, (.t 60))], none⟩, ⟨some 10, .mov (.t 61), none⟩]
def c50_6 : List LOper := [⟨some 11, .mov (.c (.int .i64 0)), none⟩]
def c50_7 : List LOper := [⟨some 62, .mov (.t 11), none⟩, ⟨some 63, .ibin .lss (.t 62) (.c (.int .i64 4)), none⟩, ⟨some 64, .mov (.t 63), none⟩, ⟨some 65, .mov (.t 7), some (64, true)⟩, ⟨some 66, .mov (.t 7), some (64, true)⟩, ⟨some 67, .len (.t 66), some (64, true)⟩, ⟨some 68, .ibin .sub (.t 67) (.c (.int .i64 1)), some (64, true)⟩, ⟨some 69, .iaddr 3 (.t 65) (.t 68), some (64, true)⟩, ⟨some 70, .faddr 0 (.t 69), some (64, true)⟩, ⟨some 71, .load true 2 (.t 70), some (64, true)⟩, ⟨some 72, .load true 2 (.t 5), some (64, true)⟩, ⟨some 73, .eqv true true [false, false] (.t 71) (.t 72), some (64, true)⟩, ⟨some 74, .pick (.t 64) (.t 73) (.c (.bool false)), none⟩]
def c50_8 : List LOper := [⟨some 77, .load true 1 (.t 3), none⟩, ⟨some 78, .mov (.t 10), none⟩, ⟨some 79, .mov (.t 11), none⟩, ⟨some 80, .iaddr 2 (.t 78) (.t 79), none⟩, ⟨some 81, .load true 2 (.t 80), none⟩, ⟨some 82, .callp 27 [(.t 77), (.t 81)], none⟩, ⟨some 83, .mov (.t 82), none⟩, ⟨some 84, .mov (.t 7), some (83, true)⟩, ⟨some 85, .mov (.t 10), some (83, true)⟩, ⟨some 86, .mov (.t 11), some (83, true)⟩, ⟨some 87, .iaddr 2 (.t 85) (.t 86), some (83, true)⟩, ⟨some 88, .load true 2 (.t 87), some (83, true)⟩, ⟨some 89, .callp 87 [(.t 84), (.t 88)], some (83, true)⟩, ⟨some 90, .un .not (.t 89), some (83, true)⟩, ⟨some 91, .pick (.t 83) (.t 90) (.c (.bool false)), none⟩]
def c50_9 : List LOper := [⟨some 92, .mov (.t 7), none⟩, ⟨some 93, .mov (.t 10), none⟩, ⟨some 94, .mov (.t 11), none⟩, ⟨some 95, .iaddr 2 (.t 93) (.t 94), none⟩, ⟨some 96, .load true 2 (.t 95), none⟩, ⟨some 97, .mov (.t 8), none⟩, ⟨some 98, .build [.int .i64 0, .int .i64 0, .int .i64 0] [(0, 2, (.t 96)), (2, 1, (.t 97))], none⟩, ⟨some 99, .bslice 1 3 75 [.int .i64 0, .int .i64 0, .int .i64 0] [(0, 3, (.t 98))], none⟩, ⟨some 100, .app 3 24 75 [.int .i64 0, .int .i64 0, .int .i64 0] (.t 92) (.t 99), none⟩, ⟨some 7, .mov (.t 100), none⟩]
def c50_10 : List LOper := [⟨some 75, .mov (.t 11), none⟩, ⟨some 76, .ibin .add (.t 75) (.c (.int .i64 1)), none⟩, ⟨some 11, .mov (.t 76), none⟩]
def c50_L0 : LC := (.seq (.seq (.reg true c50_7) (.cond (.t 74) .skip (.seq (.trim [3, 5, 7, 8]) (.exit 2)))) (.seq (.blk 3 (.seq (.reg true c50_8) (.cond (.t 91) (.reg false c50_9) .skip))) (.reg false c50_10)))
def c50_12 : List LOper := [⟨some 30, .mov (.t 8), none⟩, ⟨some 31, .ibin .add (.t 30) (.c (.int .i64 1)), none⟩, ⟨some 8, .mov (.t 31), none⟩]
def c50_L1 : LC := (.seq (.seq (.reg true c50_3) (.cond (.t 29) .skip (.seq (.trim [7]) (.exit 0)))) (.seq (.blk 1 (.seq (.reg false c50_4) (.seq (.reg false c50_5) (.seq (.reg false c50_6) (.blk 2 (.loop [3, 5, 7, 8, 10, 11] c50_L0)))))) (.reg false c50_12)))
def c50_14 : List LOper := [⟨some 101, .mov (.t 7), none⟩, ⟨some 6, .mov (.t 101), none⟩]
def lc50 : LC := (.seq (.reg false c50_0) (.seq (.reg false c50_1) (.seq (.seq (.reg false c50_2) (.blk 0 (.loop [3, 5, 7, 8] c50_L1))) (.seq (.reg false c50_14) .ret))))
def lf50 : LFunc := ⟨3, [.tmp 6], true, lc50⟩
def hi50 : Hints := ⟨[], [none, none, none, some [3, 5, 7, 8], none, some [7], none, none, none, none, some [3, 5, 7, 8, 10, 11], none, some [3, 5, 7, 8], none, none, none, none, none, none, none], []⟩
theorem lf50_ok : compF Try.prog hi50 true Try.f50 = some lf50 := by kernel_rfl

/-! additive/comb.ok -/
def c51_0 : List LOper := [⟨some 1, .box (.t 0), none⟩, ⟨some 2, .mov (.c (.bool false)), none⟩]
def c51_1 : List LOper := [⟨some 3, .faddr 0 (.t 1), none⟩, ⟨some 4, .load false 1 (.t 3), none⟩, ⟨some 5, .ibin .geq (.t 4) (.c (.int .i64 (-4096))), none⟩, ⟨some 6, .mov (.t 5), none⟩, ⟨some 7, .faddr 0 (.t 1), some (6, true)⟩, ⟨some 8, .load false 1 (.t 7), some (6, true)⟩, ⟨some 9, .ibin .lss (.t 8) (.c (.int .i64 4096)), some (6, true)⟩, ⟨some 10, .pick (.t 6) (.t 9) (.c (.bool false)), none⟩, ⟨some 11, .mov (.t 10), none⟩, ⟨some 12, .faddr 1 (.t 1), some (11, true)⟩, ⟨some 13, .load false 1 (.t 12), some (11, true)⟩, ⟨some 14, .ibin .geq (.t 13) (.c (.int .i64 (-4096))), some (11, true)⟩, ⟨some 15, .pick (.t 11) (.t 14) (.c (.bool false)), none⟩, ⟨some 16, .mov (.t 15), none⟩, ⟨some 17, .faddr 1 (.t 1), some (16, true)⟩, ⟨some 18, .load false 1 (.t 17), some (16, true)⟩, ⟨some 19, .ibin .lss (.t 18) (.c (.int .i64 4096)), some (16, true)⟩, ⟨some 20, .pick (.t 16) (.t 19) (.c (.bool false)), none⟩, ⟨some 2, .mov (.t 20), none⟩]
def lc51 : LC := (.seq (.reg false c51_0) (.seq (.reg false c51_1) .ret))
def lf51 : LFunc := ⟨1, [.tmp 2], true, lc51⟩
def hi51 : Hints := ⟨[], [none, none, none], []⟩
theorem lf51_ok : compF Try.prog hi51 true Try.f51 = some lf51 := by kernel_rfl

/-! additive/additiveref18.Valid -/
def c54_0 : List LOper := [⟨some 1, .box (.t 0), none⟩, ⟨some 2, .mov (.c (.bool false)), none⟩]
def c54_1 : List LOper := [⟨some 3, .mov (.c (.int .i64 0)), none⟩]
def c54_2 : List LOper := [⟨some 5, .mov (.t 3), none⟩, ⟨some 6, .faddr 0 (.t 1), none⟩, ⟨some 7, .load false 1 (.t 6), none⟩, ⟨some 8, .len (.t 7), none⟩, ⟨some 9, .ibin .lss (.t 5) (.t 8), none⟩]
def c54_3 : List LOper := [⟨some 12, .faddr 0 (.t 1), none⟩, ⟨some 13, .load false 1 (.t 12), none⟩, ⟨some 14, .mov (.t 3), none⟩, ⟨some 15, .iaddr 2 (.t 13) (.t 14), none⟩, ⟨some 16, .faddr 0 (.t 15), none⟩, ⟨some 17, .load false 1 (.t 16), none⟩, ⟨some 4, .mov (.t 17), none⟩]
def c54_4 : List LOper := [⟨some 18, .mov (.t 4), none⟩, ⟨some 19, .ibin .lss (.t 18) (.c (.int .i64 (-4096))), none⟩, ⟨some 20, .mov (.t 19), none⟩, ⟨some 21, .mov (.t 4), some (20, false)⟩, ⟨some 22, .ibin .geq (.t 21) (.c (.int .i64 4096)), some (20, false)⟩, ⟨some 23, .pick (.t 20) (.c (.bool true)) (.t 22), none⟩, ⟨some 24, .mov (.t 23), none⟩, ⟨some 25, .mov (.t 3), some (24, false)⟩, ⟨some 26, .ibin .gtr (.t 25) (.c (.int .i64 0)), some (24, false)⟩, ⟨some 27, .mov (.t 26), some (24, false)⟩, ⟨some 28, .mov (.t 4), some (27, true)⟩, ⟨some 29, .faddr 0 (.t 1), some (27, true)⟩, ⟨some 30, .load false 1 (.t 29), some (27, true)⟩, ⟨some 31, .mov (.t 3), some (27, true)⟩, ⟨some 32, .ibin .sub (.t 31) (.c (.int .i64 1)), some (27, true)⟩, ⟨some 33, .iaddr 2 (.t 30) (.t 32), some (27, true)⟩, ⟨some 34, .faddr 0 (.t 33), some (27, true)⟩, ⟨some 35, .load false 1 (.t 34), some (27, true)⟩, ⟨some 36, .ibin .leq (.t 28) (.t 35), some (27, true)⟩, ⟨some 37, .pick (.t 27) (.t 36) (.c (.bool false)), some (24, false)⟩, ⟨some 38, .pick (.t 24) (.c (.bool true)) (.t 37), none⟩, ⟨some 39, .mov (.t 38), none⟩, ⟨some 40, .faddr 0 (.t 1), some (39, false)⟩, ⟨some 41, .load false 1 (.t 40), some (39, false)⟩, ⟨some 42, .mov (.t 3), some (39, false)⟩, ⟨some 43, .iaddr 2 (.t 41) (.t 42), some (39, false)⟩, ⟨some 44, .faddr 1 (.t 43), some (39, false)⟩, ⟨some 45, .load false 1 (.t 44), some (39, false)⟩, ⟨some 46, .callp 88 [(.t 45)], some (39, false)⟩, ⟨some 47, .un .not (.t 46), some (39, false)⟩, ⟨some 48, .pick (.t 39) (.c (.bool true)) (.t 47), none⟩]
def c54_5 : List LOper := [⟨some 2, .mov (.c (.bool false)), none⟩]
def c54_6 : List LOper := [⟨some 10, .mov (.t 3), none⟩, ⟨some 11, .ibin .add (.t 10) (.c (.int .i64 1)), none⟩, ⟨some 3, .mov (.t 11), none⟩]
def c54_L0 : LC := (.seq (.seq (.reg false c54_2) (.cond (.t 9) .skip (.seq (.trim []) (.exit 0)))) (.seq (.blk 1 (.seq (.reg false c54_3) (.seq (.reg false c54_4) (.cond (.t 48) (.seq (.reg false c54_5) (.seq (.trim [2]) .ret)) .skip)))) (.reg false c54_6)))
def c54_8 : List LOper := [⟨some 2, .mov (.c (.bool true)), none⟩]
def lc54 : LC := (.seq (.reg false c54_0) (.seq (.seq (.reg false c54_1) (.blk 0 (.loop [1, 3] c54_L0))) (.seq (.reg false c54_8) .ret)))
def lf54 : LFunc := ⟨1, [.tmp 2], true, lc54⟩
def hi54 : Hints := ⟨[], [none, none, some [1, 3], none, some [], none, none, none, none, some [2], none, none, none, none], []⟩
theorem lf54_ok : compF Try.prog hi54 true Try.f54 = some lf54 := by kernel_rfl

/-! additive/additiveref18.inside -/
def c55_0 : List LOper := [⟨some 4, .mov (.c (.bool false)), none⟩]
def c55_1 : List LOper := [⟨some 5, .mov (.c (.int .i64 0)), none⟩]
def c55_2 : List LOper := [⟨some 6, .mov (.t 5), none⟩, ⟨some 7, .mov (.t 0), none⟩, ⟨some 8, .len (.t 7), none⟩, ⟨some 9, .ibin .lss (.t 6) (.t 8), none⟩]
def c55_3 : List LOper := [⟨some 12, .mov (.t 0), none⟩, ⟨some 13, .mov (.t 5), none⟩, ⟨some 14, .iaddr 2 (.t 12) (.t 13), none⟩, ⟨some 15, .faddr 0 (.t 14), none⟩, ⟨some 16, .load false 1 (.t 15), none⟩, ⟨some 17, .mov (.t 1), none⟩, ⟨some 18, .ibin .leq (.t 16) (.t 17), none⟩, ⟨some 19, .mov (.t 18), none⟩, ⟨some 20, .mov (.t 1), some (19, true)⟩, ⟨some 21, .mov (.t 0), some (19, true)⟩, ⟨some 22, .mov (.t 5), some (19, true)⟩, ⟨some 23, .iaddr 2 (.t 21) (.t 22), some (19, true)⟩, ⟨some 24, .faddr 1 (.t 23), some (19, true)⟩, ⟨some 25, .load false 1 (.t 24), some (19, true)⟩, ⟨some 26, .ibin .lss (.t 20) (.t 25), some (19, true)⟩, ⟨some 27, .pick (.t 19) (.t 26) (.c (.bool false)), none⟩]
def c55_4 : List LOper := [⟨some 4, .mov (.c (.bool true)), none⟩]
def c55_5 : List LOper := [⟨some 10, .mov (.t 5), none⟩, ⟨some 11, .ibin .add (.t 10) (.c (.int .i64 1)), none⟩, ⟨some 5, .mov (.t 11), none⟩]
def c55_L0 : LC := (.seq (.seq (.reg false c55_2) (.cond (.t 9) .skip (.seq (.trim []) (.exit 0)))) (.seq (.blk 1 (.seq (.reg false c55_3) (.cond (.t 27) (.seq (.reg false c55_4) (.seq (.trim [4]) .ret)) .skip))) (.reg false c55_5)))
def c55_7 : List LOper := [⟨some 4, .mov (.c (.bool false)), none⟩]
def lc55 : LC := (.seq (.reg false c55_0) (.seq (.seq (.reg false c55_1) (.blk 0 (.loop [0, 1, 5] c55_L0))) (.seq (.reg false c55_7) .ret)))
def lf55 : LFunc := ⟨2, [.tmp 4], true, lc55⟩
def hi55 : Hints := ⟨[], [none, none, some [0, 1, 5], none, some [], none, none, none, some [4], none, none, none, none], []⟩
theorem lf55_ok : compF Try.prog hi55 true Try.f55 = some lf55 := by kernel_rfl

/-! additive/additiveref18.Row -/
def c56_0 : List LOper := [⟨some 2, .box (.t 0), none⟩, ⟨some 4, .mov (.c (.nils)), none⟩]
def c56_1 : List LOper := [⟨some 5, .mov (.c (.int .i64 0)), none⟩]
def c56_2 : List LOper := [⟨some 6, .mov (.t 5), none⟩, ⟨some 7, .faddr 0 (.t 2), none⟩, ⟨some 8, .load false 1 (.t 7), none⟩, ⟨some 9, .len (.t 8), none⟩, ⟨some 10, .ibin .lss (.t 6) (.t 9), none⟩]
def c56_3 : List LOper := [⟨some 13, .faddr 0 (.t 2), none⟩, ⟨some 14, .load false 1 (.t 13), none⟩, ⟨some 15, .mov (.t 5), none⟩, ⟨some 16, .iaddr 2 (.t 14) (.t 15), none⟩, ⟨some 17, .faddr 0 (.t 16), none⟩, ⟨some 18, .load false 1 (.t 17), none⟩, ⟨some 19, .mov (.t 1), none⟩, ⟨some 20, .ibin .eql (.t 18) (.t 19), none⟩]
def c56_4 : List LOper := [⟨some 21, .faddr 0 (.t 2), none⟩, ⟨some 22, .load false 1 (.t 21), none⟩, ⟨some 23, .mov (.t 5), none⟩, ⟨some 24, .iaddr 2 (.t 22) (.t 23), none⟩, ⟨some 25, .faddr 1 (.t 24), none⟩, ⟨some 26, .load false 1 (.t 25), none⟩, ⟨some 4, .mov (.t 26), none⟩]
def c56_5 : List LOper := [⟨some 11, .mov (.t 5), none⟩, ⟨some 12, .ibin .add (.t 11) (.c (.int .i64 1)), none⟩, ⟨some 5, .mov (.t 12), none⟩]
def c56_L0 : LC := (.seq (.seq (.reg false c56_2) (.cond (.t 10) .skip (.seq (.trim []) (.exit 0)))) (.seq (.blk 1 (.seq (.reg false c56_3) (.cond (.t 20) (.seq (.reg false c56_4) (.seq (.trim [4]) .ret)) .skip))) (.reg false c56_5)))
def c56_7 : List LOper := [⟨some 4, .mov (.c (.nils)), none⟩]
def lc56 : LC := (.seq (.reg false c56_0) (.seq (.seq (.reg false c56_1) (.blk 0 (.loop [1, 2, 5] c56_L0))) (.seq (.reg false c56_7) .ret)))
def lf56 : LFunc := ⟨2, [.tmp 4], true, lc56⟩
def hi56 : Hints := ⟨[], [none, none, some [1, 2, 5], none, some [], none, none, none, some [4], none, none, none, none], []⟩
theorem lf56_ok : compF Try.prog hi56 true Try.f56 = some lf56 := by kernel_rfl

/-! additive/region.Valid -/
def c57_0 : List LOper := [⟨some 1, .box (.t 0), none⟩, ⟨some 2, .mov (.c (.bool false)), none⟩]
def c57_1 : List LOper := [⟨some 5, .faddr 0 (.t 1), none⟩, ⟨some 6, .load false 1 (.t 5), none⟩, ⟨some 7, .len (.t 6), none⟩, ⟨some 8, .mov (.c (.int .i64 0)), none⟩]
def c57_2 : List LOper := [⟨some 9, .ibin .lss (.t 8) (.t 7), none⟩]
def c57_3 : List LOper := [⟨some 10, .mov (.t 8), none⟩, ⟨some 11, .iaddr 2 (.t 6) (.t 8), none⟩, ⟨some 12, .load true 2 (.t 11), none⟩, ⟨some 4, .alloc [.int .i64 0, .nils], none⟩, ⟨some 3, .mov (.t 10), none⟩, ⟨none, .store 2 (.t 4) (.t 12), none⟩]
def c57_4 : List LOper := [⟨some 13, .faddr 0 (.t 4), none⟩, ⟨some 14, .load false 1 (.t 13), none⟩, ⟨some 15, .callp 89 [(.t 14)], none⟩, ⟨some 16, .un .not (.t 15), none⟩, ⟨some 17, .mov (.t 16), none⟩, ⟨some 18, .mov (.t 3), some (17, false)⟩, ⟨some 19, .ibin .gtr (.t 18) (.c (.int .i64 0)), some (17, false)⟩, ⟨some 20, .mov (.t 19), some (17, false)⟩, ⟨some 21, .faddr 0 (.t 4), some (20, true)⟩, ⟨some 22, .load false 1 (.t 21), some (20, true)⟩, ⟨some 23, .faddr 0 (.t 1), some (20, true)⟩, ⟨some 24, .load false 1 (.t 23), some (20, true)⟩, ⟨some 25, .mov (.t 3), some (20, true)⟩, ⟨some 26, .ibin .sub (.t 25) (.c (.int .i64 1)), some (20, true)⟩, ⟨some 27, .iaddr 2 (.t 24) (.t 26), some (20, true)⟩, ⟨some 28, .faddr 0 (.t 27), some (20, true)⟩, ⟨some 29, .load false 1 (.t 28), some (20, true)⟩, ⟨some 30, .ibin .leq (.t 22) (.t 29), some (20, true)⟩, ⟨some 31, .pick (.t 20) (.t 30) (.c (.bool false)), some (17, false)⟩, ⟨some 32, .pick (.t 17) (.c (.bool true)) (.t 31), none⟩, ⟨some 33, .mov (.t 32), none⟩, ⟨some 34, .faddr 1 (.t 4), some (33, false)⟩, ⟨some 35, .load false 1 (.t 34), some (33, false)⟩, ⟨some 36, .len (.t 35), some (33, false)⟩, ⟨some 37, .ibin .eql (.t 36) (.c (.int .i64 0)), some (33, false)⟩, ⟨some 38, .pick (.t 33) (.c (.bool true)) (.t 37), none⟩, ⟨some 39, .mov (.t 38), none⟩, ⟨some 40, .faddr 1 (.t 4), some (39, false)⟩, ⟨some 41, .load false 1 (.t 40), some (39, false)⟩, ⟨some 42, .callp 90 [(.t 41)], some (39, false)⟩, ⟨some 43, .un .not (.t 42), some (39, false)⟩, ⟨some 44, .pick (.t 39) (.c (.bool true)) (.t 43), none⟩]
def c57_5 : List LOper := [⟨some 2, .mov (.c (.bool false)), none⟩]
def c57_6 : List LOper := [⟨some 45, .faddr 1 (.t 4), none⟩, ⟨some 46, .load false 1 (.t 45), none⟩, ⟨some 47, .iaddr 2 (.t 46) (.c (.int .i64 0)), none⟩, ⟨some 48, .faddr 0 (.t 47), none⟩, ⟨some 49, .load false 1 (.t 48), none⟩, ⟨some 50, .callp 89 [(.t 49)], none⟩, ⟨some 51, .un .not (.t 50), none⟩, ⟨some 52, .mov (.t 51), none⟩, ⟨some 53, .faddr 1 (.t 4), some (52, false)⟩, ⟨some 54, .load false 1 (.t 53), some (52, false)⟩, ⟨some 55, .faddr 1 (.t 4), some (52, false)⟩, ⟨some 56, .load false 1 (.t 55), some (52, false)⟩, ⟨some 57, .len (.t 56), some (52, false)⟩, ⟨some 58, .ibin .sub (.t 57) (.c (.int .i64 1)), some (52, false)⟩, ⟨some 59, .iaddr 2 (.t 54) (.t 58), some (52, false)⟩, ⟨some 60, .faddr 1 (.t 59), some (52, false)⟩, ⟨some 61, .load false 1 (.t 60), some (52, false)⟩, ⟨some 62, .ibin .sub (.t 61) (.c (.int .i64 1)), some (52, false)⟩, ⟨some 63, .callp 89 [(.t 62)], some (52, false)⟩, ⟨some 64, .un .not (.t 63), some (52, false)⟩, ⟨some 65, .pick (.t 52) (.c (.bool true)) (.t 64), none⟩]
def c57_7 : List LOper := [⟨some 2, .mov (.c (.bool false)), none⟩]
def c57_8 : List LOper := [⟨some 66, .ibin .add (.t 8) (.c (.int .i64 1)), none⟩, ⟨some 8, .mov (.t 66), none⟩]
def c57_L0 : LC := (.seq (.reg false c57_2) (.seq (.cond (.t 9) .skip (.seq (.trim []) (.exit 0))) (.seq (.blk 1 (.seq (.reg false c57_3) (.seq (.seq (.reg true c57_4) (.cond (.t 44) (.seq (.reg false c57_5) (.seq (.trim [2]) .ret)) .skip)) (.seq (.reg false c57_6) (.cond (.t 65) (.seq (.reg false c57_7) (.seq (.trim [2]) .ret)) .skip))))) (.reg false c57_8))))
def c57_10 : List LOper := [⟨some 2, .mov (.c (.bool true)), none⟩]
def lc57 : LC := (.seq (.reg false c57_0) (.seq (.seq (.reg false c57_1) (.blk 0 (.loop [1, 6, 7, 8] c57_L0))) (.seq (.reg false c57_10) .ret)))
def lf57 : LFunc := ⟨1, [.tmp 2], true, lc57⟩
def hi57 : Hints := ⟨[], [none, none, some [1, 6, 7, 8], none, some [], none, none, none, none, some [2], none, none, none, some [2], none, none, none, none], []⟩
theorem lf57_ok : compF Try.prog hi57 true Try.f57 = some lf57 := by kernel_rfl

/-! additive/runs.Contains -/
def c58_0 : List LOper := [⟨some 3, .box (.t 1), none⟩, ⟨some 4, .mov (.c (.bool false)), none⟩]
def c58_1 : List LOper := [⟨some 5, .mov (.t 0), none⟩, ⟨some 6, .callp 90 [(.t 5)], none⟩, ⟨some 7, .un .not (.t 6), none⟩]
def c58_2 : List LOper := [⟨some 4, .mov (.c (.bool false)), none⟩]
def c58_3 : List LOper := [⟨some 8, .mov (.t 0), none⟩, ⟨some 9, .mkfn 92 [(.t 3)], none⟩, ⟨some 10, .callq 91 [(.t 8), (.t 9)], none⟩, ⟨some 4, .mov (.t 10), none⟩]
def lc58 : LC := (.seq (.reg false c58_0) (.seq (.seq (.reg false c58_1) (.cond (.t 7) (.seq (.reg false c58_2) .ret) .skip)) (.seq (.reg false c58_3) .ret)))
def lf58 : LFunc := ⟨2, [.tmp 4], true, lc58⟩
def hi58 : Hints := ⟨[(10, .q)], [none, none, none, none, none, none, none], []⟩
theorem lf58_ok : compF Try.prog hi58 true Try.f58 = some lf58 := by kernel_rfl

/-! additive/region.row -/
def c59_0 : List LOper := [⟨some 2, .box (.t 0), none⟩, ⟨some 4, .mov (.c (.nils)), none⟩]
def c59_1 : List LOper := [⟨some 8, .faddr 0 (.t 2), none⟩, ⟨some 9, .load false 1 (.t 8), none⟩, ⟨some 10, .mov (.t 1), none⟩, ⟨some 11, .callq 93 [(.t 9), (.t 10), (.c (.fn 94 []))], none⟩, ⟨some 7, .mov (.t 11), none⟩, ⟨some 12, .ext (.t 7) 0, none⟩, ⟨some 13, .ext (.t 7) 1, none⟩, ⟨some 5, .mov (.t 12), none⟩, ⟨some 6, .mov (.t 13), none⟩]
def c59_2 : List LOper := [⟨some 14, .mov (.t 6), none⟩, ⟨some 15, .un .not (.t 14), none⟩]
def c59_3 : List LOper := [⟨some 4, .mov (.c (.nils)), none⟩]
def c59_4 : List LOper := [⟨some 16, .faddr 0 (.t 2), none⟩, ⟨some 17, .load false 1 (.t 16), none⟩, ⟨some 18, .mov (.t 5), none⟩, ⟨some 19, .iaddr 2 (.t 17) (.t 18), none⟩, ⟨some 20, .faddr 1 (.t 19), none⟩, ⟨some 21, .load false 1 (.t 20), none⟩, ⟨some 4, .mov (.t 21), none⟩]
def lc59 : LC := (.seq (.reg false c59_0) (.seq (.reg false c59_1) (.seq (.seq (.reg false c59_2) (.cond (.t 15) (.seq (.reg false c59_3) .ret) .skip)) (.seq (.reg false c59_4) .ret))))
def lf59 : LFunc := ⟨2, [.tmp 4], true, lc59⟩
def hi59 : Hints := ⟨[(11, .q)], [none, none, none, none, none, none, none, none], []⟩
theorem lf59_ok : compF Try.prog hi59 true Try.f59 = some lf59 := by kernel_rfl

/-! additive/additiveref34.found -/
def c87_0 : List LOper := [⟨some 3, .box (.t 1), none⟩, ⟨some 4, .mov (.c (.bool false)), none⟩]
def c87_1 : List LOper := [⟨some 5, .mov (.c (.int .i64 0)), none⟩]
def c87_2 : List LOper := [⟨some 6, .mov (.t 5), none⟩, ⟨some 7, .mov (.t 0), none⟩, ⟨some 8, .len (.t 7), none⟩, ⟨some 9, .ibin .lss (.t 6) (.t 8), none⟩]
def c87_3 : List LOper := [⟨some 12, .mov (.t 0), none⟩, ⟨some 13, .mov (.t 5), none⟩, ⟨some 14, .iaddr 3 (.t 12) (.t 13), none⟩, ⟨some 15, .faddr 0 (.t 14), none⟩, ⟨some 16, .load true 2 (.t 15), none⟩, ⟨some 17, .load true 2 (.t 3), none⟩, ⟨some 18, .eqv false true [false, false] (.t 16) (.t 17), none⟩]
def c87_4 : List LOper := [⟨some 4, .mov (.c (.bool true)), none⟩]
def c87_5 : List LOper := [⟨some 10, .mov (.t 5), none⟩, ⟨some 11, .ibin .add (.t 10) (.c (.int .i64 1)), none⟩, ⟨some 5, .mov (.t 11), none⟩]
def c87_L0 : LC := (.seq (.seq (.reg false c87_2) (.cond (.t 9) .skip (.seq (.trim []) (.exit 0)))) (.seq (.blk 1 (.seq (.reg true c87_3) (.cond (.t 18) (.seq (.reg false c87_4) (.seq (.trim [4]) .ret)) .skip))) (.reg false c87_5)))
def c87_7 : List LOper := [⟨some 4, .mov (.c (.bool false)), none⟩]
def lc87 : LC := (.seq (.reg false c87_0) (.seq (.seq (.reg false c87_1) (.blk 0 (.loop [0, 3, 5] c87_L0))) (.seq (.reg false c87_7) .ret)))
def lf87 : LFunc := ⟨2, [.tmp 4], true, lc87⟩
def hi87 : Hints := ⟨[], [none, none, some [0, 3, 5], none, some [], none, none, none, some [4], none, none, none, none], []⟩
theorem lf87_ok : compF Try.prog hi87 true Try.f87 = some lf87 := by kernel_rfl

/-! additive/additiveref18.fine -/
def c88_0 : List LOper := [⟨some 2, .mov (.c (.bool false)), none⟩]
def c88_1 : List LOper := [⟨some 3, .mov (.c (.int .i64 0)), none⟩]
def c88_2 : List LOper := [⟨some 4, .mov (.t 3), none⟩, ⟨some 5, .mov (.t 0), none⟩, ⟨some 6, .len (.t 5), none⟩, ⟨some 7, .ibin .lss (.t 4) (.t 6), none⟩]
def c88_3 : List LOper := [⟨some 10, .mov (.t 0), none⟩, ⟨some 11, .mov (.t 3), none⟩, ⟨some 12, .iaddr 2 (.t 10) (.t 11), none⟩, ⟨some 13, .faddr 0 (.t 12), none⟩, ⟨some 14, .load false 1 (.t 13), none⟩, ⟨some 15, .ibin .lss (.t 14) (.c (.int .i64 (-4096))), none⟩, ⟨some 16, .mov (.t 15), none⟩, ⟨some 17, .mov (.t 0), some (16, false)⟩, ⟨some 18, .mov (.t 3), some (16, false)⟩, ⟨some 19, .iaddr 2 (.t 17) (.t 18), some (16, false)⟩, ⟨some 20, .faddr 0 (.t 19), some (16, false)⟩, ⟨some 21, .load false 1 (.t 20), some (16, false)⟩, ⟨some 22, .mov (.t 0), some (16, false)⟩, ⟨some 23, .mov (.t 3), some (16, false)⟩, ⟨some 24, .iaddr 2 (.t 22) (.t 23), some (16, false)⟩, ⟨some 25, .faddr 1 (.t 24), some (16, false)⟩, ⟨some 26, .load false 1 (.t 25), some (16, false)⟩, ⟨some 27, .ibin .geq (.t 21) (.t 26), some (16, false)⟩, ⟨some 28, .pick (.t 16) (.c (.bool true)) (.t 27), none⟩, ⟨some 29, .mov (.t 28), none⟩, ⟨some 30, .mov (.t 0), some (29, false)⟩, ⟨some 31, .mov (.t 3), some (29, false)⟩, ⟨some 32, .iaddr 2 (.t 30) (.t 31), some (29, false)⟩, ⟨some 33, .faddr 1 (.t 32), some (29, false)⟩, ⟨some 34, .load false 1 (.t 33), some (29, false)⟩, ⟨some 35, .ibin .gtr (.t 34) (.c (.int .i64 4096)), some (29, false)⟩, ⟨some 36, .pick (.t 29) (.c (.bool true)) (.t 35), none⟩, ⟨some 37, .mov (.t 36), none⟩, ⟨some 38, .mov (.t 3), some (37, false)⟩, ⟨some 39, .ibin .gtr (.t 38) (.c (.int .i64 0)), some (37, false)⟩, ⟨some 40, .mov (.t 39), some (37, false)⟩, ⟨some 41, .mov (.t 0), some (40, true)⟩, ⟨some 42, .mov (.t 3), some (40, true)⟩, ⟨some 43, .iaddr 2 (.t 41) (.t 42), some (40, true)⟩, ⟨some 44, .faddr 0 (.t 43), some (40, true)⟩, ⟨some 45, .load false 1 (.t 44), some (40, true)⟩, ⟨some 46, .mov (.t 0), some (40, true)⟩, ⟨some 47, .mov (.t 3), some (40, true)⟩, ⟨some 48, .ibin .sub (.t 47) (.c (.int .i64 1)), some (40, true)⟩, ⟨some 49, .iaddr 2 (.t 46) (.t 48), some (40, true)⟩, ⟨some 50, .faddr 1 (.t 49), some (40, true)⟩, ⟨some 51, .load false 1 (.t 50), some (40, true)⟩, ⟨some 52, .ibin .leq (.t 45) (.t 51), some (40, true)⟩, ⟨some 53, .pick (.t 40) (.t 52) (.c (.bool false)), some (37, false)⟩, ⟨some 54, .pick (.t 37) (.c (.bool true)) (.t 53), none⟩]
def c88_4 : List LOper := [⟨some 2, .mov (.c (.bool false)), none⟩]
def c88_5 : List LOper := [⟨some 8, .mov (.t 3), none⟩, ⟨some 9, .ibin .add (.t 8) (.c (.int .i64 1)), none⟩, ⟨some 3, .mov (.t 9), none⟩]
def c88_L0 : LC := (.seq (.seq (.reg false c88_2) (.cond (.t 7) .skip (.seq (.trim [0]) (.exit 0)))) (.seq (.blk 1 (.seq (.reg true c88_3) (.cond (.t 54) (.seq (.reg false c88_4) (.seq (.trim [2]) .ret)) .skip))) (.reg false c88_5)))
def c88_7 : List LOper := [⟨some 55, .mov (.t 0), none⟩, ⟨some 56, .len (.t 55), none⟩, ⟨some 57, .ibin .gtr (.t 56) (.c (.int .i64 0)), none⟩, ⟨some 2, .mov (.t 57), none⟩]
def lc88 : LC := (.seq (.reg false c88_0) (.seq (.seq (.reg false c88_1) (.blk 0 (.loop [0, 3] c88_L0))) (.seq (.reg false c88_7) .ret)))
def lf88 : LFunc := ⟨1, [.tmp 2], true, lc88⟩
def hi88 : Hints := ⟨[], [none, none, some [0, 3], none, some [0], none, none, none, some [2], none, none, none, none], []⟩
theorem lf88_ok : compF Try.prog hi88 true Try.f88 = some lf88 := by kernel_rfl

/-! additive/region.ok -/
def c89_0 : List LOper := [⟨some 2, .mov (.c (.bool false)), none⟩]
def c89_1 : List LOper := [⟨some 3, .mov (.t 0), none⟩, ⟨some 4, .ibin .geq (.t 3) (.c (.int .i64 (-4096))), none⟩, ⟨some 5, .mov (.t 4), none⟩, ⟨some 6, .mov (.t 0), some (5, true)⟩, ⟨some 7, .ibin .lss (.t 6) (.c (.int .i64 4096)), some (5, true)⟩, ⟨some 8, .pick (.t 5) (.t 7) (.c (.bool false)), none⟩, ⟨some 2, .mov (.t 8), none⟩]
def lc89 : LC := (.seq (.reg false c89_0) (.seq (.reg false c89_1) .ret))
def lf89 : LFunc := ⟨1, [.tmp 2], true, lc89⟩
def hi89 : Hints := ⟨[], [none, none, none], []⟩
theorem lf89_ok : compF Try.prog hi89 true Try.f89 = some lf89 := by kernel_rfl

/-! additive/runs.Valid -/
def c90_0 : List LOper := [⟨some 2, .mov (.c (.bool false)), none⟩]
def c90_1 : List LOper := [⟨some 5, .mov (.t 0), none⟩, ⟨some 6, .len (.t 5), none⟩, ⟨some 7, .mov (.c (.int .i64 0)), none⟩]
def c90_2 : List LOper := [⟨some 8, .ibin .lss (.t 7) (.t 6), none⟩]
def c90_3 : List LOper := [⟨some 9, .mov (.t 7), none⟩, ⟨some 10, .iaddr 2 (.t 5) (.t 7), none⟩, ⟨some 11, .load true 2 (.t 10), none⟩, ⟨some 4, .alloc [.int .i64 0, .int .i64 0], none⟩, ⟨some 3, .mov (.t 9), none⟩, ⟨none, .store 2 (.t 4) (.t 11), none⟩]
def c90_4 : List LOper := [⟨some 12, .faddr 0 (.t 4), none⟩, ⟨some 13, .load false 1 (.t 12), none⟩, ⟨some 14, .faddr 1 (.t 4), none⟩, ⟨some 15, .load false 1 (.t 14), none⟩, ⟨some 16, .ibin .geq (.t 13) (.t 15), none⟩, ⟨some 17, .mov (.t 16), none⟩, ⟨some 18, .load true 2 (.t 4), some (17, false)⟩, ⟨some 19, .callp 112 [(.t 18)], some (17, false)⟩, ⟨some 20, .un .not (.t 19), some (17, false)⟩, ⟨some 21, .pick (.t 17) (.c (.bool true)) (.t 20), none⟩, ⟨some 22, .mov (.t 21), none⟩, ⟨some 23, .mov (.t 3), some (22, false)⟩, ⟨some 24, .ibin .gtr (.t 23) (.c (.int .i64 0)), some (22, false)⟩, ⟨some 25, .mov (.t 24), some (22, false)⟩, ⟨some 26, .faddr 0 (.t 4), some (25, true)⟩, ⟨some 27, .load false 1 (.t 26), some (25, true)⟩, ⟨some 28, .mov (.t 0), some (25, true)⟩, ⟨some 29, .mov (.t 3), some (25, true)⟩, ⟨some 30, .ibin .sub (.t 29) (.c (.int .i64 1)), some (25, true)⟩, ⟨some 31, .iaddr 2 (.t 28) (.t 30), some (25, true)⟩, ⟨some 32, .faddr 1 (.t 31), some (25, true)⟩, ⟨some 33, .load false 1 (.t 32), some (25, true)⟩, ⟨some 34, .ibin .leq (.t 27) (.t 33), some (25, true)⟩, ⟨some 35, .pick (.t 25) (.t 34) (.c (.bool false)), some (22, false)⟩, ⟨some 36, .pick (.t 22) (.c (.bool true)) (.t 35), none⟩]
def c90_5 : List LOper := [⟨some 2, .mov (.c (.bool false)), none⟩]
def c90_6 : List LOper := [⟨some 37, .ibin .add (.t 7) (.c (.int .i64 1)), none⟩, ⟨some 7, .mov (.t 37), none⟩]
def c90_L0 : LC := (.seq (.reg false c90_2) (.seq (.cond (.t 8) .skip (.seq (.trim []) (.exit 0))) (.seq (.blk 1 (.seq (.reg false c90_3) (.seq (.reg true c90_4) (.cond (.t 36) (.seq (.reg false c90_5) (.seq (.trim [2]) .ret)) .skip)))) (.reg false c90_6))))
def c90_8 : List LOper := [⟨some 2, .mov (.c (.bool true)), none⟩]
def lc90 : LC := (.seq (.reg false c90_0) (.seq (.seq (.reg false c90_1) (.blk 0 (.loop [0, 5, 6, 7] c90_L0))) (.seq (.reg false c90_8) .ret)))
def lf90 : LFunc := ⟨1, [.tmp 2], true, lc90⟩
def hi90 : Hints := ⟨[], [none, none, some [0, 5, 6, 7], none, some [], none, none, none, none, some [2], none, none, none, none], []⟩
theorem lf90_ok : compF Try.prog hi90 true Try.f90 = some lf90 := by kernel_rfl

/-! slices.ContainsFunc[[]additive/api.Run,additive/api.Run] -/
def c91_0 : List LOper := [⟨some 4, .mov (.c (.bool false)), none⟩]
def c91_1 : List LOper := [⟨some 5, .mov (.t 0), none⟩, ⟨some 6, .mov (.t 1), none⟩, ⟨some 7, .callq 113 [(.t 5), (.t 6)], none⟩, ⟨some 8, .ibin .geq (.t 7) (.c (.int .i64 0)), none⟩, ⟨some 4, .mov (.t 8), none⟩]
def lc91 : LC := (.seq (.reg false c91_0) (.seq (.reg false c91_1) .ret))
def lf91 : LFunc := ⟨2, [.tmp 4], true, lc91⟩
def hi91 : Hints := ⟨[(7, .q)], [none, none, none], []⟩
theorem lf91_ok : compF Try.prog hi91 true Try.f91 = some lf91 := by kernel_rfl

/-! additive/runs.Contains$1 -/
def c92_0 : List LOper := [⟨some 2, .box (.t 0), none⟩, ⟨some 3, .mov (.c (.bool false)), none⟩]
def c92_1 : List LOper := [⟨some 4, .faddr 0 (.t 2), none⟩, ⟨some 5, .load false 1 (.t 4), none⟩, ⟨some 6, .load false 1 (.t 1), none⟩, ⟨some 7, .ibin .leq (.t 5) (.t 6), none⟩, ⟨some 8, .mov (.t 7), none⟩, ⟨some 9, .load false 1 (.t 1), some (8, true)⟩, ⟨some 10, .faddr 1 (.t 2), some (8, true)⟩, ⟨some 11, .load false 1 (.t 10), some (8, true)⟩, ⟨some 12, .ibin .lss (.t 9) (.t 11), some (8, true)⟩, ⟨some 13, .pick (.t 8) (.t 12) (.c (.bool false)), none⟩, ⟨some 3, .mov (.t 13), none⟩]
def lc92 : LC := (.seq (.reg false c92_0) (.seq (.reg false c92_1) .ret))
def lf92 : LFunc := ⟨2, [.tmp 3], true, lc92⟩
def hi92 : Hints := ⟨[], [none, none, none], []⟩
theorem lf92_ok : compF Try.prog hi92 true Try.f92 = some lf92 := by kernel_rfl

/-! slices.BinarySearchFunc[[]additive/api.Row,additive/api.Row,int] -/
def c93_0 : List LOper := [⟨some 6, .mov (.c (.int .i64 0)), none⟩, ⟨some 7, .mov (.c (.bool false)), none⟩]
def c93_1 : List LOper := [⟨some 12, .mov (.t 0), none⟩, ⟨some 13, .len (.t 12), none⟩, ⟨some 8, .mov (.t 13), none⟩]
def c93_2 : List LOper := [⟨some 14, .mov (.t 8), none⟩, ⟨some 9, .mov (.c (.int .i64 0)), none⟩, ⟨some 10, .mov (.t 14), none⟩]
def c93_3 : List LOper := [⟨some 15, .mov (.t 9), none⟩, ⟨some 16, .mov (.t 10), none⟩, ⟨some 17, .ibin .lss (.t 15) (.t 16), none⟩]
def c93_4 : List LOper := [⟨some 18, .mov (.t 9), none⟩, ⟨some 19, .mov (.t 10), none⟩, ⟨some 20, .ibin .add (.t 18) (.t 19), none⟩, ⟨some 21, .conv .u64 (.t 20), none⟩, ⟨some 22, .shf .shr (.t 21) (.c (.int .u64 1)), none⟩, ⟨some 23, .conv .i64 (.t 22), none⟩, ⟨some 11, .mov (.t 23), none⟩]
def c93_5 : List LOper := [⟨some 24, .mov (.t 2), none⟩, ⟨some 25, .mov (.t 0), none⟩, ⟨some 26, .mov (.t 11), none⟩, ⟨some 27, .iaddr 2 (.t 25) (.t 26), none⟩, ⟨some 28, .load true 2 (.t 27), none⟩, ⟨some 29, .mov (.t 1), none⟩, ⟨some 30, .callv (.t 24) [(.t 28), (.t 29)], none⟩, ⟨some 31, .ibin .lss (.t 30) (.c (.int .i64 0)), none⟩]
def c93_6 : List LOper := [⟨some 32, .mov (.t 11), none⟩, ⟨some 33, .ibin .add (.t 32) (.c (.int .i64 1)), none⟩, ⟨some 9, .mov (.t 33), none⟩]
def c93_7 : List LOper := [⟨some 34, .mov (.t 11), none⟩, ⟨some 10, .mov (.t 34), none⟩]
def c93_L0 : LC := (.seq (.seq (.reg false c93_3) (.cond (.t 17) .skip (.seq (.trim [0, 1, 2, 8, 9]) (.exit 0)))) (.blk 1 (.seq (.reg false c93_4) (.seq (.reg false c93_5) (.cond (.t 31) (.reg false c93_6) (.reg false c93_7))))))
def c93_9 : List LOper := [⟨some 35, .mov (.t 9), none⟩, ⟨some 36, .mov (.t 9), none⟩, ⟨some 37, .mov (.t 8), none⟩, ⟨some 38, .ibin .lss (.t 36) (.t 37), none⟩, ⟨some 39, .mov (.t 38), none⟩, ⟨some 40, .mov (.t 2), some (39, true)⟩, ⟨some 41, .mov (.t 0), some (39, true)⟩, ⟨some 42, .mov (.t 9), some (39, true)⟩, ⟨some 43, .iaddr 2 (.t 41) (.t 42), some (39, true)⟩, ⟨some 44, .load true 2 (.t 43), some (39, true)⟩, ⟨some 45, .mov (.t 1), some (39, true)⟩, ⟨some 46, .callv (.t 40) [(.t 44), (.t 45)], some (39, true)⟩, ⟨some 47, .ibin .eql (.t 46) (.c (.int .i64 0)), some (39, true)⟩, ⟨some 48, .pick (.t 39) (.t 47) (.c (.bool false)), none⟩, ⟨some 6, .mov (.t 35), none⟩, ⟨some 7, .mov (.t 48), none⟩]
def lc93 : LC := (.seq (.reg false c93_0) (.seq (.reg false c93_1) (.seq (.reg false c93_2) (.seq (.blk 0 (.loop [0, 1, 2, 8, 9, 10] c93_L0)) (.seq (.reg false c93_9) .ret)))))
def lf93 : LFunc := ⟨3, [.tmp 6, .tmp 7], true, lc93⟩
def hi93 : Hints := ⟨[], [none, none, none, some [0, 1, 2, 8, 9, 10], none, some [0, 1, 2, 8, 9], none, none, none, none, none, none], []⟩
theorem lf93_ok : compF Try.prog hi93 true Try.f93 = some lf93 := by kernel_rfl

/-! additive/region.row$1 -/
def c94_0 : List LOper := [⟨some 2, .box (.t 0), none⟩, ⟨some 4, .mov (.c (.int .i64 0)), none⟩]
def c94_1 : List LOper := [⟨some 5, .faddr 0 (.t 2), none⟩, ⟨some 6, .load false 1 (.t 5), none⟩, ⟨some 7, .mov (.t 1), none⟩, ⟨some 8, .callp 95 [(.t 6), (.t 7)], none⟩, ⟨some 4, .mov (.t 8), none⟩]
def lc94 : LC := (.seq (.reg false c94_0) (.seq (.reg false c94_1) .ret))
def lf94 : LFunc := ⟨2, [.tmp 4], true, lc94⟩
def hi94 : Hints := ⟨[], [none, none, none], []⟩
theorem lf94_ok : compF Try.prog hi94 true Try.f94 = some lf94 := by kernel_rfl

/-! cmp.Compare[int] -/
def c95_0 : List LOper := [⟨some 4, .mov (.c (.int .i64 0)), none⟩]
def c95_1 : List LOper := [⟨some 7, .mov (.t 0), none⟩, ⟨some 8, .callp 114 [(.t 7)], none⟩, ⟨some 5, .mov (.t 8), none⟩]
def c95_2 : List LOper := [⟨some 9, .mov (.t 1), none⟩, ⟨some 10, .callp 114 [(.t 9)], none⟩, ⟨some 6, .mov (.t 10), none⟩]
def c95_3 : List LOper := [⟨some 11, .mov (.t 5), none⟩]
def c95_4 : List LOper := [⟨some 12, .mov (.t 6), none⟩]
def c95_5 : List LOper := [⟨some 4, .mov (.c (.int .i64 0)), none⟩]
def c95_6 : List LOper := [⟨some 4, .mov (.c (.int .i64 (-1))), none⟩]
def c95_7 : List LOper := [⟨some 13, .mov (.t 6), none⟩]
def c95_8 : List LOper := [⟨some 4, .mov (.c (.int .i64 1)), none⟩]
def c95_9 : List LOper := [⟨some 14, .mov (.t 0), none⟩, ⟨some 15, .mov (.t 1), none⟩, ⟨some 16, .ibin .lss (.t 14) (.t 15), none⟩]
def c95_10 : List LOper := [⟨some 4, .mov (.c (.int .i64 (-1))), none⟩]
def c95_11 : List LOper := [⟨some 17, .mov (.t 0), none⟩, ⟨some 18, .mov (.t 1), none⟩, ⟨some 19, .ibin .gtr (.t 17) (.t 18), none⟩]
def c95_12 : List LOper := [⟨some 4, .mov (.c (.int .i64 1)), none⟩]
def c95_13 : List LOper := [⟨some 4, .mov (.c (.int .i64 0)), none⟩]
def lc95 : LC := (.seq (.reg false c95_0) (.seq (.reg false c95_1) (.seq (.reg false c95_2) (.seq (.seq (.reg false c95_3) (.cond (.t 11) (.seq (.seq (.reg false c95_4) (.cond (.t 12) (.seq (.reg false c95_5) .ret) .skip)) (.seq (.reg false c95_6) .ret)) .skip)) (.seq (.seq (.reg false c95_7) (.cond (.t 13) (.seq (.reg false c95_8) .ret) .skip)) (.seq (.seq (.reg false c95_9) (.cond (.t 16) (.seq (.reg false c95_10) .ret) .skip)) (.seq (.seq (.reg false c95_11) (.cond (.t 19) (.seq (.reg false c95_12) .ret) .skip)) (.seq (.reg false c95_13) .ret))))))))
def lf95 : LFunc := ⟨2, [.tmp 4], true, lc95⟩
def hi95 : Hints := ⟨[], [none, none, none, none, none, none, none, none, none, none, none, none, none, none, none, none, none, none, none, none, none, none, none, none, none], []⟩
theorem lf95_ok : compF Try.prog hi95 true Try.f95 = some lf95 := by kernel_rfl

/-! additive/runs.fits -/
def c112_0 : List LOper := [⟨some 1, .box (.t 0), none⟩, ⟨some 2, .mov (.c (.bool false)), none⟩]
def c112_1 : List LOper := [⟨some 3, .faddr 0 (.t 1), none⟩, ⟨some 4, .load false 1 (.t 3), none⟩, ⟨some 5, .ibin .geq (.t 4) (.c (.int .i64 (-1048576))), none⟩, ⟨some 6, .mov (.t 5), none⟩, ⟨some 7, .faddr 0 (.t 1), some (6, true)⟩, ⟨some 8, .load false 1 (.t 7), some (6, true)⟩, ⟨some 9, .ibin .leq (.t 8) (.c (.int .i64 1048576)), some (6, true)⟩, ⟨some 10, .pick (.t 6) (.t 9) (.c (.bool false)), none⟩, ⟨some 11, .mov (.t 10), none⟩, ⟨some 12, .faddr 1 (.t 1), some (11, true)⟩, ⟨some 13, .load false 1 (.t 12), some (11, true)⟩, ⟨some 14, .ibin .geq (.t 13) (.c (.int .i64 (-1048576))), some (11, true)⟩, ⟨some 15, .pick (.t 11) (.t 14) (.c (.bool false)), none⟩, ⟨some 16, .mov (.t 15), none⟩, ⟨some 17, .faddr 1 (.t 1), some (16, true)⟩, ⟨some 18, .load false 1 (.t 17), some (16, true)⟩, ⟨some 19, .ibin .leq (.t 18) (.c (.int .i64 1048576)), some (16, true)⟩, ⟨some 20, .pick (.t 16) (.t 19) (.c (.bool false)), none⟩, ⟨some 2, .mov (.t 20), none⟩]
def lc112 : LC := (.seq (.reg false c112_0) (.seq (.reg false c112_1) .ret))
def lf112 : LFunc := ⟨1, [.tmp 2], true, lc112⟩
def hi112 : Hints := ⟨[], [none, none, none], []⟩
theorem lf112_ok : compF Try.prog hi112 true Try.f112 = some lf112 := by kernel_rfl

/-! slices.IndexFunc[[]additive/api.Run,additive/api.Run] -/
def c113_0 : List LOper := [⟨some 4, .mov (.c (.int .i64 0)), none⟩]
def c113_1 : List LOper := [⟨some 6, .mov (.t 0), none⟩, ⟨some 7, .len (.t 6), none⟩, ⟨some 8, .mov (.c (.int .i64 0)), none⟩]
def c113_2 : List LOper := [⟨some 9, .ibin .lss (.t 8) (.t 7), none⟩]
def c113_3 : List LOper := [⟨some 10, .mov (.t 8), none⟩, ⟨some 5, .mov (.t 10), none⟩]
def c113_4 : List LOper := [⟨some 11, .mov (.t 1), none⟩, ⟨some 12, .mov (.t 0), none⟩, ⟨some 13, .mov (.t 5), none⟩, ⟨some 14, .iaddr 2 (.t 12) (.t 13), none⟩, ⟨some 15, .load true 2 (.t 14), none⟩, ⟨some 16, .callv (.t 11) [(.t 15)], none⟩]
def c113_5 : List LOper := [⟨some 17, .mov (.t 5), none⟩, ⟨some 4, .mov (.t 17), none⟩]
def c113_6 : List LOper := [⟨some 18, .ibin .add (.t 8) (.c (.int .i64 1)), none⟩, ⟨some 8, .mov (.t 18), none⟩]
def c113_L0 : LC := (.seq (.reg false c113_2) (.seq (.cond (.t 9) .skip (.seq (.trim []) (.exit 0))) (.seq (.blk 1 (.seq (.reg false c113_3) (.seq (.reg false c113_4) (.cond (.t 16) (.seq (.reg false c113_5) (.seq (.trim [4]) .ret)) .skip)))) (.reg false c113_6))))
def c113_8 : List LOper := [⟨some 4, .mov (.c (.int .i64 (-1))), none⟩]
def lc113 : LC := (.seq (.reg false c113_0) (.seq (.seq (.reg false c113_1) (.blk 0 (.loop [0, 1, 7, 8] c113_L0))) (.seq (.reg false c113_8) .ret)))
def lf113 : LFunc := ⟨2, [.tmp 4], true, lc113⟩
def hi113 : Hints := ⟨[], [none, none, some [0, 1, 7, 8], none, some [], none, none, none, none, some [4], none, none, none, none], []⟩
theorem lf113_ok : compF Try.prog hi113 true Try.f113 = some lf113 := by kernel_rfl

/-! cmp.isNaN[int] -/
def c114_0 : List LOper := [⟨some 2, .mov (.c (.bool false)), none⟩]
def c114_1 : List LOper := [⟨some 3, .mov (.t 0), none⟩, ⟨some 4, .mov (.t 0), none⟩, ⟨some 5, .ibin .neq (.t 3) (.t 4), none⟩, ⟨some 2, .mov (.t 5), none⟩]
def lc114 : LC := (.seq (.reg false c114_0) (.seq (.reg false c114_1) .ret))
def lf114 : LFunc := ⟨1, [.tmp 2], true, lc114⟩
def hi114 : Hints := ⟨[], [none, none, none], []⟩
theorem lf114_ok : compF Try.prog hi114 true Try.f114 = some lf114 := by kernel_rfl

def env : Env where
  code := fun f => match f with
    | 3 => some lf3
    | 5 => some lf5
    | 6 => some lf6
    | 16 => some lf16
    | 17 => some lf17
    | 18 => some lf18
    | 19 => some lf19
    | 20 => some lf20
    | 21 => some lf21
    | 22 => some lf22
    | 23 => some lf23
    | 25 => some lf25
    | 26 => some lf26
    | 27 => some lf27
    | 28 => some lf28
    | 29 => some lf29
    | 46 => some lf46
    | 47 => some lf47
    | 48 => some lf48
    | 49 => some lf49
    | 50 => some lf50
    | 51 => some lf51
    | 54 => some lf54
    | 55 => some lf55
    | 56 => some lf56
    | 57 => some lf57
    | 58 => some lf58
    | 59 => some lf59
    | 87 => some lf87
    | 88 => some lf88
    | 89 => some lf89
    | 90 => some lf90
    | 91 => some lf91
    | 92 => some lf92
    | 93 => some lf93
    | 94 => some lf94
    | 95 => some lf95
    | 112 => some lf112
    | 113 => some lf113
    | 114 => some lf114
    | _ => none
  ext := fun _ _ _ => none
theorem env_ok : EnvOK Try.prog env where
  mixed := by kernel_rfl
  code := fun f lf h => by
    simp only [env] at h
    split at h
    · injection h with h; subst h; exact ⟨Try.f3, hi3, Try.func3, lf3_ok⟩
    · injection h with h; subst h; exact ⟨Try.f5, hi5, Try.func5, lf5_ok⟩
    · injection h with h; subst h; exact ⟨Try.f6, hi6, Try.func6, lf6_ok⟩
    · injection h with h; subst h; exact ⟨Try.f16, hi16, Try.func16, lf16_ok⟩
    · injection h with h; subst h; exact ⟨Try.f17, hi17, Try.func17, lf17_ok⟩
    · injection h with h; subst h; exact ⟨Try.f18, hi18, Try.func18, lf18_ok⟩
    · injection h with h; subst h; exact ⟨Try.f19, hi19, Try.func19, lf19_ok⟩
    · injection h with h; subst h; exact ⟨Try.f20, hi20, Try.func20, lf20_ok⟩
    · injection h with h; subst h; exact ⟨Try.f21, hi21, Try.func21, lf21_ok⟩
    · injection h with h; subst h; exact ⟨Try.f22, hi22, Try.func22, lf22_ok⟩
    · injection h with h; subst h; exact ⟨Try.f23, hi23, Try.func23, lf23_ok⟩
    · injection h with h; subst h; exact ⟨Try.f25, hi25, Try.func25, lf25_ok⟩
    · injection h with h; subst h; exact ⟨Try.f26, hi26, Try.func26, lf26_ok⟩
    · injection h with h; subst h; exact ⟨Try.f27, hi27, Try.func27, lf27_ok⟩
    · injection h with h; subst h; exact ⟨Try.f28, hi28, Try.func28, lf28_ok⟩
    · injection h with h; subst h; exact ⟨Try.f29, hi29, Try.func29, lf29_ok⟩
    · injection h with h; subst h; exact ⟨Try.f46, hi46, Try.func46, lf46_ok⟩
    · injection h with h; subst h; exact ⟨Try.f47, hi47, Try.func47, lf47_ok⟩
    · injection h with h; subst h; exact ⟨Try.f48, hi48, Try.func48, lf48_ok⟩
    · injection h with h; subst h; exact ⟨Try.f49, hi49, Try.func49, lf49_ok⟩
    · injection h with h; subst h; exact ⟨Try.f50, hi50, Try.func50, lf50_ok⟩
    · injection h with h; subst h; exact ⟨Try.f51, hi51, Try.func51, lf51_ok⟩
    · injection h with h; subst h; exact ⟨Try.f54, hi54, Try.func54, lf54_ok⟩
    · injection h with h; subst h; exact ⟨Try.f55, hi55, Try.func55, lf55_ok⟩
    · injection h with h; subst h; exact ⟨Try.f56, hi56, Try.func56, lf56_ok⟩
    · injection h with h; subst h; exact ⟨Try.f57, hi57, Try.func57, lf57_ok⟩
    · injection h with h; subst h; exact ⟨Try.f58, hi58, Try.func58, lf58_ok⟩
    · injection h with h; subst h; exact ⟨Try.f59, hi59, Try.func59, lf59_ok⟩
    · injection h with h; subst h; exact ⟨Try.f87, hi87, Try.func87, lf87_ok⟩
    · injection h with h; subst h; exact ⟨Try.f88, hi88, Try.func88, lf88_ok⟩
    · injection h with h; subst h; exact ⟨Try.f89, hi89, Try.func89, lf89_ok⟩
    · injection h with h; subst h; exact ⟨Try.f90, hi90, Try.func90, lf90_ok⟩
    · injection h with h; subst h; exact ⟨Try.f91, hi91, Try.func91, lf91_ok⟩
    · injection h with h; subst h; exact ⟨Try.f92, hi92, Try.func92, lf92_ok⟩
    · injection h with h; subst h; exact ⟨Try.f93, hi93, Try.func93, lf93_ok⟩
    · injection h with h; subst h; exact ⟨Try.f94, hi94, Try.func94, lf94_ok⟩
    · injection h with h; subst h; exact ⟨Try.f95, hi95, Try.func95, lf95_ok⟩
    · injection h with h; subst h; exact ⟨Try.f112, hi112, Try.func112, lf112_ok⟩
    · injection h with h; subst h; exact ⟨Try.f113, hi113, Try.func113, lf113_ok⟩
    · injection h with h; subst h; exact ⟨Try.f114, hi114, Try.func114, lf114_ok⟩
    · cases h
  ext := ⟨fun _ _ _ _ h => (by cases h), fun _ _ _ _ h => (by cases h), fun _ _ _ _ _ _ h => (by cases h)⟩
end Go.Proofs.Ytchiiiahgmfofaa
