/- The code of the functions of this seat, as the evaluator has it; by program (gen.py). Each is the compilation of the loaded function. -/
import Derived.Test.YtldcbmkfkbnmbaaVn
import Derived.Test.YtldcbmkfkbnmbaaProg
import Derived.KernelRfl
namespace Go.Proofs.Ytldcbmkfkbnmbaa
open Go Go.Vv Go.Proofs
set_option maxRecDepth 100000

/-! additive/additivelaw35.FlowValids -/
def c3_0 : List LOper := [⟨some 2, .box (.t 0), none⟩, ⟨some 4, .mov (.c (.bool false)), none⟩]
def c3_1 : List LOper := [⟨some 5, .load true 20 (.t 2), none⟩, ⟨some 6, .callp 8 [(.t 5)], none⟩, ⟨some 7, .load true 20 (.t 2), none⟩, ⟨some 8, .callp 9 [(.t 7)], none⟩, ⟨some 9, .eqv false false [true] (.t 6) (.t 8), none⟩, ⟨some 10, .mov (.t 9), none⟩, ⟨some 11, .mov (.t 1), some (10, true)⟩, ⟨some 12, .load true 20 (.t 2), some (10, true)⟩, ⟨some 13, .callp 10 [(.t 11), (.t 12)], some (10, true)⟩, ⟨some 14, .mov (.t 1), some (10, true)⟩, ⟨some 15, .load true 20 (.t 2), some (10, true)⟩, ⟨some 16, .callp 11 [(.t 14), (.t 15)], some (10, true)⟩, ⟨some 17, .ibin .eql (.t 13) (.t 16), some (10, true)⟩, ⟨some 18, .pick (.t 10) (.t 17) (.c (.bool false)), none⟩, ⟨some 19, .mov (.t 18), none⟩, ⟨some 20, .callp 12 [], some (19, true)⟩, ⟨some 21, .pick (.t 19) (.t 20) (.c (.bool false)), none⟩, ⟨some 4, .mov (.t 21), none⟩]
def lc3 : LC := (.seq (.reg false c3_0) (.seq (.reg true c3_1) .ret))
def lf3 : LFunc := ⟨2, [.tmp 4], true, lc3⟩
def hi3 : Hints := ⟨[], [], []⟩
theorem lf3_ok : compF Try.prog hi3 true Try.f3 = some lf3 := by kernel_rfl

/-! additive/additivelaw35.FlowAmounts -/
def c4_0 : List LOper := [⟨some 3, .box (.t 1), none⟩, ⟨some 4, .mov (.c (.bool false)), none⟩]
def c4_1 : List LOper := [⟨some 9, .mov (.t 0), none⟩, ⟨some 10, .callp 13 [(.t 9)], none⟩, ⟨some 0, .mov (.t 10), none⟩]
def c4_2 : List LOper := [⟨some 12, .mov (.t 0), none⟩, ⟨some 13, .load true 20 (.t 3), none⟩, ⟨some 14, .callp 14 [(.t 12), (.t 13)], none⟩, ⟨some 11, .mov (.t 14), none⟩, ⟨some 15, .ext (.t 11) 0, none⟩, ⟨some 16, .ext (.t 11) 1, none⟩, ⟨some 5, .mov (.t 15), none⟩, ⟨some 6, .mov (.t 16), none⟩]
def c4_3 : List LOper := [⟨some 18, .mov (.t 0), none⟩, ⟨some 19, .load true 20 (.t 3), none⟩, ⟨some 20, .callp 15 [(.t 18), (.t 19)], none⟩, ⟨some 17, .mov (.t 20), none⟩, ⟨some 21, .ext (.t 17) 0, none⟩, ⟨some 22, .ext (.t 17) 1, none⟩, ⟨some 7, .mov (.t 21), none⟩, ⟨some 8, .mov (.t 22), none⟩]
def c4_4 : List LOper := [⟨some 23, .mov (.t 5), none⟩, ⟨some 24, .mov (.t 7), none⟩, ⟨some 25, .callp 16 [(.t 23), (.t 24)], none⟩, ⟨some 26, .mov (.t 25), none⟩, ⟨some 27, .mov (.t 6), some (26, true)⟩, ⟨some 28, .mov (.t 8), some (26, true)⟩, ⟨some 29, .ibin .eql (.t 27) (.t 28), some (26, true)⟩, ⟨some 30, .pick (.t 26) (.t 29) (.c (.bool false)), none⟩, ⟨some 31, .mov (.t 30), none⟩, ⟨some 32, .callp 12 [], some (31, true)⟩, ⟨some 33, .pick (.t 31) (.t 32) (.c (.bool false)), none⟩, ⟨some 4, .mov (.t 33), none⟩]
def lc4 : LC := (.seq (.reg false c4_0) (.seq (.reg false c4_1) (.seq (.reg false c4_2) (.seq (.reg false c4_3) (.seq (.reg false c4_4) .ret)))))
def lf4 : LFunc := ⟨2, [.tmp 4], true, lc4⟩
def hi4 : Hints := ⟨[], [], []⟩
theorem lf4_ok : compF Try.prog hi4 true Try.f4 = some lf4 := by kernel_rfl

/-! additive/additivelaw35.FlowLimits -/
def c5_0 : List LOper := [⟨some 3, .box (.t 0), none⟩, ⟨some 6, .mov (.c (.bool false)), none⟩]
def c5_1 : List LOper := [⟨some 12, .mov (.t 1), none⟩, ⟨some 13, .ibin .lss (.t 12) (.c (.int .i64 0)), none⟩, ⟨some 14, .mov (.t 13), none⟩, ⟨some 15, .mov (.t 1), some (14, false)⟩, ⟨some 16, .ibin .gtr (.t 15) (.c (.int .i64 300)), some (14, false)⟩, ⟨some 17, .pick (.t 14) (.c (.bool true)) (.t 16), none⟩, ⟨some 18, .mov (.t 17), none⟩, ⟨some 19, .mov (.t 2), some (18, false)⟩, ⟨some 20, .ibin .lss (.t 19) (.c (.int .i64 0)), some (18, false)⟩, ⟨some 21, .pick (.t 18) (.c (.bool true)) (.t 20), none⟩, ⟨some 22, .mov (.t 21), none⟩, ⟨some 23, .mov (.t 2), some (22, false)⟩, ⟨some 24, .ibin .gtr (.t 23) (.c (.int .i64 8192)), some (22, false)⟩, ⟨some 25, .pick (.t 22) (.c (.bool true)) (.t 24), none⟩, ⟨some 26, .mov (.t 25), none⟩, ⟨some 27, .load true 20 (.t 3), some (26, false)⟩, ⟨some 28, .callp 9 [(.t 27)], some (26, false)⟩, ⟨some 29, .un .not (.t 28), some (26, false)⟩, ⟨some 30, .pick (.t 26) (.c (.bool true)) (.t 29), none⟩]
def c5_2 : List LOper := [⟨some 31, .callp 12 [], none⟩, ⟨some 6, .mov (.t 31), none⟩]
def c5_3 : List LOper := [⟨some 32, .mov (.t 2), none⟩, ⟨some 33, .mkS 2 16 46 [.int .i64 0, .int .i64 0] (.t 32) (.t 32), none⟩, ⟨some 7, .mov (.t 33), none⟩]
def c5_4 : List LOper := [⟨some 8, .mov (.c (.nils)), none⟩]
def c5_5 : List LOper := [⟨some 9, .mov (.c (.int .i64 0)), none⟩]
def c5_6 : List LOper := [⟨some 34, .mov (.t 9), none⟩, ⟨some 35, .mov (.t 1), none⟩, ⟨some 36, .ibin .lss (.t 34) (.t 35), none⟩]
def c5_7 : List LOper := [⟨some 39, .mov (.t 8), none⟩, ⟨some 40, .mov (.t 7), none⟩, ⟨some 41, .build [.int .i64 0, .int .i64 0, .int .i64 0, .int .i64 0, .int .i64 0, .nils] [(0, 1, (.c (.int .i64 3))), (5, 1, (.t 40))], none⟩, ⟨some 42, .bslice 1 6 38 [.int .i64 0, .int .i64 0, .int .i64 0, .int .i64 0, .int .i64 0, .nils] [(0, 6, (.t 41))], none⟩, ⟨some 43, .app 6 64 38 [.int .i64 0, .int .i64 0, .int .i64 0, .int .i64 0, .int .i64 0, .nils] (.t 39) (.t 42), none⟩, ⟨some 8, .mov (.t 43), none⟩]
def c5_8 : List LOper := [⟨some 37, .mov (.t 9), none⟩, ⟨some 38, .ibin .add (.t 37) (.c (.int .i64 1)), none⟩, ⟨some 9, .mov (.t 38), none⟩]
def c5_L0 : LC := (.seq (.seq (.reg false c5_6) (.cond (.t 36) .skip (.exit 0))) (.seq (.blk 1 (.reg false c5_7)) (.reg false c5_8)))
def c5_10 : List LOper := [⟨some 45, .mov (.t 8), none⟩, ⟨some 46, .load true 20 (.t 3), none⟩, ⟨some 47, .callz 14 [(.t 45), (.t 46)], none⟩, ⟨some 44, .mov (.t 47), none⟩, ⟨some 48, .ext (.t 44) 0, none⟩, ⟨some 49, .ext (.t 44) 1, none⟩, ⟨some 10, .mov (.t 48), none⟩, ⟨some 11, .mov (.t 49), none⟩]
def c5_11 : List LOper := [⟨some 50, .mov (.t 1), none⟩, ⟨some 51, .mov (.t 2), none⟩, ⟨some 52, .ibin .mul (.t 50) (.t 51), none⟩, ⟨some 53, .ibin .gtr (.t 52) (.c (.int .i64 1048576)), none⟩]
def c5_12 : List LOper := [⟨some 54, .mov (.t 11), none⟩, ⟨some 55, .ibin .eql (.t 54) (.c (.int .i64 2)), none⟩, ⟨some 56, .mov (.t 55), none⟩, ⟨some 57, .mov (.t 10), some (56, true)⟩, ⟨some 58, .len (.t 57), some (56, true)⟩, ⟨some 59, .ibin .eql (.t 58) (.c (.int .i64 0)), some (56, true)⟩, ⟨some 60, .pick (.t 56) (.t 59) (.c (.bool false)), none⟩, ⟨some 61, .mov (.t 60), none⟩, ⟨some 62, .callp 12 [], some (61, true)⟩, ⟨some 63, .pick (.t 61) (.t 62) (.c (.bool false)), none⟩, ⟨some 6, .mov (.t 63), none⟩]
def c5_13 : List LOper := [⟨some 64, .mov (.t 11), none⟩, ⟨some 65, .ibin .eql (.t 64) (.c (.int .i64 0)), none⟩, ⟨some 66, .mov (.t 65), none⟩, ⟨some 67, .mov (.t 10), some (66, true)⟩, ⟨some 68, .len (.t 67), some (66, true)⟩, ⟨some 69, .mov (.t 1), some (66, true)⟩, ⟨some 70, .ibin .eql (.t 68) (.t 69), some (66, true)⟩, ⟨some 71, .pick (.t 66) (.t 70) (.c (.bool false)), none⟩, ⟨some 72, .mov (.t 71), none⟩, ⟨some 73, .mov (.t 1), some (72, true)⟩, ⟨some 74, .ibin .eql (.t 73) (.c (.int .i64 0)), some (72, true)⟩, ⟨some 75, .mov (.t 74), some (72, true)⟩, ⟨some 76, .mov (.t 10), some (75, false)⟩, ⟨some 77, .mov (.t 1), some (75, false)⟩, ⟨some 78, .ibin .sub (.t 77) (.c (.int .i64 1)), some (75, false)⟩, ⟨some 79, .iaddr 1 (.t 76) (.t 78), some (75, false)⟩, ⟨some 80, .load false 1 (.t 79), some (75, false)⟩, ⟨some 81, .mov (.t 1), some (75, false)⟩, ⟨some 82, .mov (.t 2), some (75, false)⟩, ⟨some 83, .ibin .mul (.t 81) (.t 82), some (75, false)⟩, ⟨some 84, .faddr 0 (.t 3), some (75, false)⟩, ⟨some 85, .load false 1 (.t 84), some (75, false)⟩, ⟨some 86, .ibin .mul (.t 83) (.t 85), some (75, false)⟩, ⟨some 87, .faddr 0 (.t 3), some (75, false)⟩, ⟨some 88, .load false 1 (.t 87), some (75, false)⟩, ⟨some 89, .ibin .mul (.t 86) (.t 88), some (75, false)⟩, ⟨some 90, .faddr 1 (.t 3), some (75, false)⟩, ⟨some 91, .load false 1 (.t 90), some (75, false)⟩, ⟨some 92, .ibin .mul (.t 89) (.t 91), some (75, false)⟩, ⟨some 93, .faddr 12 (.t 3), some (75, false)⟩, ⟨some 94, .load false 1 (.t 93), some (75, false)⟩, ⟨some 95, .ibin .quo (.t 92) (.t 94), some (75, false)⟩, ⟨some 96, .ibin .eql (.t 80) (.t 95), some (75, false)⟩, ⟨some 97, .pick (.t 75) (.c (.bool true)) (.t 96), some (72, true)⟩, ⟨some 98, .pick (.t 72) (.t 97) (.c (.bool false)), none⟩, ⟨some 99, .mov (.t 98), none⟩, ⟨some 100, .callp 12 [], some (99, true)⟩, ⟨some 101, .pick (.t 99) (.t 100) (.c (.bool false)), none⟩, ⟨some 6, .mov (.t 101), none⟩]
def lc5 : LC := (.seq (.reg false c5_0) (.seq (.seq (.reg false c5_1) (.cond (.t 30) (.seq (.reg false c5_2) .ret) .skip)) (.seq (.reg false c5_3) (.seq (.reg false c5_4) (.seq (.seq (.reg false c5_5) (.blk 0 (.loop [1, 2, 3, 7, 8, 9] [3, 33, 43] c5_L0))) (.seq (.reg false c5_10) (.seq (.seq (.reg false c5_11) (.cond (.t 53) (.seq (.reg false c5_12) .ret) .skip)) (.seq (.reg true c5_13) .ret))))))))
def lf5 : LFunc := ⟨3, [.tmp 6], true, lc5⟩
def hi5 : Hints := ⟨[(47, .z)], [([1, 2, 3, 7, 8, 9], [3, 33, 43])], []⟩
theorem lf5_ok : compF Try.prog hi5 true Try.f5 = some lf5 := by kernel_rfl

/-! additive/additivelaw35.FlowExact -/
def c6_0 : List LOper := [⟨some 3, .box (.t 1), none⟩, ⟨some 4, .mov (.c (.bool false)), none⟩]
def c6_1 : List LOper := [⟨some 12, .mov (.t 0), none⟩, ⟨some 13, .callp 13 [(.t 12)], none⟩, ⟨some 0, .mov (.t 13), none⟩]
def c6_2 : List LOper := [⟨some 15, .mov (.t 0), none⟩, ⟨some 16, .load true 20 (.t 3), none⟩, ⟨some 17, .callp 14 [(.t 15), (.t 16)], none⟩, ⟨some 14, .mov (.t 17), none⟩, ⟨some 18, .ext (.t 14) 0, none⟩, ⟨some 19, .ext (.t 14) 1, none⟩, ⟨some 5, .mov (.t 18), none⟩, ⟨some 6, .mov (.t 19), none⟩]
def c6_3 : List LOper := [⟨some 20, .mov (.t 6), none⟩, ⟨some 21, .ibin .neq (.t 20) (.c (.int .i64 0)), none⟩]
def c6_4 : List LOper := [⟨some 22, .mov (.t 5), none⟩, ⟨some 23, .len (.t 22), none⟩, ⟨some 24, .ibin .eql (.t 23) (.c (.int .i64 0)), none⟩, ⟨some 25, .mov (.t 24), none⟩, ⟨some 26, .callp 12 [], some (25, true)⟩, ⟨some 27, .pick (.t 25) (.t 26) (.c (.bool false)), none⟩, ⟨some 4, .mov (.t 27), none⟩]
def c6_5 : List LOper := [⟨some 28, .mov (.t 5), none⟩, ⟨some 29, .len (.t 28), none⟩, ⟨some 30, .mov (.t 0), none⟩, ⟨some 31, .len (.t 30), none⟩, ⟨some 32, .ibin .neq (.t 29) (.t 31), none⟩]
def c6_6 : List LOper := [⟨some 4, .mov (.c (.bool false)), none⟩]
def c6_7 : List LOper := [⟨some 7, .mov (.c (.int .i64 0)), none⟩]
def c6_8 : List LOper := [⟨some 8, .mov (.c (.bool false)), none⟩]
def c6_9 : List LOper := [⟨some 9, .mov (.c (.int .i64 0)), none⟩]
def c6_10 : List LOper := [⟨some 33, .mov (.t 9), none⟩, ⟨some 34, .mov (.t 0), none⟩, ⟨some 35, .len (.t 34), none⟩, ⟨some 36, .ibin .lss (.t 33) (.t 35), none⟩]
def c6_11 : List LOper := [⟨some 39, .mov (.t 0), none⟩, ⟨some 40, .mov (.t 9), none⟩, ⟨some 41, .iaddr 6 (.t 39) (.t 40), none⟩, ⟨some 42, .faddr 0 (.t 41), none⟩, ⟨some 43, .load false 1 (.t 42), none⟩]
def c6_12 : List LOper := [⟨some 45, .ibin .eql (.t 43) (.c (.int .i64 3)), none⟩, ⟨some 44, .mov (.t 45), none⟩]
def c6_13 : List LOper := [⟨some 46, .mov (.t 7), none⟩, ⟨some 47, .mov (.t 0), none⟩, ⟨some 48, .mov (.t 9), none⟩, ⟨some 49, .iaddr 6 (.t 47) (.t 48), none⟩, ⟨some 50, .faddr 5 (.t 49), none⟩, ⟨some 51, .load false 1 (.t 50), none⟩, ⟨some 52, .len (.t 51), none⟩, ⟨some 53, .ibin .add (.t 46) (.t 52), none⟩, ⟨some 7, .mov (.t 53), none⟩]
def c6_14 : List LOper := [⟨some 55, .ibin .eql (.t 43) (.c (.int .i64 4)), none⟩, ⟨some 54, .mov (.t 55), none⟩]
def c6_15 : List LOper := [⟨some 8, .mov (.c (.bool true)), none⟩]
def c6_16 : List LOper := [⟨some 57, .ibin .eql (.t 43) (.c (.int .i64 5)), none⟩, ⟨some 56, .mov (.t 57), none⟩]
def c6_17 : List LOper := [⟨some 8, .mov (.c (.bool false)), none⟩]
def c6_18 : List LOper := [⟨some 58, .mov (.t 5), none⟩, ⟨some 59, .mov (.t 9), none⟩, ⟨some 60, .iaddr 1 (.t 58) (.t 59), none⟩, ⟨some 61, .load false 1 (.t 60), none⟩, ⟨some 10, .mov (.t 61), none⟩]
def c6_19 : List LOper := [⟨some 62, .mov (.t 8), none⟩]
def c6_20 : List LOper := [⟨some 63, .mov (.t 10), none⟩, ⟨some 64, .faddr 15 (.t 3), none⟩, ⟨some 65, .load false 1 (.t 64), none⟩, ⟨some 66, .ibin .add (.t 63) (.t 65), none⟩, ⟨some 10, .mov (.t 66), none⟩]
def c6_21 : List LOper := [⟨some 67, .mov (.t 7), none⟩, ⟨some 68, .faddr 0 (.t 3), none⟩, ⟨some 69, .load false 1 (.t 68), none⟩, ⟨some 70, .ibin .mul (.t 67) (.t 69), none⟩, ⟨some 71, .faddr 0 (.t 3), none⟩, ⟨some 72, .load false 1 (.t 71), none⟩, ⟨some 73, .ibin .mul (.t 70) (.t 72), none⟩, ⟨some 74, .faddr 1 (.t 3), none⟩, ⟨some 75, .load false 1 (.t 74), none⟩, ⟨some 76, .ibin .mul (.t 73) (.t 75), none⟩, ⟨some 11, .mov (.t 76), none⟩]
def c6_22 : List LOper := [⟨some 77, .mov (.t 10), none⟩, ⟨some 78, .faddr 12 (.t 3), none⟩, ⟨some 79, .load false 1 (.t 78), none⟩, ⟨some 80, .ibin .mul (.t 77) (.t 79), none⟩, ⟨some 81, .mov (.t 11), none⟩, ⟨some 82, .ibin .gtr (.t 80) (.t 81), none⟩, ⟨some 83, .mov (.t 82), none⟩, ⟨some 84, .mov (.t 10), some (83, false)⟩, ⟨some 85, .faddr 12 (.t 3), some (83, false)⟩, ⟨some 86, .load false 1 (.t 85), some (83, false)⟩, ⟨some 87, .ibin .mul (.t 84) (.t 86), some (83, false)⟩, ⟨some 88, .mov (.t 11), some (83, false)⟩, ⟨some 89, .faddr 12 (.t 3), some (83, false)⟩, ⟨some 90, .load false 1 (.t 89), some (83, false)⟩, ⟨some 91, .ibin .sub (.t 88) (.t 90), some (83, false)⟩, ⟨some 92, .ibin .leq (.t 87) (.t 91), some (83, false)⟩, ⟨some 93, .pick (.t 83) (.c (.bool true)) (.t 92), none⟩]
def c6_23 : List LOper := [⟨some 4, .mov (.c (.bool false)), none⟩]
def c6_24 : List LOper := [⟨some 37, .mov (.t 9), none⟩, ⟨some 38, .ibin .add (.t 37) (.c (.int .i64 1)), none⟩, ⟨some 9, .mov (.t 38), none⟩]
def c6_L0 : LC := (.seq (.seq (.reg false c6_10) (.cond (.t 36) .skip (.exit 0))) (.seq (.blk 1 (.seq (.seq (.reg false c6_11) (.blk 2 (.seq (.reg false c6_12) (.cond (.t 44) (.reg false c6_13) (.seq (.reg false c6_14) (.cond (.t 54) (.reg false c6_15) (.seq (.reg false c6_16) (.cond (.t 56) (.reg false c6_17) .skip)))))))) (.seq (.reg false c6_18) (.seq (.seq (.reg false c6_19) (.cond (.t 62) (.reg false c6_20) .skip)) (.seq (.reg false c6_21) (.seq (.reg false c6_22) (.cond (.t 93) (.seq (.reg false c6_23) .ret) .skip))))))) (.reg false c6_24)))
def c6_26 : List LOper := [⟨some 94, .mov (.t 5), none⟩, ⟨some 95, .len (.t 94), none⟩, ⟨some 96, .mov (.t 0), none⟩, ⟨some 97, .len (.t 96), none⟩, ⟨some 98, .ibin .eql (.t 95) (.t 97), none⟩, ⟨some 99, .mov (.t 98), none⟩, ⟨some 100, .callp 12 [], some (99, true)⟩, ⟨some 101, .pick (.t 99) (.t 100) (.c (.bool false)), none⟩, ⟨some 4, .mov (.t 101), none⟩]
def lc6 : LC := (.seq (.reg false c6_0) (.seq (.reg false c6_1) (.seq (.reg false c6_2) (.seq (.seq (.reg false c6_3) (.cond (.t 21) (.seq (.reg false c6_4) .ret) .skip)) (.seq (.seq (.reg false c6_5) (.cond (.t 32) (.seq (.reg false c6_6) .ret) .skip)) (.seq (.reg false c6_7) (.seq (.reg false c6_8) (.seq (.seq (.reg false c6_9) (.blk 0 (.loop [0, 3, 5, 7, 8, 9] [3] c6_L0))) (.seq (.reg false c6_26) .ret)))))))))
def lf6 : LFunc := ⟨2, [.tmp 4], true, lc6⟩
def hi6 : Hints := ⟨[], [([0, 3, 5, 7, 8, 9], [3])], []⟩
theorem lf6_ok : compF Try.prog hi6 true Try.f6 = some lf6 := by kernel_rfl

/-! additive/additivelaw35.FlowDivides -/
def c7_0 : List LOper := [⟨some 4, .box (.t 1), none⟩, ⟨some 6, .mov (.c (.bool false)), none⟩]
def c7_1 : List LOper := [⟨some 17, .mov (.t 0), none⟩, ⟨some 18, .callp 13 [(.t 17)], none⟩, ⟨some 0, .mov (.t 18), none⟩]
def c7_2 : List LOper := [⟨some 20, .mov (.t 0), none⟩, ⟨some 21, .load true 20 (.t 4), none⟩, ⟨some 22, .callz 14 [(.t 20), (.t 21)], none⟩, ⟨some 19, .mov (.t 22), none⟩, ⟨some 23, .ext (.t 19) 0, none⟩, ⟨some 24, .ext (.t 19) 1, none⟩, ⟨some 7, .mov (.t 23), none⟩, ⟨some 8, .mov (.t 24), none⟩]
def c7_3 : List LOper := [⟨some 25, .mov (.t 8), none⟩, ⟨some 26, .ibin .neq (.t 25) (.c (.int .i64 0)), none⟩, ⟨some 27, .mov (.t 26), none⟩, ⟨some 28, .mov (.t 2), some (27, false)⟩, ⟨some 29, .ibin .lss (.t 28) (.c (.int .i64 0)), some (27, false)⟩, ⟨some 30, .pick (.t 27) (.c (.bool true)) (.t 29), none⟩, ⟨some 31, .mov (.t 30), none⟩, ⟨some 32, .mov (.t 2), some (31, false)⟩, ⟨some 33, .mov (.t 0), some (31, false)⟩, ⟨some 34, .len (.t 33), some (31, false)⟩, ⟨some 35, .ibin .geq (.t 32) (.t 34), some (31, false)⟩, ⟨some 36, .pick (.t 31) (.c (.bool true)) (.t 35), none⟩]
def c7_4 : List LOper := [⟨some 37, .callp 12 [], none⟩, ⟨some 6, .mov (.t 37), none⟩]
def c7_5 : List LOper := [⟨some 39, .mov (.t 0), none⟩, ⟨some 40, .mov (.t 2), none⟩, ⟨some 41, .slc 6 (.t 39) none (some (.t 40)), none⟩, ⟨some 42, .load true 20 (.t 4), none⟩, ⟨some 43, .callz 14 [(.t 41), (.t 42)], none⟩, ⟨some 38, .mov (.t 43), none⟩, ⟨some 44, .ext (.t 38) 0, none⟩, ⟨some 45, .ext (.t 38) 1, none⟩, ⟨some 9, .mov (.t 44), none⟩, ⟨some 10, .mov (.t 45), none⟩]
def c7_6 : List LOper := [⟨some 46, .mov (.t 7), none⟩, ⟨some 47, .len (.t 46), none⟩, ⟨some 48, .mov (.t 0), none⟩, ⟨some 49, .len (.t 48), none⟩, ⟨some 50, .ibin .neq (.t 47) (.t 49), none⟩, ⟨some 51, .mov (.t 50), none⟩, ⟨some 52, .mov (.t 10), some (51, false)⟩, ⟨some 53, .ibin .neq (.t 52) (.c (.int .i64 0)), some (51, false)⟩, ⟨some 54, .pick (.t 51) (.c (.bool true)) (.t 53), none⟩, ⟨some 55, .mov (.t 54), none⟩, ⟨some 56, .mov (.t 9), some (55, false)⟩, ⟨some 57, .mov (.t 7), some (55, false)⟩, ⟨some 58, .mov (.t 2), some (55, false)⟩, ⟨some 59, .slc 1 (.t 57) none (some (.t 58)), some (55, false)⟩, ⟨some 60, .callp 16 [(.t 56), (.t 59)], some (55, false)⟩, ⟨some 61, .un .not (.t 60), some (55, false)⟩, ⟨some 62, .pick (.t 55) (.c (.bool true)) (.t 61), none⟩]
def c7_7 : List LOper := [⟨some 6, .mov (.c (.bool false)), none⟩]
def c7_8 : List LOper := [⟨some 63, .mov (.t 0), none⟩, ⟨some 64, .mov (.t 2), none⟩, ⟨some 65, .iaddr 6 (.t 63) (.t 64), none⟩, ⟨some 66, .faddr 0 (.t 65), none⟩, ⟨some 67, .load false 1 (.t 66), none⟩, ⟨some 68, .ibin .neq (.t 67) (.c (.int .i64 3)), none⟩]
def c7_9 : List LOper := [⟨some 69, .callp 12 [], none⟩, ⟨some 6, .mov (.t 69), none⟩]
def c7_10 : List LOper := [⟨some 70, .mov (.t 0), none⟩, ⟨some 71, .mov (.t 2), none⟩, ⟨some 72, .iaddr 6 (.t 70) (.t 71), none⟩, ⟨some 73, .faddr 5 (.t 72), none⟩, ⟨some 74, .load false 1 (.t 73), none⟩, ⟨some 75, .len (.t 74), none⟩, ⟨some 76, .ibin .quo (.t 75) (.c (.int .i64 2)), none⟩, ⟨some 11, .mov (.t 76), none⟩]
def c7_11 : List LOper := [⟨some 77, .mov (.t 0), none⟩, ⟨some 78, .mov (.t 2), none⟩, ⟨some 79, .iaddr 6 (.t 77) (.t 78), none⟩, ⟨some 80, .load true 6 (.t 79), none⟩, ⟨some 12, .alloc [.int .i64 0, .int .i64 0, .int .i64 0, .int .i64 0, .int .i64 0, .nils], none⟩, ⟨none, .store 6 (.t 12) (.t 80), none⟩]
def c7_12 : List LOper := [⟨some 81, .mov (.t 0), none⟩, ⟨some 82, .mov (.t 2), none⟩, ⟨some 83, .iaddr 6 (.t 81) (.t 82), none⟩, ⟨some 84, .load true 6 (.t 83), none⟩, ⟨some 13, .alloc [.int .i64 0, .int .i64 0, .int .i64 0, .int .i64 0, .int .i64 0, .nils], none⟩, ⟨none, .store 6 (.t 13) (.t 84), none⟩]
def c7_13 : List LOper := [⟨some 85, .faddr 5 (.t 12), none⟩, ⟨some 86, .load false 1 (.t 85), none⟩, ⟨some 87, .mov (.t 11), none⟩, ⟨some 88, .slc 2 (.t 86) none (some (.t 87)), none⟩, ⟨some 89, .faddr 5 (.t 12), none⟩, ⟨none, .store 1 (.t 89) (.t 88), none⟩]
def c7_14 : List LOper := [⟨some 90, .faddr 5 (.t 13), none⟩, ⟨some 91, .load false 1 (.t 90), none⟩, ⟨some 92, .mov (.t 11), none⟩, ⟨some 93, .slc 2 (.t 91) (some (.t 92)) none, none⟩, ⟨some 94, .faddr 5 (.t 13), none⟩, ⟨none, .store 1 (.t 94) (.t 93), none⟩]
def c7_15 : List LOper := [⟨some 95, .bslice 0 6 38 [.int .i64 0, .int .i64 0, .int .i64 0, .int .i64 0, .int .i64 0, .nils] [], none⟩, ⟨some 96, .mov (.t 0), none⟩, ⟨some 97, .mov (.t 2), none⟩, ⟨some 98, .slc 6 (.t 96) none (some (.t 97)), none⟩, ⟨some 99, .app 6 64 38 [.int .i64 0, .int .i64 0, .int .i64 0, .int .i64 0, .int .i64 0, .nils] (.t 95) (.t 98), none⟩, ⟨some 14, .mov (.t 99), none⟩]
def c7_16 : List LOper := [⟨some 100, .mov (.t 14), none⟩, ⟨some 101, .load true 6 (.t 12), none⟩, ⟨some 102, .load true 6 (.t 13), none⟩, ⟨some 103, .bslice 2 6 38 [.int .i64 0, .int .i64 0, .int .i64 0, .int .i64 0, .int .i64 0, .nils] [(0, 6, (.t 101)), (6, 6, (.t 102))], none⟩, ⟨some 104, .app 6 64 38 [.int .i64 0, .int .i64 0, .int .i64 0, .int .i64 0, .int .i64 0, .nils] (.t 100) (.t 103), none⟩, ⟨some 14, .mov (.t 104), none⟩]
def c7_17 : List LOper := [⟨some 105, .mov (.t 14), none⟩, ⟨some 106, .mov (.t 0), none⟩, ⟨some 107, .mov (.t 2), none⟩, ⟨some 108, .ibin .add (.t 107) (.c (.int .i64 1)), none⟩, ⟨some 109, .slc 6 (.t 106) (some (.t 108)) none, none⟩, ⟨some 110, .app 6 64 38 [.int .i64 0, .int .i64 0, .int .i64 0, .int .i64 0, .int .i64 0, .nils] (.t 105) (.t 109), none⟩, ⟨some 14, .mov (.t 110), none⟩]
def c7_18 : List LOper := [⟨some 112, .mov (.t 14), none⟩, ⟨some 113, .load true 20 (.t 4), none⟩, ⟨some 114, .callz 14 [(.t 112), (.t 113)], none⟩, ⟨some 111, .mov (.t 114), none⟩, ⟨some 115, .ext (.t 111) 0, none⟩, ⟨some 116, .ext (.t 111) 1, none⟩, ⟨some 15, .mov (.t 115), none⟩, ⟨some 16, .mov (.t 116), none⟩]
def c7_19 : List LOper := [⟨some 117, .mov (.t 16), none⟩, ⟨some 118, .ibin .eql (.t 117) (.c (.int .i64 0)), none⟩, ⟨some 119, .mov (.t 118), none⟩, ⟨some 120, .mov (.t 15), some (119, true)⟩, ⟨some 121, .len (.t 120), some (119, true)⟩, ⟨some 122, .mov (.t 7), some (119, true)⟩, ⟨some 123, .len (.t 122), some (119, true)⟩, ⟨some 124, .ibin .add (.t 123) (.c (.int .i64 1)), some (119, true)⟩, ⟨some 125, .ibin .eql (.t 121) (.t 124), some (119, true)⟩, ⟨some 126, .pick (.t 119) (.t 125) (.c (.bool false)), none⟩, ⟨some 127, .mov (.t 126), none⟩, ⟨some 128, .mov (.t 15), some (127, true)⟩, ⟨some 129, .mov (.t 15), some (127, true)⟩, ⟨some 130, .len (.t 129), some (127, true)⟩, ⟨some 131, .ibin .sub (.t 130) (.c (.int .i64 1)), some (127, true)⟩, ⟨some 132, .iaddr 1 (.t 128) (.t 131), some (127, true)⟩, ⟨some 133, .load false 1 (.t 132), some (127, true)⟩, ⟨some 134, .mov (.t 7), some (127, true)⟩, ⟨some 135, .mov (.t 7), some (127, true)⟩, ⟨some 136, .len (.t 135), some (127, true)⟩, ⟨some 137, .ibin .sub (.t 136) (.c (.int .i64 1)), some (127, true)⟩, ⟨some 138, .iaddr 1 (.t 134) (.t 137), some (127, true)⟩, ⟨some 139, .load false 1 (.t 138), some (127, true)⟩, ⟨some 140, .ibin .eql (.t 133) (.t 139), some (127, true)⟩, ⟨some 141, .pick (.t 127) (.t 140) (.c (.bool false)), none⟩, ⟨some 142, .mov (.t 141), none⟩, ⟨some 143, .mov (.t 15), some (142, true)⟩, ⟨some 144, .mov (.t 2), some (142, true)⟩, ⟨some 145, .ibin .add (.t 144) (.c (.int .i64 1)), some (142, true)⟩, ⟨some 146, .iaddr 1 (.t 143) (.t 145), some (142, true)⟩, ⟨some 147, .load false 1 (.t 146), some (142, true)⟩, ⟨some 148, .mov (.t 7), some (142, true)⟩, ⟨some 149, .mov (.t 2), some (142, true)⟩, ⟨some 150, .iaddr 1 (.t 148) (.t 149), some (142, true)⟩, ⟨some 151, .load false 1 (.t 150), some (142, true)⟩, ⟨some 152, .ibin .eql (.t 147) (.t 151), some (142, true)⟩, ⟨some 153, .pick (.t 142) (.t 152) (.c (.bool false)), none⟩, ⟨some 154, .mov (.t 153), none⟩, ⟨some 155, .mov (.t 11), some (154, true)⟩, ⟨some 156, .load true 20 (.t 4), some (154, true)⟩, ⟨some 157, .callp 10 [(.t 155), (.t 156)], some (154, true)⟩, ⟨some 158, .mov (.t 0), some (154, true)⟩, ⟨some 159, .mov (.t 2), some (154, true)⟩, ⟨some 160, .iaddr 6 (.t 158) (.t 159), some (154, true)⟩, ⟨some 161, .faddr 5 (.t 160), some (154, true)⟩, ⟨some 162, .load false 1 (.t 161), some (154, true)⟩, ⟨some 163, .len (.t 162), some (154, true)⟩, ⟨some 164, .mov (.t 11), some (154, true)⟩, ⟨some 165, .ibin .sub (.t 163) (.t 164), some (154, true)⟩, ⟨some 166, .load true 20 (.t 4), some (154, true)⟩, ⟨some 167, .callp 10 [(.t 165), (.t 166)], some (154, true)⟩, ⟨some 168, .ibin .add (.t 157) (.t 167), some (154, true)⟩, ⟨some 169, .mov (.t 0), some (154, true)⟩, ⟨some 170, .mov (.t 2), some (154, true)⟩, ⟨some 171, .iaddr 6 (.t 169) (.t 170), some (154, true)⟩, ⟨some 172, .faddr 5 (.t 171), some (154, true)⟩, ⟨some 173, .load false 1 (.t 172), some (154, true)⟩, ⟨some 174, .len (.t 173), some (154, true)⟩, ⟨some 175, .load true 20 (.t 4), some (154, true)⟩, ⟨some 176, .callp 10 [(.t 174), (.t 175)], some (154, true)⟩, ⟨some 177, .ibin .eql (.t 168) (.t 176), some (154, true)⟩, ⟨some 178, .pick (.t 154) (.t 177) (.c (.bool false)), none⟩, ⟨some 179, .mov (.t 178), none⟩, ⟨some 180, .callp 12 [], some (179, true)⟩, ⟨some 181, .pick (.t 179) (.t 180) (.c (.bool false)), none⟩, ⟨some 6, .mov (.t 181), none⟩]
def lc7 : LC := (.seq (.reg false c7_0) (.seq (.reg false c7_1) (.seq (.reg false c7_2) (.seq (.seq (.reg false c7_3) (.cond (.t 36) (.seq (.reg false c7_4) .ret) .skip)) (.seq (.reg true c7_5) (.seq (.seq (.reg false c7_6) (.cond (.t 62) (.seq (.reg false c7_7) .ret) .skip)) (.seq (.seq (.reg false c7_8) (.cond (.t 68) (.seq (.reg false c7_9) .ret) .skip)) (.seq (.reg false c7_10) (.seq (.reg false c7_11) (.seq (.reg false c7_12) (.seq (.reg false c7_13) (.seq (.reg false c7_14) (.seq (.reg false c7_15) (.seq (.reg false c7_16) (.seq (.reg false c7_17) (.seq (.reg false c7_18) (.seq (.reg true c7_19) .ret)))))))))))))))))
def lf7 : LFunc := ⟨3, [.tmp 6], true, lc7⟩
def hi7 : Hints := ⟨[(22, .z), (43, .z), (114, .z)], [], []⟩
theorem lf7_ok : compF Try.prog hi7 true Try.f7 = some lf7 := by kernel_rfl

/-! additive/flow.Valid -/
def c8_0 : List LOper := [⟨some 1, .box (.t 0), none⟩, ⟨some 2, .mov (.c (.bool false)), none⟩]
def c8_1 : List LOper := [⟨some 3, .load true 20 (.t 1), none⟩, ⟨some 4, .callp 17 [(.t 3)], none⟩, ⟨some 5, .build [.bool false, .bool false, .bool false, .bool false, .bool false, .bool false, .bool false] [], none⟩, ⟨some 6, .eqv false true [true, true, true, true, true, true, true] (.t 4) (.t 5), none⟩, ⟨some 2, .mov (.t 6), none⟩]
def lc8 : LC := (.seq (.reg false c8_0) (.seq (.reg false c8_1) .ret))
def lf8 : LFunc := ⟨1, [.tmp 2], true, lc8⟩
def hi8 : Hints := ⟨[], [], []⟩
theorem lf8_ok : compF Try.prog hi8 true Try.f8 = some lf8 := by kernel_rfl

/-! additive/additiveref35.Valid -/
def c9_0 : List LOper := [⟨some 1, .box (.t 0), none⟩, ⟨some 2, .mov (.c (.bool false)), none⟩]
def c9_1 : List LOper := [⟨some 3, .faddr 0 (.t 1), none⟩, ⟨some 4, .load false 1 (.t 3), none⟩, ⟨some 5, .callp 18 [(.t 4), (.c (.int .i64 32)), (.c (.int .i64 1024))], none⟩, ⟨some 6, .un .not (.t 5), none⟩, ⟨some 7, .mov (.t 6), none⟩, ⟨some 8, .faddr 0 (.t 1), some (7, false)⟩, ⟨some 9, .load false 1 (.t 8), some (7, false)⟩, ⟨some 10, .ibin .rem (.t 9) (.c (.int .i64 2)), some (7, false)⟩, ⟨some 11, .ibin .neq (.t 10) (.c (.int .i64 0)), some (7, false)⟩, ⟨some 12, .pick (.t 7) (.c (.bool true)) (.t 11), none⟩, ⟨some 13, .mov (.t 12), none⟩, ⟨some 14, .faddr 1 (.t 1), some (13, false)⟩, ⟨some 15, .load false 1 (.t 14), some (13, false)⟩, ⟨some 16, .callp 18 [(.t 15), (.c (.int .i64 4)), (.c (.int .i64 1024))], some (13, false)⟩, ⟨some 17, .un .not (.t 16), some (13, false)⟩, ⟨some 18, .pick (.t 13) (.c (.bool true)) (.t 17), none⟩, ⟨some 19, .mov (.t 18), none⟩, ⟨some 20, .faddr 1 (.t 1), some (19, false)⟩, ⟨some 21, .load false 1 (.t 20), some (19, false)⟩, ⟨some 22, .ibin .rem (.t 21) (.c (.int .i64 2)), some (19, false)⟩, ⟨some 23, .ibin .neq (.t 22) (.c (.int .i64 0)), some (19, false)⟩, ⟨some 24, .pick (.t 19) (.c (.bool true)) (.t 23), none⟩]
def c9_2 : List LOper := [⟨some 2, .mov (.c (.bool false)), none⟩]
def c9_3 : List LOper := [⟨some 25, .faddr 2 (.t 1), none⟩, ⟨some 26, .load false 1 (.t 25), none⟩, ⟨some 27, .callp 18 [(.t 26), (.c (.int .i64 0)), (.c (.int .i64 8))], none⟩, ⟨some 28, .un .not (.t 27), none⟩, ⟨some 29, .mov (.t 28), none⟩, ⟨some 30, .faddr 3 (.t 1), some (29, false)⟩, ⟨some 31, .load false 1 (.t 30), some (29, false)⟩, ⟨some 32, .callp 18 [(.t 31), (.c (.int .i64 0)), (.c (.int .i64 16))], some (29, false)⟩, ⟨some 33, .un .not (.t 32), some (29, false)⟩, ⟨some 34, .pick (.t 29) (.c (.bool true)) (.t 33), none⟩, ⟨some 35, .mov (.t 34), none⟩, ⟨some 36, .faddr 4 (.t 1), some (35, false)⟩, ⟨some 37, .load false 1 (.t 36), some (35, false)⟩, ⟨some 38, .callp 18 [(.t 37), (.c (.int .i64 0)), (.c (.int .i64 16))], some (35, false)⟩, ⟨some 39, .un .not (.t 38), some (35, false)⟩, ⟨some 40, .pick (.t 35) (.c (.bool true)) (.t 39), none⟩, ⟨some 41, .mov (.t 40), none⟩, ⟨some 42, .faddr 5 (.t 1), some (41, false)⟩, ⟨some 43, .load false 1 (.t 42), some (41, false)⟩, ⟨some 44, .callp 18 [(.t 43), (.c (.int .i64 0)), (.c (.int .i64 3))], some (41, false)⟩, ⟨some 45, .un .not (.t 44), some (41, false)⟩, ⟨some 46, .pick (.t 41) (.c (.bool true)) (.t 45), none⟩, ⟨some 47, .mov (.t 46), none⟩, ⟨some 48, .faddr 6 (.t 1), some (47, false)⟩, ⟨some 49, .load false 1 (.t 48), some (47, false)⟩, ⟨some 50, .callp 18 [(.t 49), (.c (.int .i64 1)), (.c (.int .i64 64))], some (47, false)⟩, ⟨some 51, .un .not (.t 50), some (47, false)⟩, ⟨some 52, .pick (.t 47) (.c (.bool true)) (.t 51), none⟩]
def c9_4 : List LOper := [⟨some 2, .mov (.c (.bool false)), none⟩]
def c9_5 : List LOper := [⟨some 53, .faddr 8 (.t 1), none⟩, ⟨some 54, .load false 1 (.t 53), none⟩, ⟨some 55, .callp 18 [(.t 54), (.c (.int .i64 0)), (.c (.int .i64 64))], none⟩, ⟨some 56, .un .not (.t 55), none⟩, ⟨some 57, .mov (.t 56), none⟩, ⟨some 58, .faddr 9 (.t 1), some (57, false)⟩, ⟨some 59, .load false 1 (.t 58), some (57, false)⟩, ⟨some 60, .callp 18 [(.t 59), (.c (.int .i64 0)), (.c (.int .i64 64))], some (57, false)⟩, ⟨some 61, .un .not (.t 60), some (57, false)⟩, ⟨some 62, .pick (.t 57) (.c (.bool true)) (.t 61), none⟩, ⟨some 63, .mov (.t 62), none⟩, ⟨some 64, .faddr 10 (.t 1), some (63, false)⟩, ⟨some 65, .load false 1 (.t 64), some (63, false)⟩, ⟨some 66, .callp 18 [(.t 65), (.c (.int .i64 0)), (.c (.int .i64 64))], some (63, false)⟩, ⟨some 67, .un .not (.t 66), some (63, false)⟩, ⟨some 68, .pick (.t 63) (.c (.bool true)) (.t 67), none⟩, ⟨some 69, .mov (.t 68), none⟩, ⟨some 70, .faddr 11 (.t 1), some (69, false)⟩, ⟨some 71, .load false 1 (.t 70), some (69, false)⟩, ⟨some 72, .callp 18 [(.t 71), (.c (.int .i64 0)), (.c (.int .i64 63))], some (69, false)⟩, ⟨some 73, .un .not (.t 72), some (69, false)⟩, ⟨some 74, .pick (.t 69) (.c (.bool true)) (.t 73), none⟩]
def c9_6 : List LOper := [⟨some 2, .mov (.c (.bool false)), none⟩]
def c9_7 : List LOper := [⟨some 75, .faddr 12 (.t 1), none⟩, ⟨some 76, .load false 1 (.t 75), none⟩, ⟨some 77, .callp 18 [(.t 76), (.c (.int .i64 1)), (.c (.int .i64 1073741824))], none⟩, ⟨some 78, .un .not (.t 77), none⟩, ⟨some 79, .mov (.t 78), none⟩, ⟨some 80, .faddr 13 (.t 1), some (79, false)⟩, ⟨some 81, .load false 1 (.t 80), some (79, false)⟩, ⟨some 82, .callp 18 [(.t 81), (.c (.int .i64 1)), (.c (.int .i64 1048576))], some (79, false)⟩, ⟨some 83, .un .not (.t 82), some (79, false)⟩, ⟨some 84, .pick (.t 79) (.c (.bool true)) (.t 83), none⟩, ⟨some 85, .mov (.t 84), none⟩, ⟨some 86, .faddr 14 (.t 1), some (85, false)⟩, ⟨some 87, .load false 1 (.t 86), some (85, false)⟩, ⟨some 88, .callp 18 [(.t 87), (.c (.int .i64 1)), (.c (.int .i64 1048576))], some (85, false)⟩, ⟨some 89, .un .not (.t 88), some (85, false)⟩, ⟨some 90, .pick (.t 85) (.c (.bool true)) (.t 89), none⟩, ⟨some 91, .mov (.t 90), none⟩, ⟨some 92, .faddr 15 (.t 1), some (91, false)⟩, ⟨some 93, .load false 1 (.t 92), some (91, false)⟩, ⟨some 94, .callp 18 [(.t 93), (.c (.int .i64 0)), (.c (.int .i64 65536))], some (91, false)⟩, ⟨some 95, .un .not (.t 94), some (91, false)⟩, ⟨some 96, .pick (.t 91) (.c (.bool true)) (.t 95), none⟩]
def c9_8 : List LOper := [⟨some 2, .mov (.c (.bool false)), none⟩]
def c9_9 : List LOper := [⟨some 97, .faddr 16 (.t 1), none⟩, ⟨some 98, .load false 1 (.t 97), none⟩, ⟨some 99, .callp 18 [(.t 98), (.c (.int .i64 0)), (.c (.int .i64 1048576))], none⟩, ⟨some 100, .mov (.t 99), none⟩, ⟨some 101, .faddr 17 (.t 1), some (100, true)⟩, ⟨some 102, .load false 1 (.t 101), some (100, true)⟩, ⟨some 103, .faddr 13 (.t 1), some (100, true)⟩, ⟨some 104, .load false 1 (.t 103), some (100, true)⟩, ⟨some 105, .callp 18 [(.t 102), (.c (.int .i64 1)), (.t 104)], some (100, true)⟩, ⟨some 106, .pick (.t 100) (.t 105) (.c (.bool false)), none⟩, ⟨some 107, .mov (.t 106), none⟩, ⟨some 108, .faddr 18 (.t 1), some (107, true)⟩, ⟨some 109, .load false 1 (.t 108), some (107, true)⟩, ⟨some 110, .callp 18 [(.t 109), (.c (.int .i64 0)), (.c (.int .i64 400000))], some (107, true)⟩, ⟨some 111, .pick (.t 107) (.t 110) (.c (.bool false)), none⟩, ⟨some 112, .mov (.t 111), none⟩, ⟨some 113, .faddr 19 (.t 1), some (112, true)⟩, ⟨some 114, .load false 1 (.t 113), some (112, true)⟩, ⟨some 115, .callp 18 [(.t 114), (.c (.int .i64 0)), (.c (.int .i64 400000))], some (112, true)⟩, ⟨some 116, .pick (.t 112) (.t 115) (.c (.bool false)), none⟩, ⟨some 2, .mov (.t 116), none⟩]
def lc9 : LC := (.seq (.reg false c9_0) (.seq (.seq (.reg false c9_1) (.cond (.t 24) (.seq (.reg false c9_2) .ret) .skip)) (.seq (.seq (.reg false c9_3) (.cond (.t 52) (.seq (.reg false c9_4) .ret) .skip)) (.seq (.seq (.reg false c9_5) (.cond (.t 74) (.seq (.reg false c9_6) .ret) .skip)) (.seq (.seq (.reg false c9_7) (.cond (.t 96) (.seq (.reg false c9_8) .ret) .skip)) (.seq (.reg false c9_9) .ret))))))
def lf9 : LFunc := ⟨1, [.tmp 2], true, lc9⟩
def hi9 : Hints := ⟨[], [], []⟩
theorem lf9_ok : compF Try.prog hi9 true Try.f9 = some lf9 := by kernel_rfl

/-! additive/flow.Volume -/
def c10_0 : List LOper := [⟨some 3, .box (.t 1), none⟩, ⟨some 4, .mov (.c (.int .i64 0)), none⟩]
def c10_1 : List LOper := [⟨some 5, .mov (.t 0), none⟩, ⟨some 6, .callp 19 [(.t 5), (.c (.int .i64 0)), (.c (.int .i64 1048576))], none⟩, ⟨some 7, .un .not (.t 6), none⟩, ⟨some 8, .mov (.t 7), none⟩, ⟨some 9, .load true 20 (.t 3), some (8, false)⟩, ⟨some 10, .callp 8 [(.t 9)], some (8, false)⟩, ⟨some 11, .un .not (.t 10), some (8, false)⟩, ⟨some 12, .pick (.t 8) (.c (.bool true)) (.t 11), none⟩]
def c10_2 : List LOper := [⟨some 4, .mov (.c (.int .i64 0)), none⟩]
def c10_3 : List LOper := [⟨some 13, .mov (.t 0), none⟩, ⟨some 14, .faddr 0 (.t 3), none⟩, ⟨some 15, .load false 1 (.t 14), none⟩, ⟨some 16, .ibin .mul (.t 13) (.t 15), none⟩, ⟨some 17, .faddr 0 (.t 3), none⟩, ⟨some 18, .load false 1 (.t 17), none⟩, ⟨some 19, .ibin .mul (.t 16) (.t 18), none⟩, ⟨some 20, .faddr 1 (.t 3), none⟩, ⟨some 21, .load false 1 (.t 20), none⟩, ⟨some 22, .ibin .mul (.t 19) (.t 21), none⟩, ⟨some 4, .mov (.t 22), none⟩]
def lc10 : LC := (.seq (.reg false c10_0) (.seq (.seq (.reg false c10_1) (.cond (.t 12) (.seq (.reg false c10_2) .ret) .skip)) (.seq (.reg false c10_3) .ret)))
def lf10 : LFunc := ⟨2, [.tmp 4], true, lc10⟩
def hi10 : Hints := ⟨[], [], []⟩
theorem lf10_ok : compF Try.prog hi10 true Try.f10 = some lf10 := by kernel_rfl

/-! additive/additiveref35.Volume -/
def c11_0 : List LOper := [⟨some 3, .box (.t 1), none⟩, ⟨some 4, .mov (.c (.int .i64 0)), none⟩]
def c11_1 : List LOper := [⟨some 5, .load true 20 (.t 3), none⟩, ⟨some 6, .callp 9 [(.t 5)], none⟩, ⟨some 7, .un .not (.t 6), none⟩, ⟨some 8, .mov (.t 7), none⟩, ⟨some 9, .mov (.t 0), some (8, false)⟩, ⟨some 10, .callp 18 [(.t 9), (.c (.int .i64 0)), (.c (.int .i64 1048576))], some (8, false)⟩, ⟨some 11, .un .not (.t 10), some (8, false)⟩, ⟨some 12, .pick (.t 8) (.c (.bool true)) (.t 11), none⟩]
def c11_2 : List LOper := [⟨some 4, .mov (.c (.int .i64 0)), none⟩]
def c11_3 : List LOper := [⟨some 13, .mov (.t 0), none⟩, ⟨some 14, .faddr 0 (.t 3), none⟩, ⟨some 15, .load false 1 (.t 14), none⟩, ⟨some 16, .ibin .mul (.t 13) (.t 15), none⟩, ⟨some 17, .faddr 0 (.t 3), none⟩, ⟨some 18, .load false 1 (.t 17), none⟩, ⟨some 19, .ibin .mul (.t 16) (.t 18), none⟩, ⟨some 20, .faddr 1 (.t 3), none⟩, ⟨some 21, .load false 1 (.t 20), none⟩, ⟨some 22, .ibin .mul (.t 19) (.t 21), none⟩, ⟨some 4, .mov (.t 22), none⟩]
def lc11 : LC := (.seq (.reg false c11_0) (.seq (.seq (.reg false c11_1) (.cond (.t 12) (.seq (.reg false c11_2) .ret) .skip)) (.seq (.reg false c11_3) .ret)))
def lf11 : LFunc := ⟨2, [.tmp 4], true, lc11⟩
def hi11 : Hints := ⟨[], [], []⟩
theorem lf11_ok : compF Try.prog hi11 true Try.f11 = some lf11 := by kernel_rfl

/-! additive/additivelaw35.awake -/
def c12_0 : List LOper := [⟨some 0, .mov (.c (.bool false)), none⟩]
def c12_1 : List LOper := [⟨some 4, .build [.int .i64 0, .int .i64 0] [], none⟩, ⟨some 1, .alloc [.int .i64 0, .int .i64 0], none⟩, ⟨none, .store 2 (.t 1) (.t 4), none⟩]
def c12_2 : List LOper := [⟨some 6, .load true 2 (.t 1), none⟩, ⟨some 7, .load true 2 (.t 1), none⟩, ⟨some 10, .build [.int .i64 0, .int .i64 0, .int .i64 0, .int .i64 0, .int .i64 0, .nils] [(0, 1, (.c (.int .i64 4)))], none⟩, ⟨some 11, .build [.int .i64 0, .int .i64 0, .int .i64 0, .int .i64 0, .int .i64 0, .nils] [(0, 1, (.c (.int .i64 5)))], none⟩, ⟨some 12, .load true 2 (.t 1), none⟩, ⟨some 16, .callp 20 [], none⟩, ⟨some 8, .bslice 2 2 46 [.int .i64 0, .int .i64 0] [(0, 2, (.t 6)), (2, 2, (.t 7))], none⟩, ⟨some 9, .build [.int .i64 0, .int .i64 0, .int .i64 0, .int .i64 0, .int .i64 0, .nils] [(0, 1, (.c (.int .i64 3))), (5, 1, (.t 8))], none⟩, ⟨some 13, .bslice 1 2 46 [.int .i64 0, .int .i64 0] [(0, 2, (.t 12))], none⟩, ⟨some 14, .build [.int .i64 0, .int .i64 0, .int .i64 0, .int .i64 0, .int .i64 0, .nils] [(0, 1, (.c (.int .i64 3))), (5, 1, (.t 13))], none⟩, ⟨some 15, .bslice 4 6 38 [.int .i64 0, .int .i64 0, .int .i64 0, .int .i64 0, .int .i64 0, .nils] [(0, 6, (.t 9)), (6, 6, (.t 10)), (12, 6, (.t 11)), (18, 6, (.t 14))], none⟩, ⟨some 17, .callz 14 [(.t 15), (.t 16)], none⟩, ⟨some 5, .mov (.t 17), none⟩, ⟨some 18, .ext (.t 5) 0, none⟩, ⟨some 19, .ext (.t 5) 1, none⟩, ⟨some 2, .mov (.t 18), none⟩, ⟨some 3, .mov (.t 19), none⟩]
def c12_3 : List LOper := [⟨some 20, .mov (.t 3), none⟩, ⟨some 21, .ibin .eql (.t 20) (.c (.int .i64 0)), none⟩, ⟨some 22, .mov (.t 21), none⟩, ⟨some 23, .mov (.t 2), some (22, true)⟩, ⟨some 24, .bslice 4 1 3 [.int .i64 0] [(0, 1, (.c (.int .i64 64))), (1, 1, (.c (.int .i64 59))), (2, 1, (.c (.int .i64 64))), (3, 1, (.c (.int .i64 96)))], some (22, true)⟩, ⟨some 25, .callp 16 [(.t 23), (.t 24)], some (22, true)⟩, ⟨some 26, .pick (.t 22) (.t 25) (.c (.bool false)), none⟩, ⟨some 27, .mov (.t 26), none⟩, ⟨some 28, .callp 20 [], some (27, true)⟩, ⟨some 29, .callp 8 [(.t 28)], some (27, true)⟩, ⟨some 30, .pick (.t 27) (.t 29) (.c (.bool false)), none⟩, ⟨some 31, .mov (.t 30), none⟩, ⟨some 32, .callp 20 [], some (31, true)⟩, ⟨some 33, .callp 10 [(.c (.int .i64 1)), (.t 32)], some (31, true)⟩, ⟨some 34, .ibin .eql (.t 33) (.c (.int .i64 32000)), some (31, true)⟩, ⟨some 35, .pick (.t 31) (.t 34) (.c (.bool false)), none⟩, ⟨some 0, .mov (.t 35), none⟩]
def lc12 : LC := (.seq (.reg false c12_0) (.seq (.reg false c12_1) (.seq (.reg true c12_2) (.seq (.reg false c12_3) .ret))))
def lf12 : LFunc := ⟨0, [.tmp 0], true, lc12⟩
def hi12 : Hints := ⟨[(17, .z)], [], [(2, [0, 1, 4, 5, 6, 10, 2, 3, 7, 8, 9, 11, 12, 13, 14, 15, 16])]⟩
theorem lf12_ok : compF Try.prog hi12 true Try.f12 = some lf12 := by kernel_rfl

/-! additive/additivelaw35.few -/
def c13_0 : List LOper := [⟨some 2, .mov (.c (.nils)), none⟩]
def c13_1 : List LOper := [⟨some 3, .mov (.c (.nils)), none⟩]
def c13_2 : List LOper := [⟨some 4, .mov (.c (.int .i64 0)), none⟩]
def c13_3 : List LOper := [⟨some 6, .mov (.t 4), none⟩, ⟨some 7, .mov (.t 0), none⟩, ⟨some 8, .len (.t 7), none⟩, ⟨some 9, .ibin .lss (.t 6) (.t 8), none⟩, ⟨some 10, .mov (.t 9), none⟩, ⟨some 11, .mov (.t 4), some (10, true)⟩, ⟨some 12, .ibin .lss (.t 11) (.c (.int .i64 40)), some (10, true)⟩, ⟨some 13, .pick (.t 10) (.t 12) (.c (.bool false)), none⟩]
def c13_4 : List LOper := [⟨some 16, .mov (.t 0), none⟩, ⟨some 17, .mov (.t 4), none⟩, ⟨some 18, .iaddr 6 (.t 16) (.t 17), none⟩, ⟨some 19, .load true 6 (.t 18), none⟩, ⟨some 5, .alloc [.int .i64 0, .int .i64 0, .int .i64 0, .int .i64 0, .int .i64 0, .nils], none⟩, ⟨none, .store 6 (.t 5) (.t 19), none⟩]
def c13_5 : List LOper := [⟨some 20, .faddr 5 (.t 5), none⟩, ⟨some 21, .load false 1 (.t 20), none⟩, ⟨some 22, .len (.t 21), none⟩, ⟨some 23, .ibin .gtr (.t 22) (.c (.int .i64 200)), none⟩]
def c13_6 : List LOper := [⟨some 24, .faddr 5 (.t 5), none⟩, ⟨some 25, .load false 1 (.t 24), none⟩, ⟨some 26, .slc 2 (.t 25) none (some (.c (.int .i64 200))), none⟩, ⟨some 27, .faddr 5 (.t 5), none⟩, ⟨none, .store 1 (.t 27) (.t 26), none⟩]
def c13_7 : List LOper := [⟨some 28, .mov (.t 3), none⟩, ⟨some 29, .load true 6 (.t 5), none⟩, ⟨some 30, .bslice 1 6 38 [.int .i64 0, .int .i64 0, .int .i64 0, .int .i64 0, .int .i64 0, .nils] [(0, 6, (.t 29))], none⟩, ⟨some 31, .app 6 64 38 [.int .i64 0, .int .i64 0, .int .i64 0, .int .i64 0, .int .i64 0, .nils] (.t 28) (.t 30), none⟩, ⟨some 3, .mov (.t 31), none⟩]
def c13_8 : List LOper := [⟨some 14, .mov (.t 4), none⟩, ⟨some 15, .ibin .add (.t 14) (.c (.int .i64 1)), none⟩, ⟨some 4, .mov (.t 15), none⟩]
def c13_L0 : LC := (.seq (.seq (.reg false c13_3) (.cond (.t 13) .skip (.exit 0))) (.seq (.blk 1 (.seq (.reg false c13_4) (.seq (.seq (.reg false c13_5) (.cond (.t 23) (.reg false c13_6) .skip)) (.reg false c13_7)))) (.reg false c13_8)))
def c13_10 : List LOper := [⟨some 32, .mov (.t 3), none⟩, ⟨some 2, .mov (.t 32), none⟩]
def lc13 : LC := (.seq (.reg false c13_0) (.seq (.reg false c13_1) (.seq (.seq (.reg false c13_2) (.blk 0 (.loop [0, 3, 4] [31] c13_L0))) (.seq (.reg false c13_10) .ret))))
def lf13 : LFunc := ⟨1, [.tmp 2], true, lc13⟩
def hi13 : Hints := ⟨[], [([0, 3, 4], [31])], []⟩
theorem lf13_ok : compF Try.prog hi13 true Try.f13 = some lf13 := by kernel_rfl

/-! additive/flow.Amounts -/
def c14_0 : List LOper := [⟨some 3, .box (.t 1), none⟩, ⟨some 4, .mov (.c (.nils)), none⟩, ⟨some 5, .mov (.c (.int .i64 0)), none⟩]
def c14_1 : List LOper := [⟨some 13, .load true 20 (.t 3), none⟩, ⟨some 14, .callp 8 [(.t 13)], none⟩, ⟨some 15, .un .not (.t 14), none⟩]
def c14_2 : List LOper := [⟨some 4, .mov (.c (.nils)), none⟩, ⟨some 5, .mov (.c (.int .i64 1)), none⟩]
def c14_3 : List LOper := [⟨some 16, .mov (.t 0), none⟩, ⟨some 17, .len (.t 16), none⟩, ⟨some 18, .mkS 1 8 3 [.int .i64 0] (.c (.int .i64 0)) (.t 17), none⟩, ⟨some 6, .mov (.t 18), none⟩]
def c14_4 : List LOper := [⟨some 7, .mov (.c (.int .i64 0)), none⟩, ⟨some 8, .mov (.c (.bool false)), none⟩]
def c14_5 : List LOper := [⟨some 19, .mov (.t 0), none⟩, ⟨some 20, .len (.t 19), none⟩, ⟨some 21, .mov (.c (.int .i64 0)), none⟩]
def c14_6 : List LOper := [⟨some 22, .ibin .lss (.t 21) (.t 20), none⟩]
def c14_7 : List LOper := [⟨some 23, .iaddr 6 (.t 19) (.t 21), none⟩, ⟨some 24, .load true 6 (.t 23), none⟩, ⟨some 10, .alloc [.int .i64 0, .int .i64 0, .int .i64 0, .int .i64 0, .int .i64 0, .nils], none⟩, ⟨none, .store 6 (.t 10) (.t 24), none⟩]
def c14_8 : List LOper := [⟨some 25, .faddr 0 (.t 10), none⟩, ⟨some 26, .load false 1 (.t 25), none⟩]
def c14_9 : List LOper := [⟨some 28, .ibin .eql (.t 26) (.c (.int .i64 3)), none⟩, ⟨some 27, .mov (.t 28), none⟩]
def c14_10 : List LOper := [⟨some 29, .ibin .eql (.t 26) (.c (.int .i64 4)), none⟩, ⟨some 27, .mov (.t 29), none⟩]
def c14_11 : List LOper := [⟨some 30, .mov (.t 8), none⟩]
def c14_12 : List LOper := [⟨some 4, .mov (.c (.nils)), none⟩, ⟨some 5, .mov (.c (.int .i64 11)), none⟩]
def c14_13 : List LOper := [⟨some 31, .faddr 0 (.t 10), none⟩, ⟨some 32, .load false 1 (.t 31), none⟩, ⟨some 33, .ibin .eql (.t 32) (.c (.int .i64 4)), none⟩]
def c14_14 : List LOper := [⟨some 8, .mov (.c (.bool true)), none⟩]
def c14_15 : List LOper := [⟨some 34, .mov (.t 7), none⟩, ⟨some 35, .faddr 5 (.t 10), none⟩, ⟨some 36, .load false 1 (.t 35), none⟩, ⟨some 37, .len (.t 36), none⟩, ⟨some 38, .ibin .add (.t 34) (.t 37), none⟩, ⟨some 7, .mov (.t 38), none⟩]
def c14_16 : List LOper := [⟨some 40, .ibin .eql (.t 26) (.c (.int .i64 5)), none⟩, ⟨some 39, .mov (.t 40), none⟩]
def c14_17 : List LOper := [⟨some 41, .mov (.t 8), none⟩, ⟨some 42, .un .not (.t 41), none⟩]
def c14_18 : List LOper := [⟨some 4, .mov (.c (.nils)), none⟩, ⟨some 5, .mov (.c (.int .i64 11)), none⟩]
def c14_19 : List LOper := [⟨some 8, .mov (.c (.bool false)), none⟩]
def c14_20 : List LOper := [⟨some 43, .mov (.t 7), none⟩, ⟨some 44, .ibin .gtr (.t 43) (.c (.int .i64 1048576)), none⟩]
def c14_21 : List LOper := [⟨some 4, .mov (.c (.nils)), none⟩, ⟨some 5, .mov (.c (.int .i64 2)), none⟩]
def c14_22 : List LOper := [⟨some 46, .mov (.t 7), none⟩, ⟨some 47, .load true 20 (.t 3), none⟩, ⟨some 48, .callp 10 [(.t 46), (.t 47)], none⟩, ⟨some 49, .faddr 12 (.t 3), none⟩, ⟨some 50, .load false 1 (.t 49), none⟩, ⟨some 51, .callp 21 [(.t 48), (.t 50)], none⟩, ⟨some 45, .mov (.t 51), none⟩, ⟨some 52, .ext (.t 45) 0, none⟩, ⟨some 53, .ext (.t 45) 1, none⟩, ⟨some 11, .mov (.t 52), none⟩, ⟨some 12, .mov (.t 53), none⟩]
def c14_23 : List LOper := [⟨some 54, .mov (.t 8), none⟩]
def c14_24 : List LOper := [⟨some 55, .mov (.t 11), none⟩, ⟨some 56, .faddr 15 (.t 3), none⟩, ⟨some 57, .load false 1 (.t 56), none⟩, ⟨some 58, .ibin .sub (.t 55) (.t 57), none⟩, ⟨some 11, .mov (.t 58), none⟩]
def c14_25 : List LOper := [⟨some 59, .mov (.t 6), none⟩, ⟨some 60, .mov (.t 11), none⟩, ⟨some 61, .bslice 1 1 3 [.int .i64 0] [(0, 1, (.t 60))], none⟩, ⟨some 62, .app 1 8 3 [.int .i64 0] (.t 59) (.t 61), none⟩, ⟨some 6, .mov (.t 62), none⟩]
def c14_26 : List LOper := [⟨some 63, .ibin .add (.t 21) (.c (.int .i64 1)), none⟩, ⟨some 21, .mov (.t 63), none⟩]
def c14_L0 : LC := (.seq (.reg false c14_6) (.seq (.cond (.t 22) .skip (.exit 0)) (.seq (.blk 1 (.seq (.reg false c14_7) (.seq (.seq (.reg false c14_8) (.blk 2 (.seq (.seq (.reg false c14_9) (.cond (.t 27) .skip (.reg false c14_10))) (.cond (.t 27) (.seq (.seq (.reg false c14_11) (.cond (.t 30) (.seq (.reg false c14_12) .ret) .skip)) (.seq (.reg false c14_13) (.cond (.t 33) (.reg false c14_14) (.reg false c14_15)))) (.seq (.reg false c14_16) (.cond (.t 39) (.seq (.seq (.reg false c14_17) (.cond (.t 42) (.seq (.reg false c14_18) .ret) .skip)) (.reg false c14_19)) .skip)))))) (.seq (.seq (.reg false c14_20) (.cond (.t 44) (.seq (.reg false c14_21) .ret) .skip)) (.seq (.reg true c14_22) (.seq (.seq (.reg false c14_23) (.cond (.t 54) (.reg false c14_24) .skip)) (.reg false c14_25))))))) (.reg false c14_26))))
def c14_28 : List LOper := [⟨some 64, .mov (.t 6), none⟩, ⟨some 4, .mov (.t 64), none⟩, ⟨some 5, .mov (.c (.int .i64 0)), none⟩]
def lc14 : LC := (.seq (.reg false c14_0) (.seq (.seq (.reg false c14_1) (.cond (.t 15) (.seq (.reg false c14_2) .ret) .skip)) (.seq (.reg false c14_3) (.seq (.reg false c14_4) (.seq (.seq (.reg false c14_5) (.blk 0 (.loop [3, 6, 7, 8, 19, 20, 21] [3, 18, 62] c14_L0))) (.seq (.reg false c14_28) .ret))))))
def lf14 : LFunc := ⟨2, [.tmp 4, .tmp 5], true, lc14⟩
def hi14 : Hints := ⟨[], [([3, 6, 7, 8, 19, 20, 21], [3, 18, 62])], []⟩
theorem lf14_ok : compF Try.prog hi14 true Try.f14 = some lf14 := by kernel_rfl

/-! additive/additiveref35.Amounts -/
def c15_0 : List LOper := [⟨some 3, .box (.t 1), none⟩, ⟨some 4, .mov (.c (.nils)), none⟩, ⟨some 5, .mov (.c (.int .i64 0)), none⟩]
def c15_1 : List LOper := [⟨some 12, .load true 20 (.t 3), none⟩, ⟨some 13, .callp 9 [(.t 12)], none⟩, ⟨some 14, .un .not (.t 13), none⟩]
def c15_2 : List LOper := [⟨some 4, .mov (.c (.nils)), none⟩, ⟨some 5, .mov (.c (.int .i64 1)), none⟩]
def c15_3 : List LOper := [⟨some 6, .mov (.c (.nils)), none⟩]
def c15_4 : List LOper := [⟨some 7, .mov (.c (.int .i64 0)), none⟩]
def c15_5 : List LOper := [⟨some 8, .mov (.c (.bool false)), none⟩]
def c15_6 : List LOper := [⟨some 9, .mov (.c (.int .i64 0)), none⟩]
def c15_7 : List LOper := [⟨some 15, .mov (.t 9), none⟩, ⟨some 16, .mov (.t 0), none⟩, ⟨some 17, .len (.t 16), none⟩, ⟨some 18, .ibin .lss (.t 15) (.t 17), none⟩]
def c15_8 : List LOper := [⟨some 21, .mov (.t 0), none⟩, ⟨some 22, .mov (.t 9), none⟩, ⟨some 23, .iaddr 6 (.t 21) (.t 22), none⟩, ⟨some 24, .faddr 0 (.t 23), none⟩, ⟨some 25, .load false 1 (.t 24), none⟩, ⟨some 10, .mov (.t 25), none⟩]
def c15_9 : List LOper := [⟨some 26, .mov (.t 8), none⟩, ⟨some 27, .mov (.t 26), none⟩, ⟨some 28, .mov (.t 10), some (27, true)⟩, ⟨some 29, .ibin .eql (.t 28) (.c (.int .i64 3)), some (27, true)⟩, ⟨some 30, .mov (.t 29), some (27, true)⟩, ⟨some 31, .mov (.t 10), some (30, false)⟩, ⟨some 32, .ibin .eql (.t 31) (.c (.int .i64 4)), some (30, false)⟩, ⟨some 33, .pick (.t 30) (.c (.bool true)) (.t 32), some (27, true)⟩, ⟨some 34, .pick (.t 27) (.t 33) (.c (.bool false)), none⟩, ⟨some 35, .mov (.t 34), none⟩, ⟨some 36, .mov (.t 8), some (35, false)⟩, ⟨some 37, .un .not (.t 36), some (35, false)⟩, ⟨some 38, .mov (.t 37), some (35, false)⟩, ⟨some 39, .mov (.t 10), some (38, true)⟩, ⟨some 40, .ibin .eql (.t 39) (.c (.int .i64 5)), some (38, true)⟩, ⟨some 41, .pick (.t 38) (.t 40) (.c (.bool false)), some (35, false)⟩, ⟨some 42, .pick (.t 35) (.c (.bool true)) (.t 41), none⟩]
def c15_10 : List LOper := [⟨some 4, .mov (.c (.nils)), none⟩, ⟨some 5, .mov (.c (.int .i64 11)), none⟩]
def c15_11 : List LOper := [⟨some 43, .mov (.t 10), none⟩, ⟨some 44, .ibin .eql (.t 43) (.c (.int .i64 3)), none⟩]
def c15_12 : List LOper := [⟨some 45, .mov (.t 7), none⟩, ⟨some 46, .mov (.t 0), none⟩, ⟨some 47, .mov (.t 9), none⟩, ⟨some 48, .iaddr 6 (.t 46) (.t 47), none⟩, ⟨some 49, .faddr 5 (.t 48), none⟩, ⟨some 50, .load false 1 (.t 49), none⟩, ⟨some 51, .len (.t 50), none⟩, ⟨some 52, .ibin .add (.t 45) (.t 51), none⟩, ⟨some 7, .mov (.t 52), none⟩]
def c15_13 : List LOper := [⟨some 53, .mov (.t 7), none⟩, ⟨some 54, .ibin .gtr (.t 53) (.c (.int .i64 1048576)), none⟩]
def c15_14 : List LOper := [⟨some 4, .mov (.c (.nils)), none⟩, ⟨some 5, .mov (.c (.int .i64 2)), none⟩]
def c15_15 : List LOper := [⟨some 55, .mov (.t 10), none⟩, ⟨some 56, .ibin .eql (.t 55) (.c (.int .i64 4)), none⟩]
def c15_16 : List LOper := [⟨some 8, .mov (.c (.bool true)), none⟩]
def c15_17 : List LOper := [⟨some 57, .mov (.t 10), none⟩, ⟨some 58, .ibin .eql (.t 57) (.c (.int .i64 5)), none⟩]
def c15_18 : List LOper := [⟨some 8, .mov (.c (.bool false)), none⟩]
def c15_19 : List LOper := [⟨some 59, .mov (.t 7), none⟩, ⟨some 60, .load true 20 (.t 3), none⟩, ⟨some 61, .callp 11 [(.t 59), (.t 60)], none⟩, ⟨some 62, .faddr 12 (.t 3), none⟩, ⟨some 63, .load false 1 (.t 62), none⟩, ⟨some 64, .ibin .quo (.t 61) (.t 63), none⟩, ⟨some 11, .mov (.t 64), none⟩]
def c15_20 : List LOper := [⟨some 65, .mov (.t 8), none⟩]
def c15_21 : List LOper := [⟨some 66, .mov (.t 11), none⟩, ⟨some 67, .faddr 15 (.t 3), none⟩, ⟨some 68, .load false 1 (.t 67), none⟩, ⟨some 69, .ibin .sub (.t 66) (.t 68), none⟩, ⟨some 11, .mov (.t 69), none⟩]
def c15_22 : List LOper := [⟨some 70, .mov (.t 6), none⟩, ⟨some 71, .mov (.t 11), none⟩, ⟨some 72, .bslice 1 1 3 [.int .i64 0] [(0, 1, (.t 71))], none⟩, ⟨some 73, .app 1 8 3 [.int .i64 0] (.t 70) (.t 72), none⟩, ⟨some 6, .mov (.t 73), none⟩]
def c15_23 : List LOper := [⟨some 19, .mov (.t 9), none⟩, ⟨some 20, .ibin .add (.t 19) (.c (.int .i64 1)), none⟩, ⟨some 9, .mov (.t 20), none⟩]
def c15_L0 : LC := (.seq (.seq (.reg false c15_7) (.cond (.t 18) .skip (.exit 0))) (.seq (.blk 1 (.seq (.reg false c15_8) (.seq (.seq (.reg false c15_9) (.cond (.t 42) (.seq (.reg false c15_10) .ret) .skip)) (.seq (.seq (.reg false c15_11) (.cond (.t 44) (.reg false c15_12) .skip)) (.seq (.seq (.reg false c15_13) (.cond (.t 54) (.seq (.reg false c15_14) .ret) .skip)) (.seq (.seq (.reg false c15_15) (.cond (.t 56) (.reg false c15_16) .skip)) (.seq (.seq (.reg false c15_17) (.cond (.t 58) (.reg false c15_18) .skip)) (.seq (.reg true c15_19) (.seq (.seq (.reg false c15_20) (.cond (.t 65) (.reg false c15_21) .skip)) (.reg false c15_22)))))))))) (.reg false c15_23)))
def c15_25 : List LOper := [⟨some 74, .mov (.t 6), none⟩, ⟨some 4, .mov (.t 74), none⟩, ⟨some 5, .mov (.c (.int .i64 0)), none⟩]
def lc15 : LC := (.seq (.reg false c15_0) (.seq (.seq (.reg false c15_1) (.cond (.t 14) (.seq (.reg false c15_2) .ret) .skip)) (.seq (.reg false c15_3) (.seq (.reg false c15_4) (.seq (.reg false c15_5) (.seq (.seq (.reg false c15_6) (.blk 0 (.loop [0, 3, 6, 7, 8, 9] [3, 73] c15_L0))) (.seq (.reg false c15_25) .ret)))))))
def lf15 : LFunc := ⟨2, [.tmp 4, .tmp 5], true, lc15⟩
def hi15 : Hints := ⟨[], [([0, 3, 6, 7, 8, 9], [3, 73])], []⟩
theorem lf15_ok : compF Try.prog hi15 true Try.f15 = some lf15 := by kernel_rfl

/-! additive/additivelaw35.same -/
def c16_0 : List LOper := [⟨some 4, .mov (.c (.bool false)), none⟩]
def c16_1 : List LOper := [⟨some 6, .mov (.t 0), none⟩, ⟨some 7, .len (.t 6), none⟩, ⟨some 8, .mov (.t 1), none⟩, ⟨some 9, .len (.t 8), none⟩, ⟨some 10, .ibin .neq (.t 7) (.t 9), none⟩]
def c16_2 : List LOper := [⟨some 4, .mov (.c (.bool false)), none⟩]
def c16_3 : List LOper := [⟨some 5, .mov (.c (.int .i64 0)), none⟩]
def c16_4 : List LOper := [⟨some 11, .mov (.t 5), none⟩, ⟨some 12, .mov (.t 0), none⟩, ⟨some 13, .len (.t 12), none⟩, ⟨some 14, .ibin .lss (.t 11) (.t 13), none⟩]
def c16_5 : List LOper := [⟨some 17, .mov (.t 0), none⟩, ⟨some 18, .mov (.t 5), none⟩, ⟨some 19, .iaddr 1 (.t 17) (.t 18), none⟩, ⟨some 20, .load false 1 (.t 19), none⟩, ⟨some 21, .mov (.t 1), none⟩, ⟨some 22, .mov (.t 5), none⟩, ⟨some 23, .iaddr 1 (.t 21) (.t 22), none⟩, ⟨some 24, .load false 1 (.t 23), none⟩, ⟨some 25, .ibin .neq (.t 20) (.t 24), none⟩]
def c16_6 : List LOper := [⟨some 4, .mov (.c (.bool false)), none⟩]
def c16_7 : List LOper := [⟨some 15, .mov (.t 5), none⟩, ⟨some 16, .ibin .add (.t 15) (.c (.int .i64 1)), none⟩, ⟨some 5, .mov (.t 16), none⟩]
def c16_L0 : LC := (.seq (.seq (.reg false c16_4) (.cond (.t 14) .skip (.exit 0))) (.seq (.blk 1 (.seq (.reg true c16_5) (.cond (.t 25) (.seq (.reg false c16_6) .ret) .skip))) (.reg false c16_7)))
def c16_9 : List LOper := [⟨some 4, .mov (.c (.bool true)), none⟩]
def lc16 : LC := (.seq (.reg false c16_0) (.seq (.seq (.reg false c16_1) (.cond (.t 10) (.seq (.reg false c16_2) .ret) .skip)) (.seq (.seq (.reg false c16_3) (.blk 0 (.loop [0, 1, 5] [] c16_L0))) (.seq (.reg false c16_9) .ret))))
def lf16 : LFunc := ⟨2, [.tmp 4], true, lc16⟩
def hi16 : Hints := ⟨[], [([0, 1, 5], [])], []⟩
theorem lf16_ok : compF Try.prog hi16 true Try.f16 = some lf16 := by kernel_rfl

/-! additive/flow.check -/
def c17_0 : List LOper := [⟨some 1, .box (.t 0), none⟩, ⟨some 2, .alloc [.bool false, .bool false, .bool false, .bool false, .bool false, .bool false, .bool false], none⟩]
def c17_1 : List LOper := [⟨some 3, .faddr 0 (.t 1), none⟩, ⟨some 4, .load false 1 (.t 3), none⟩, ⟨some 5, .callp 22 [(.t 4), (.c (.int .i64 32)), (.c (.int .i64 1024))], none⟩, ⟨some 6, .un .not (.t 5), none⟩, ⟨some 7, .mov (.t 6), none⟩, ⟨some 8, .faddr 1 (.t 1), some (7, false)⟩, ⟨some 9, .load false 1 (.t 8), some (7, false)⟩, ⟨some 10, .callp 22 [(.t 9), (.c (.int .i64 4)), (.c (.int .i64 1024))], some (7, false)⟩, ⟨some 11, .un .not (.t 10), some (7, false)⟩, ⟨some 12, .pick (.t 7) (.c (.bool true)) (.t 11), none⟩, ⟨some 13, .faddr 2 (.t 1), none⟩, ⟨some 14, .load false 1 (.t 13), none⟩, ⟨some 15, .callp 19 [(.t 14), (.c (.int .i64 0)), (.c (.int .i64 8))], none⟩, ⟨some 16, .un .not (.t 15), none⟩, ⟨some 17, .mov (.t 16), none⟩, ⟨some 18, .faddr 3 (.t 1), some (17, false)⟩, ⟨some 19, .load false 1 (.t 18), some (17, false)⟩, ⟨some 20, .callp 19 [(.t 19), (.c (.int .i64 0)), (.c (.int .i64 16))], some (17, false)⟩, ⟨some 21, .un .not (.t 20), some (17, false)⟩, ⟨some 22, .pick (.t 17) (.c (.bool true)) (.t 21), none⟩, ⟨some 23, .mov (.t 22), none⟩, ⟨some 24, .faddr 4 (.t 1), some (23, false)⟩, ⟨some 25, .load false 1 (.t 24), some (23, false)⟩, ⟨some 26, .callp 19 [(.t 25), (.c (.int .i64 0)), (.c (.int .i64 16))], some (23, false)⟩, ⟨some 27, .un .not (.t 26), some (23, false)⟩, ⟨some 28, .pick (.t 23) (.c (.bool true)) (.t 27), none⟩, ⟨some 29, .faddr 5 (.t 1), none⟩, ⟨some 30, .load false 1 (.t 29), none⟩, ⟨some 31, .callp 19 [(.t 30), (.c (.int .i64 0)), (.c (.int .i64 3))], none⟩, ⟨some 32, .un .not (.t 31), none⟩, ⟨some 33, .mov (.t 32), none⟩, ⟨some 34, .faddr 6 (.t 1), some (33, false)⟩, ⟨some 35, .load false 1 (.t 34), some (33, false)⟩, ⟨some 36, .callp 19 [(.t 35), (.c (.int .i64 1)), (.c (.int .i64 64))], some (33, false)⟩, ⟨some 37, .un .not (.t 36), some (33, false)⟩, ⟨some 38, .pick (.t 33) (.c (.bool true)) (.t 37), none⟩, ⟨some 39, .faddr 8 (.t 1), none⟩, ⟨some 40, .load false 1 (.t 39), none⟩, ⟨some 41, .callp 19 [(.t 40), (.c (.int .i64 0)), (.c (.int .i64 64))], none⟩, ⟨some 42, .un .not (.t 41), none⟩, ⟨some 43, .mov (.t 42), none⟩, ⟨some 44, .faddr 9 (.t 1), some (43, false)⟩, ⟨some 45, .load false 1 (.t 44), some (43, false)⟩, ⟨some 46, .callp 19 [(.t 45), (.c (.int .i64 0)), (.c (.int .i64 64))], some (43, false)⟩, ⟨some 47, .un .not (.t 46), some (43, false)⟩, ⟨some 48, .pick (.t 43) (.c (.bool true)) (.t 47), none⟩, ⟨some 49, .mov (.t 48), none⟩, ⟨some 50, .faddr 10 (.t 1), some (49, false)⟩, ⟨some 51, .load false 1 (.t 50), some (49, false)⟩, ⟨some 52, .callp 19 [(.t 51), (.c (.int .i64 0)), (.c (.int .i64 64))], some (49, false)⟩, ⟨some 53, .un .not (.t 52), some (49, false)⟩, ⟨some 54, .pick (.t 49) (.c (.bool true)) (.t 53), none⟩, ⟨some 55, .mov (.t 54), none⟩, ⟨some 56, .faddr 11 (.t 1), some (55, false)⟩, ⟨some 57, .load false 1 (.t 56), some (55, false)⟩, ⟨some 58, .callp 19 [(.t 57), (.c (.int .i64 0)), (.c (.int .i64 63))], some (55, false)⟩, ⟨some 59, .un .not (.t 58), some (55, false)⟩, ⟨some 60, .pick (.t 55) (.c (.bool true)) (.t 59), none⟩, ⟨some 61, .faddr 12 (.t 1), none⟩, ⟨some 62, .load false 1 (.t 61), none⟩, ⟨some 63, .callp 19 [(.t 62), (.c (.int .i64 1)), (.c (.int .i64 1073741824))], none⟩, ⟨some 64, .un .not (.t 63), none⟩, ⟨some 65, .mov (.t 64), none⟩, ⟨some 66, .faddr 15 (.t 1), some (65, false)⟩, ⟨some 67, .load false 1 (.t 66), some (65, false)⟩, ⟨some 68, .callp 19 [(.t 67), (.c (.int .i64 0)), (.c (.int .i64 65536))], some (65, false)⟩, ⟨some 69, .un .not (.t 68), some (65, false)⟩, ⟨some 70, .pick (.t 65) (.c (.bool true)) (.t 69), none⟩, ⟨some 71, .faddr 13 (.t 1), none⟩, ⟨some 72, .load false 1 (.t 71), none⟩, ⟨some 73, .callp 19 [(.t 72), (.c (.int .i64 1)), (.c (.int .i64 1048576))], none⟩, ⟨some 74, .un .not (.t 73), none⟩, ⟨some 75, .mov (.t 74), none⟩, ⟨some 76, .faddr 14 (.t 1), some (75, false)⟩, ⟨some 77, .load false 1 (.t 76), some (75, false)⟩, ⟨some 78, .callp 19 [(.t 77), (.c (.int .i64 1)), (.c (.int .i64 1048576))], some (75, false)⟩, ⟨some 79, .un .not (.t 78), some (75, false)⟩, ⟨some 80, .pick (.t 75) (.c (.bool true)) (.t 79), none⟩, ⟨some 81, .mov (.t 80), none⟩, ⟨some 82, .faddr 16 (.t 1), some (81, false)⟩, ⟨some 83, .load false 1 (.t 82), some (81, false)⟩, ⟨some 84, .callp 19 [(.t 83), (.c (.int .i64 0)), (.c (.int .i64 1048576))], some (81, false)⟩, ⟨some 85, .un .not (.t 84), some (81, false)⟩, ⟨some 86, .pick (.t 81) (.c (.bool true)) (.t 85), none⟩, ⟨some 87, .mov (.t 86), none⟩, ⟨some 88, .faddr 17 (.t 1), some (87, false)⟩, ⟨some 89, .load false 1 (.t 88), some (87, false)⟩, ⟨some 90, .faddr 13 (.t 1), some (87, false)⟩, ⟨some 91, .load false 1 (.t 90), some (87, false)⟩, ⟨some 92, .callp 19 [(.t 89), (.c (.int .i64 1)), (.t 91)], some (87, false)⟩, ⟨some 93, .un .not (.t 92), some (87, false)⟩, ⟨some 94, .pick (.t 87) (.c (.bool true)) (.t 93), none⟩, ⟨some 95, .faddr 18 (.t 1), none⟩, ⟨some 96, .load false 1 (.t 95), none⟩, ⟨some 97, .callp 19 [(.t 96), (.c (.int .i64 0)), (.c (.int .i64 400000))], none⟩, ⟨some 98, .un .not (.t 97), none⟩, ⟨some 99, .mov (.t 98), none⟩, ⟨some 100, .faddr 19 (.t 1), some (99, false)⟩, ⟨some 101, .load false 1 (.t 100), some (99, false)⟩, ⟨some 102, .callp 19 [(.t 101), (.c (.int .i64 0)), (.c (.int .i64 400000))], some (99, false)⟩, ⟨some 103, .un .not (.t 102), some (99, false)⟩, ⟨some 104, .pick (.t 99) (.c (.bool true)) (.t 103), none⟩, ⟨some 105, .build [.bool false, .bool false, .bool false, .bool false, .bool false, .bool false, .bool false] [(0, 1, (.t 12)), (1, 1, (.t 28)), (2, 1, (.t 38)), (3, 1, (.t 60)), (4, 1, (.t 70)), (5, 1, (.t 94)), (6, 1, (.t 104))], none⟩, ⟨none, .store 7 (.t 2) (.t 105), none⟩]
def lc17 : LC := (.seq (.reg false c17_0) (.seq (.reg true c17_1) .ret))
def lf17 : LFunc := ⟨1, [.cell 2 true 7], true, lc17⟩
def hi17 : Hints := ⟨[], [], []⟩
theorem lf17_ok : compF Try.prog hi17 true Try.f17 = some lf17 := by kernel_rfl

/-! additive/additiveref35.in -/
def c18_0 : List LOper := [⟨some 6, .mov (.c (.bool false)), none⟩]
def c18_1 : List LOper := [⟨some 7, .mov (.t 0), none⟩, ⟨some 8, .mov (.t 1), none⟩, ⟨some 9, .ibin .geq (.t 7) (.t 8), none⟩, ⟨some 10, .mov (.t 9), none⟩, ⟨some 11, .mov (.t 0), some (10, true)⟩, ⟨some 12, .mov (.t 2), some (10, true)⟩, ⟨some 13, .ibin .leq (.t 11) (.t 12), some (10, true)⟩, ⟨some 14, .pick (.t 10) (.t 13) (.c (.bool false)), none⟩, ⟨some 6, .mov (.t 14), none⟩]
def lc18 : LC := (.seq (.reg false c18_0) (.seq (.reg false c18_1) .ret))
def lf18 : LFunc := ⟨3, [.tmp 6], true, lc18⟩
def hi18 : Hints := ⟨[], [], []⟩
theorem lf18_ok : compF Try.prog hi18 true Try.f18 = some lf18 := by kernel_rfl

/-! additive/flow.within -/
def c19_0 : List LOper := [⟨some 6, .mov (.c (.bool false)), none⟩]
def c19_1 : List LOper := [⟨some 7, .mov (.t 0), none⟩, ⟨some 8, .mov (.t 1), none⟩, ⟨some 9, .ibin .geq (.t 7) (.t 8), none⟩, ⟨some 10, .mov (.t 9), none⟩, ⟨some 11, .mov (.t 0), some (10, true)⟩, ⟨some 12, .mov (.t 2), some (10, true)⟩, ⟨some 13, .ibin .leq (.t 11) (.t 12), some (10, true)⟩, ⟨some 14, .pick (.t 10) (.t 13) (.c (.bool false)), none⟩, ⟨some 6, .mov (.t 14), none⟩]
def lc19 : LC := (.seq (.reg false c19_0) (.seq (.reg false c19_1) .ret))
def lf19 : LFunc := ⟨3, [.tmp 6], true, lc19⟩
def hi19 : Hints := ⟨[], [], []⟩
theorem lf19_ok : compF Try.prog hi19 true Try.f19 = some lf19 := by kernel_rfl

/-! additive/additivelaw35.usual -/
def c20_0 : List LOper := [⟨some 0, .alloc [.int .i64 0, .int .i64 0, .int .i64 0, .int .i64 0, .int .i64 0, .int .i64 0, .int .i64 0, .bool false, .int .i64 0, .int .i64 0, .int .i64 0, .int .i64 0, .int .i64 0, .int .i64 0, .int .i64 0, .int .i64 0, .int .i64 0, .int .i64 0, .int .i64 0, .int .i64 0], none⟩]
def c20_1 : List LOper := [⟨some 1, .build [.int .i64 0, .int .i64 0, .int .i64 0, .int .i64 0, .int .i64 0, .int .i64 0, .int .i64 0, .bool false, .int .i64 0, .int .i64 0, .int .i64 0, .int .i64 0, .int .i64 0, .int .i64 0, .int .i64 0, .int .i64 0, .int .i64 0, .int .i64 0, .int .i64 0, .int .i64 0] [(0, 1, (.c (.int .i64 40))), (1, 1, (.c (.int .i64 20))), (6, 1, (.c (.int .i64 2))), (12, 1, (.c (.int .i64 1000))), (13, 1, (.c (.int .i64 10))), (14, 1, (.c (.int .i64 20))), (15, 1, (.c (.int .i64 5))), (17, 1, (.c (.int .i64 1)))], none⟩, ⟨none, .store 20 (.t 0) (.t 1), none⟩]
def lc20 : LC := (.seq (.reg false c20_0) (.seq (.reg false c20_1) .ret))
def lf20 : LFunc := ⟨0, [.cell 0 true 20], true, lc20⟩
def hi20 : Hints := ⟨[], [], []⟩
theorem lf20_ok : compF Try.prog hi20 true Try.f20 = some lf20 := by kernel_rfl

/-! additive/num.Floor -/
def c21_0 : List LOper := [⟨some 4, .mov (.c (.int .i64 0)), none⟩, ⟨some 5, .mov (.c (.int .i64 0)), none⟩]
def c21_1 : List LOper := [⟨some 7, .mov (.t 1), none⟩, ⟨some 8, .ibin .eql (.t 7) (.c (.int .i64 0)), none⟩]
def c21_2 : List LOper := [⟨some 4, .mov (.c (.int .i64 0)), none⟩, ⟨some 5, .mov (.c (.int .i64 4)), none⟩]
def c21_3 : List LOper := [⟨some 9, .mov (.t 0), none⟩, ⟨some 10, .ibin .eql (.t 9) (.c (.int .i64 (-9223372036854775808))), none⟩, ⟨some 11, .mov (.t 10), none⟩, ⟨some 12, .mov (.t 1), some (11, true)⟩, ⟨some 13, .ibin .eql (.t 12) (.c (.int .i64 (-1))), some (11, true)⟩, ⟨some 14, .pick (.t 11) (.t 13) (.c (.bool false)), none⟩]
def c21_4 : List LOper := [⟨some 4, .mov (.c (.int .i64 0)), none⟩, ⟨some 5, .mov (.c (.int .i64 3)), none⟩]
def c21_5 : List LOper := [⟨some 15, .mov (.t 0), none⟩, ⟨some 16, .mov (.t 1), none⟩, ⟨some 17, .ibin .quo (.t 15) (.t 16), none⟩, ⟨some 6, .mov (.t 17), none⟩]
def c21_6 : List LOper := [⟨some 18, .mov (.t 0), none⟩, ⟨some 19, .mov (.t 1), none⟩, ⟨some 20, .ibin .rem (.t 18) (.t 19), none⟩, ⟨some 21, .ibin .neq (.t 20) (.c (.int .i64 0)), none⟩, ⟨some 22, .mov (.t 21), none⟩, ⟨some 23, .mov (.t 0), some (22, true)⟩, ⟨some 24, .ibin .lss (.t 23) (.c (.int .i64 0)), some (22, true)⟩, ⟨some 25, .mov (.t 1), some (22, true)⟩, ⟨some 26, .ibin .lss (.t 25) (.c (.int .i64 0)), some (22, true)⟩, ⟨some 27, .eqv true false [true] (.t 24) (.t 26), some (22, true)⟩, ⟨some 28, .pick (.t 22) (.t 27) (.c (.bool false)), none⟩]
def c21_7 : List LOper := [⟨some 29, .mov (.t 6), none⟩, ⟨some 30, .ibin .sub (.t 29) (.c (.int .i64 1)), none⟩, ⟨some 6, .mov (.t 30), none⟩]
def c21_8 : List LOper := [⟨some 31, .mov (.t 6), none⟩, ⟨some 4, .mov (.t 31), none⟩, ⟨some 5, .mov (.c (.int .i64 0)), none⟩]
def lc21 : LC := (.seq (.reg false c21_0) (.seq (.seq (.reg false c21_1) (.cond (.t 8) (.seq (.reg false c21_2) .ret) .skip)) (.seq (.seq (.reg false c21_3) (.cond (.t 14) (.seq (.reg false c21_4) .ret) .skip)) (.seq (.reg false c21_5) (.seq (.seq (.reg false c21_6) (.cond (.t 28) (.reg false c21_7) .skip)) (.seq (.reg false c21_8) .ret))))))
def lf21 : LFunc := ⟨2, [.tmp 4, .tmp 5], true, lc21⟩
def hi21 : Hints := ⟨[], [], []⟩
theorem lf21_ok : compF Try.prog hi21 true Try.f21 = some lf21 := by kernel_rfl

/-! additive/flow.even -/
def c22_0 : List LOper := [⟨some 6, .mov (.c (.bool false)), none⟩]
def c22_1 : List LOper := [⟨some 7, .mov (.t 0), none⟩, ⟨some 8, .mov (.t 1), none⟩, ⟨some 9, .mov (.t 2), none⟩, ⟨some 10, .callp 19 [(.t 7), (.t 8), (.t 9)], none⟩, ⟨some 11, .mov (.t 10), none⟩, ⟨some 12, .mov (.t 0), some (11, true)⟩, ⟨some 13, .ibin .rem (.t 12) (.c (.int .i64 2)), some (11, true)⟩, ⟨some 14, .ibin .eql (.t 13) (.c (.int .i64 0)), some (11, true)⟩, ⟨some 15, .pick (.t 11) (.t 14) (.c (.bool false)), none⟩, ⟨some 6, .mov (.t 15), none⟩]
def lc22 : LC := (.seq (.reg false c22_0) (.seq (.reg false c22_1) .ret))
def lf22 : LFunc := ⟨3, [.tmp 6], true, lc22⟩
def hi22 : Hints := ⟨[], [], []⟩
theorem lf22_ok : compF Try.prog hi22 true Try.f22 = some lf22 := by kernel_rfl

def env : Env where
  code := fun f => match f with
    | 3 => some lf3
    | 4 => some lf4
    | 5 => some lf5
    | 6 => some lf6
    | 7 => some lf7
    | 8 => some lf8
    | 9 => some lf9
    | 10 => some lf10
    | 11 => some lf11
    | 12 => some lf12
    | 13 => some lf13
    | 14 => some lf14
    | 15 => some lf15
    | 16 => some lf16
    | 17 => some lf17
    | 18 => some lf18
    | 19 => some lf19
    | 20 => some lf20
    | 21 => some lf21
    | 22 => some lf22
    | _ => none
  ext := fun _ _ _ => none
theorem env_ok : EnvOK Try.prog env where
  mixed := by kernel_rfl
  code := fun f lf h => by
    simp only [env] at h
    split at h
    · injection h with h; subst h; exact ⟨Try.f3, hi3, Try.func3, lf3_ok⟩
    · injection h with h; subst h; exact ⟨Try.f4, hi4, Try.func4, lf4_ok⟩
    · injection h with h; subst h; exact ⟨Try.f5, hi5, Try.func5, lf5_ok⟩
    · injection h with h; subst h; exact ⟨Try.f6, hi6, Try.func6, lf6_ok⟩
    · injection h with h; subst h; exact ⟨Try.f7, hi7, Try.func7, lf7_ok⟩
    · injection h with h; subst h; exact ⟨Try.f8, hi8, Try.func8, lf8_ok⟩
    · injection h with h; subst h; exact ⟨Try.f9, hi9, Try.func9, lf9_ok⟩
    · injection h with h; subst h; exact ⟨Try.f10, hi10, Try.func10, lf10_ok⟩
    · injection h with h; subst h; exact ⟨Try.f11, hi11, Try.func11, lf11_ok⟩
    · injection h with h; subst h; exact ⟨Try.f12, hi12, Try.func12, lf12_ok⟩
    · injection h with h; subst h; exact ⟨Try.f13, hi13, Try.func13, lf13_ok⟩
    · injection h with h; subst h; exact ⟨Try.f14, hi14, Try.func14, lf14_ok⟩
    · injection h with h; subst h; exact ⟨Try.f15, hi15, Try.func15, lf15_ok⟩
    · injection h with h; subst h; exact ⟨Try.f16, hi16, Try.func16, lf16_ok⟩
    · injection h with h; subst h; exact ⟨Try.f17, hi17, Try.func17, lf17_ok⟩
    · injection h with h; subst h; exact ⟨Try.f18, hi18, Try.func18, lf18_ok⟩
    · injection h with h; subst h; exact ⟨Try.f19, hi19, Try.func19, lf19_ok⟩
    · injection h with h; subst h; exact ⟨Try.f20, hi20, Try.func20, lf20_ok⟩
    · injection h with h; subst h; exact ⟨Try.f21, hi21, Try.func21, lf21_ok⟩
    · injection h with h; subst h; exact ⟨Try.f22, hi22, Try.func22, lf22_ok⟩
    · cases h
  ext := ⟨fun _ _ _ _ h => (by cases h), fun _ _ _ _ h => (by cases h), fun _ _ _ _ _ _ h => (by cases h)⟩
end Go.Proofs.Ytldcbmkfkbnmbaa
