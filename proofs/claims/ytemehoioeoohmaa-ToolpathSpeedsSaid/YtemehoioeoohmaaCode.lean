/- The code of the functions of this seat, as the evaluator has it; by program (gen.py). Each is the compilation of the loaded function. -/
import Derived.Test.YtemehoioeoohmaaVn
import Derived.Test.YtemehoioeoohmaaProg
import Derived.KernelRfl
namespace Go.Proofs.Ytemehoioeoohmaa
open Go Go.Vv Go.Proofs
set_option maxRecDepth 100000

/-! additive/additivelaw38.ToolpathSpeeds -/
def c4_0 : List LOper := [⟨some 2, .box (.t 0), none⟩, ⟨some 3, .box (.t 1), none⟩, ⟨some 4, .mov (.c (.bool false)), none⟩]
def c4_1 : List LOper := [⟨some 10, .load true 5 (.t 2), none⟩, ⟨some 11, .callp 5 [(.t 10)], none⟩, ⟨some 12, .un .not (.t 11), none⟩, ⟨some 13, .mov (.t 12), none⟩, ⟨some 14, .load true 20 (.t 3), some (13, false)⟩, ⟨some 15, .callp 13 [(.t 14)], some (13, false)⟩, ⟨some 16, .un .not (.t 15), some (13, false)⟩, ⟨some 17, .pick (.t 13) (.c (.bool true)) (.t 16), none⟩]
def c4_2 : List LOper := [⟨some 18, .callp 6 [], none⟩, ⟨some 4, .mov (.t 18), none⟩]
def c4_3 : List LOper := [⟨some 20, .faddr 0 (.t 2), none⟩, ⟨some 21, .load false 1 (.t 20), none⟩, ⟨some 22, .faddr 1 (.t 2), none⟩, ⟨some 23, .load true 1 (.t 22), none⟩, ⟨some 24, .faddr 2 (.t 2), none⟩, ⟨some 25, .load false 1 (.t 24), none⟩, ⟨some 26, .faddr 3 (.t 2), none⟩, ⟨some 27, .load true 2 (.t 26), none⟩, ⟨some 28, .load true 20 (.t 3), none⟩, ⟨some 29, .callz 7 [(.t 21), (.t 23), (.t 25), (.t 27), (.t 28)], none⟩, ⟨some 19, .mov (.t 29), none⟩, ⟨some 30, .ext (.t 19) 0, none⟩, ⟨some 31, .ext (.t 19) 1, none⟩, ⟨some 32, .ext (.t 19) 2, none⟩, ⟨some 6, .alloc [.int .i64 0, .int .i64 0], none⟩, ⟨some 5, .mov (.t 30), none⟩, ⟨none, .store 2 (.t 6) (.t 31), none⟩, ⟨some 7, .mov (.t 32), none⟩]
def c4_4 : List LOper := [⟨some 33, .mov (.t 7), none⟩, ⟨some 34, .ibin .neq (.t 33) (.c (.int .i64 0)), none⟩]
def c4_5 : List LOper := [⟨some 35, .callp 6 [], none⟩, ⟨some 4, .mov (.t 35), none⟩]
def c4_6 : List LOper := [⟨some 36, .mov (.t 5), none⟩, ⟨some 37, .len (.t 36), none⟩, ⟨some 38, .ibin .lss (.t 37) (.c (.int .i64 2)), none⟩, ⟨some 39, .mov (.t 38), none⟩, ⟨some 40, .mov (.t 5), some (39, false)⟩, ⟨some 41, .iaddr 6 (.t 40) (.c (.int .i64 0)), some (39, false)⟩, ⟨some 42, .faddr 0 (.t 41), some (39, false)⟩, ⟨some 43, .load false 1 (.t 42), some (39, false)⟩, ⟨some 44, .ibin .neq (.t 43) (.c (.int .i64 1)), some (39, false)⟩, ⟨some 45, .pick (.t 39) (.c (.bool true)) (.t 44), none⟩, ⟨some 46, .mov (.t 45), none⟩, ⟨some 47, .mov (.t 5), some (46, false)⟩, ⟨some 48, .iaddr 6 (.t 47) (.c (.int .i64 0)), some (46, false)⟩, ⟨some 49, .faddr 2 (.t 48), some (46, false)⟩, ⟨some 50, .load false 1 (.t 49), some (46, false)⟩, ⟨some 51, .faddr 2 (.t 2), some (46, false)⟩, ⟨some 52, .load false 1 (.t 51), some (46, false)⟩, ⟨some 53, .ibin .neq (.t 50) (.t 52), some (46, false)⟩, ⟨some 54, .pick (.t 46) (.c (.bool true)) (.t 53), none⟩, ⟨some 55, .mov (.t 54), none⟩, ⟨some 56, .mov (.t 5), some (55, false)⟩, ⟨some 57, .iaddr 6 (.t 56) (.c (.int .i64 0)), some (55, false)⟩, ⟨some 58, .faddr 3 (.t 57), some (55, false)⟩, ⟨some 59, .load false 1 (.t 58), some (55, false)⟩, ⟨some 60, .faddr 2 (.t 2), some (55, false)⟩, ⟨some 61, .load false 1 (.t 60), some (55, false)⟩, ⟨some 62, .ibin .add (.t 61) (.c (.int .i64 1)), some (55, false)⟩, ⟨some 63, .faddr 1 (.t 3), some (55, false)⟩, ⟨some 64, .load false 1 (.t 63), some (55, false)⟩, ⟨some 65, .ibin .mul (.t 62) (.t 64), some (55, false)⟩, ⟨some 66, .ibin .neq (.t 59) (.t 65), some (55, false)⟩, ⟨some 67, .pick (.t 55) (.c (.bool true)) (.t 66), none⟩, ⟨some 68, .mov (.t 67), none⟩, ⟨some 69, .mov (.t 5), some (68, false)⟩, ⟨some 70, .iaddr 6 (.t 69) (.c (.int .i64 1)), some (68, false)⟩, ⟨some 71, .faddr 0 (.t 70), some (68, false)⟩, ⟨some 72, .load false 1 (.t 71), some (68, false)⟩, ⟨some 73, .ibin .neq (.t 72) (.c (.int .i64 6)), some (68, false)⟩, ⟨some 74, .pick (.t 68) (.c (.bool true)) (.t 73), none⟩, ⟨some 75, .mov (.t 74), none⟩, ⟨some 76, .mov (.t 5), some (75, false)⟩, ⟨some 77, .iaddr 6 (.t 76) (.c (.int .i64 1)), some (75, false)⟩, ⟨some 78, .faddr 4 (.t 77), some (75, false)⟩, ⟨some 79, .load false 1 (.t 78), some (75, false)⟩, ⟨some 80, .ibin .eql (.t 79) (.c (.int .i64 0)), some (75, false)⟩, ⟨some 81, .faddr 2 (.t 2), some (75, false)⟩, ⟨some 82, .load false 1 (.t 81), some (75, false)⟩, ⟨some 83, .ibin .eql (.t 82) (.c (.int .i64 0)), some (75, false)⟩, ⟨some 84, .eqv true false [true] (.t 80) (.t 83), some (75, false)⟩, ⟨some 85, .pick (.t 75) (.c (.bool true)) (.t 84), none⟩]
def c4_7 : List LOper := [⟨some 4, .mov (.c (.bool false)), none⟩]
def c4_8 : List LOper := [⟨some 8, .mov (.c (.int .i64 2)), none⟩]
def c4_9 : List LOper := [⟨some 86, .mov (.t 8), none⟩, ⟨some 87, .mov (.t 5), none⟩, ⟨some 88, .len (.t 87), none⟩, ⟨some 89, .ibin .lss (.t 86) (.t 88), none⟩]
def c4_10 : List LOper := [⟨some 92, .mov (.t 5), none⟩, ⟨some 93, .mov (.t 8), none⟩, ⟨some 94, .iaddr 6 (.t 92) (.t 93), none⟩, ⟨some 95, .load true 6 (.t 94), none⟩, ⟨some 9, .alloc [.int .i64 0, .int .i64 0, .int .i64 0, .int .i64 0, .int .i64 0, .nils], none⟩, ⟨none, .store 6 (.t 9) (.t 95), none⟩]
def c4_11 : List LOper := [⟨some 96, .faddr 0 (.t 9), none⟩, ⟨some 97, .load false 1 (.t 96), none⟩, ⟨some 98, .ibin .eql (.t 97) (.c (.int .i64 1)), none⟩, ⟨some 99, .mov (.t 98), none⟩, ⟨some 100, .faddr 0 (.t 9), some (99, false)⟩, ⟨some 101, .load false 1 (.t 100), some (99, false)⟩, ⟨some 102, .ibin .eql (.t 101) (.c (.int .i64 6)), some (99, false)⟩, ⟨some 103, .pick (.t 99) (.c (.bool true)) (.t 102), none⟩, ⟨some 104, .mov (.t 103), none⟩, ⟨some 105, .faddr 0 (.t 9), some (104, false)⟩, ⟨some 106, .load false 1 (.t 105), some (104, false)⟩, ⟨some 107, .ibin .eql (.t 106) (.c (.int .i64 2)), some (104, false)⟩, ⟨some 108, .mov (.t 107), some (104, false)⟩, ⟨some 109, .faddr 4 (.t 9), some (108, true)⟩, ⟨some 110, .load false 1 (.t 109), some (108, true)⟩, ⟨some 111, .faddr 14 (.t 3), some (108, true)⟩, ⟨some 112, .load false 1 (.t 111), some (108, true)⟩, ⟨some 113, .faddr 0 (.t 3), some (108, true)⟩, ⟨some 114, .load false 1 (.t 113), some (108, true)⟩, ⟨some 115, .ibin .quo (.t 112) (.t 114), some (108, true)⟩, ⟨some 116, .mm true (.c (.int .i64 1)) (.t 115), some (108, true)⟩, ⟨some 117, .ibin .neq (.t 110) (.t 116), some (108, true)⟩, ⟨some 118, .pick (.t 108) (.t 117) (.c (.bool false)), some (104, false)⟩, ⟨some 119, .pick (.t 104) (.c (.bool true)) (.t 118), none⟩, ⟨some 120, .mov (.t 119), none⟩, ⟨some 121, .faddr 0 (.t 9), some (120, false)⟩, ⟨some 122, .load false 1 (.t 121), some (120, false)⟩, ⟨some 123, .ibin .eql (.t 122) (.c (.int .i64 3)), some (120, false)⟩, ⟨some 124, .mov (.t 123), some (120, false)⟩, ⟨some 125, .faddr 4 (.t 9), some (124, true)⟩, ⟨some 126, .load false 1 (.t 125), some (124, true)⟩, ⟨some 127, .ibin .lss (.t 126) (.c (.int .i64 1)), some (124, true)⟩, ⟨some 128, .mov (.t 127), some (124, true)⟩, ⟨some 129, .faddr 4 (.t 9), some (128, false)⟩, ⟨some 130, .load false 1 (.t 129), some (128, false)⟩, ⟨some 131, .faddr 13 (.t 3), some (128, false)⟩, ⟨some 132, .load false 1 (.t 131), some (128, false)⟩, ⟨some 133, .faddr 0 (.t 3), some (128, false)⟩, ⟨some 134, .load false 1 (.t 133), some (128, false)⟩, ⟨some 135, .ibin .quo (.t 132) (.t 134), some (128, false)⟩, ⟨some 136, .mm true (.c (.int .i64 1)) (.t 135), some (128, false)⟩, ⟨some 137, .ibin .gtr (.t 130) (.t 136), some (128, false)⟩, ⟨some 138, .pick (.t 128) (.c (.bool true)) (.t 137), some (124, true)⟩, ⟨some 139, .pick (.t 124) (.t 138) (.c (.bool false)), some (120, false)⟩, ⟨some 140, .pick (.t 120) (.c (.bool true)) (.t 139), none⟩]
def c4_12 : List LOper := [⟨some 4, .mov (.c (.bool false)), none⟩]
def c4_13 : List LOper := [⟨some 90, .mov (.t 8), none⟩, ⟨some 91, .ibin .add (.t 90) (.c (.int .i64 1)), none⟩, ⟨some 8, .mov (.t 91), none⟩]
def Jp9 : LC := (.seq (.seq (.reg false c4_9) (.cond (.t 89) .skip (.seq (.trim []) (.exit 0)))) (.seq (.blk 1 (.seq (.reg false c4_10) (.seq (.reg true c4_11) (.cond (.t 140) (.seq (.reg false c4_12) (.seq (.trim [4]) .ret)) .skip)))) (.reg false c4_13)))
def c4_15 : List LOper := [⟨some 141, .callp 6 [], none⟩, ⟨some 4, .mov (.t 141), none⟩]
def lc4 : LC := (.seq (.reg false c4_0) (.seq (.seq (.reg false c4_1) (.cond (.t 17) (.seq (.reg false c4_2) .ret) .skip)) (.seq (.reg false c4_3) (.seq (.seq (.reg false c4_4) (.cond (.t 34) (.seq (.reg false c4_5) .ret) .skip)) (.seq (.seq (.reg true c4_6) (.cond (.t 85) (.seq (.reg false c4_7) .ret) .skip)) (.seq (.seq (.reg false c4_8) (.blk 0 (.loop [3, 5, 8] Jp9))) (.seq (.reg false c4_15) .ret)))))))
def lf4 : X5 := ⟨2, [.tmp 4], true, lc4⟩
def hi4 : Yk := ⟨[(29, .z)], [none, none, none, none, none, none, none, none, none, none, none, none, none, none, none, some [3, 5, 8], none, some [], none, none, none, none, some [4], none, none, none, none], [], []⟩
theorem lf4_ok : Ym Try.prog hi4 true Try.f4 = some ⟨lf4.np, lf4.res.map RV.base, lf4.pm, lf4.body⟩ := by kernel_rfl

/-! additive/additivelaw38.few -/
def c5_0 : List LOper := [⟨some 1, .box (.t 0), none⟩, ⟨some 2, .mov (.c (.bool false)), none⟩]
def c5_1 : List LOper := [⟨some 3, .mov (.c (.int .i64 0)), none⟩]
def c5_2 : List LOper := [⟨some 4, .mov (.t 3), none⟩, ⟨some 5, .faddr 0 (.t 1), none⟩, ⟨some 6, .load false 1 (.t 5), none⟩, ⟨some 7, .len (.t 6), none⟩, ⟨some 8, .ibin .lss (.t 4) (.t 7), none⟩, ⟨some 9, .mov (.t 8), none⟩, ⟨some 10, .mov (.t 3), some (9, true)⟩, ⟨some 11, .ibin .lss (.t 10) (.c (.int .i64 9)), some (9, true)⟩, ⟨some 12, .pick (.t 9) (.t 11) (.c (.bool false)), none⟩]
def c5_3 : List LOper := [⟨some 15, .faddr 0 (.t 1), none⟩, ⟨some 16, .load false 1 (.t 15), none⟩, ⟨some 17, .mov (.t 3), none⟩, ⟨some 18, .iaddr 3 (.t 16) (.t 17), none⟩, ⟨some 19, .faddr 2 (.t 18), none⟩, ⟨some 20, .load false 1 (.t 19), none⟩, ⟨some 21, .len (.t 20), none⟩, ⟨some 22, .ibin .gtr (.t 21) (.c (.int .i64 40)), none⟩, ⟨some 23, .mov (.t 22), none⟩, ⟨some 24, .faddr 0 (.t 1), some (23, false)⟩, ⟨some 25, .load false 1 (.t 24), some (23, false)⟩, ⟨some 26, .mov (.t 3), some (23, false)⟩, ⟨some 27, .iaddr 3 (.t 25) (.t 26), some (23, false)⟩, ⟨some 28, .faddr 2 (.t 27), some (23, false)⟩, ⟨some 29, .load false 1 (.t 28), some (23, false)⟩, ⟨some 30, .callp 14 [(.t 29)], some (23, false)⟩, ⟨some 31, .un .not (.t 30), some (23, false)⟩, ⟨some 32, .pick (.t 23) (.c (.bool true)) (.t 31), none⟩]
def c5_4 : List LOper := [⟨some 2, .mov (.c (.bool false)), none⟩]
def c5_5 : List LOper := [⟨some 13, .mov (.t 3), none⟩, ⟨some 14, .ibin .add (.t 13) (.c (.int .i64 1)), none⟩, ⟨some 3, .mov (.t 14), none⟩]
def Jqf : LC := (.seq (.seq (.reg false c5_2) (.cond (.t 12) .skip (.seq (.trim [1]) (.exit 0)))) (.seq (.blk 1 (.seq (.reg false c5_3) (.cond (.t 32) (.seq (.reg false c5_4) (.seq (.trim [2]) .ret)) .skip))) (.reg false c5_5)))
def c5_7 : List LOper := [⟨some 33, .faddr 0 (.t 1), none⟩, ⟨some 34, .load false 1 (.t 33), none⟩, ⟨some 35, .len (.t 34), none⟩, ⟨some 36, .ibin .leq (.t 35) (.c (.int .i64 8)), none⟩, ⟨some 37, .mov (.t 36), none⟩, ⟨some 38, .faddr 3 (.t 1), some (37, true)⟩, ⟨some 39, .load true 2 (.t 38), some (37, true)⟩, ⟨some 40, .bslz 1 2 27 [.int .i64 0, .int .i64 0] [(0, 2, (.t 39))], some (37, true)⟩, ⟨some 41, .callp 14 [(.t 40)], some (37, true)⟩, ⟨some 42, .pick (.t 37) (.t 41) (.c (.bool false)), none⟩, ⟨some 43, .mov (.t 42), none⟩, ⟨some 44, .faddr 1 (.t 1), some (43, true)⟩, ⟨some 45, .load true 1 (.t 44), some (43, true)⟩, ⟨some 46, .callp 15 [(.t 45)], some (43, true)⟩, ⟨some 47, .ibin .leq (.t 46) (.c (.int .i64 150)), some (43, true)⟩, ⟨some 48, .pick (.t 43) (.t 47) (.c (.bool false)), none⟩, ⟨some 2, .mov (.t 48), none⟩]
def lc5 : LC := (.seq (.reg false c5_0) (.seq (.seq (.reg false c5_1) (.blk 0 (.loop [1, 3] Jqf))) (.seq (.reg false c5_7) .ret)))
def lf5 : X5 := ⟨1, [.tmp 2], true, lc5⟩
def hi5 : Yk := ⟨[(40, .z)], [none, none, some [1, 3], none, some [1], none, none, none, some [2], none, none, none, none], [], []⟩
theorem lf5_ok : Ym Try.prog hi5 true Try.f5 = some ⟨lf5.np, lf5.res.map RV.base, lf5.pm, lf5.body⟩ := by kernel_rfl

/-! additive/additivelaw38.works -/
def c6_0 : List LOper := [⟨some 0, .mov (.c (.bool false)), none⟩]
def c6_1 : List LOper := [⟨some 7, .build [.int .i64 0, .int .i64 0] [(0, 1, (.c (.int .i64 0))), (1, 1, (.c (.int .i64 3)))], none⟩, ⟨some 8, .bslz 1 2 54 [.int .i64 0, .int .i64 0] [(0, 2, (.t 7))], none⟩, ⟨some 9, .build [.int .i64 0, .nils] [(1, 1, (.t 8))], none⟩, ⟨some 10, .bslice 1 2 57 [.int .i64 0, .nils] [(0, 2, (.t 9))], none⟩, ⟨some 11, .build [.nils] [(0, 1, (.t 10))], none⟩, ⟨some 1, .alloc [.nils], none⟩, ⟨none, .store 1 (.t 1) (.t 11), none⟩]
def c6_2 : List LOper := [⟨some 12, .build [.int .i64 0, .int .i64 0] [(0, 1, (.c (.int .i64 1)))], none⟩, ⟨some 13, .build [.int .i64 0, .int .i64 0] [(0, 1, (.c (.int .i64 2)))], none⟩, ⟨some 14, .bslice 2 2 27 [.int .i64 0, .int .i64 0] [(0, 2, (.t 12)), (2, 2, (.t 13))], none⟩, ⟨some 2, .mov (.t 14), none⟩]
def c6_3 : List LOper := [⟨some 19, .load true 1 (.t 1), none⟩, ⟨some 20, .build [.int .i64 0, .int .i64 0] [], none⟩, ⟨some 21, .callp 16 [], none⟩, ⟨some 16, .frz (.t 2), none⟩, ⟨some 17, .build [.int .i64 0, .bool false, .nils] [(0, 1, (.c (.int .i64 3))), (2, 1, (.t 16))], none⟩, ⟨some 18, .bslice 1 3 50 [.int .i64 0, .bool false, .nils] [(0, 3, (.t 17))], none⟩, ⟨some 22, .callz 7 [(.t 18), (.t 19), (.c (.int .i64 0)), (.t 20), (.t 21)], none⟩, ⟨some 15, .mov (.t 22), none⟩, ⟨some 23, .ext (.t 15) 0, none⟩, ⟨some 24, .ext (.t 15) 1, none⟩, ⟨some 25, .ext (.t 15) 2, none⟩, ⟨some 4, .alloc [.int .i64 0, .int .i64 0], none⟩, ⟨some 3, .mov (.t 23), none⟩, ⟨none, .store 2 (.t 4) (.t 24), none⟩, ⟨some 5, .mov (.t 25), none⟩]
def c6_4 : List LOper := [⟨some 26, .build [.int .i64 0, .int .i64 0, .int .i64 0, .int .i64 0, .int .i64 0, .nils] [(0, 1, (.c (.int .i64 1))), (3, 1, (.c (.int .i64 20)))], none⟩, ⟨some 27, .build [.int .i64 0, .int .i64 0, .int .i64 0, .int .i64 0, .int .i64 0, .nils] [(0, 1, (.c (.int .i64 6)))], none⟩, ⟨some 28, .mov (.t 2), none⟩, ⟨some 29, .slc 2 (.t 28) none (some (.c (.int .i64 1))), none⟩, ⟨some 30, .build [.int .i64 0, .int .i64 0, .int .i64 0, .int .i64 0, .int .i64 0, .nils] [(0, 1, (.c (.int .i64 2))), (4, 1, (.c (.int .i64 200))), (5, 1, (.t 29))], none⟩, ⟨some 31, .frz (.t 2), none⟩, ⟨some 32, .build [.int .i64 0, .int .i64 0, .int .i64 0, .int .i64 0, .int .i64 0, .nils] [(0, 1, (.c (.int .i64 3))), (1, 1, (.c (.int .i64 3))), (4, 1, (.c (.int .i64 100))), (5, 1, (.t 31))], none⟩, ⟨some 33, .bslice 4 6 40 [.int .i64 0, .int .i64 0, .int .i64 0, .int .i64 0, .int .i64 0, .nils] [(0, 6, (.t 26)), (6, 6, (.t 27)), (12, 6, (.t 30)), (18, 6, (.t 32))], none⟩, ⟨some 6, .mov (.t 33), none⟩]
def c6_5 : List LOper := [⟨some 34, .mov (.t 5), none⟩, ⟨some 35, .ibin .eql (.t 34) (.c (.int .i64 0)), none⟩, ⟨some 36, .mov (.t 35), none⟩, ⟨some 37, .load true 2 (.t 4), some (36, true)⟩, ⟨some 38, .build [.int .i64 0, .int .i64 0] [(0, 1, (.c (.int .i64 2)))], some (36, true)⟩, ⟨some 39, .eqv false true [false, false] (.t 37) (.t 38), some (36, true)⟩, ⟨some 40, .pick (.t 36) (.t 39) (.c (.bool false)), none⟩, ⟨some 41, .mov (.t 40), none⟩, ⟨some 42, .mov (.t 3), some (41, true)⟩, ⟨some 43, .mov (.t 6), some (41, true)⟩, ⟨some 44, .callp 17 [(.t 42), (.t 43)], some (41, true)⟩, ⟨some 45, .pick (.t 41) (.t 44) (.c (.bool false)), none⟩, ⟨some 46, .mov (.t 45), none⟩, ⟨some 47, .mov (.t 3), some (46, true)⟩, ⟨some 48, .callp 18 [(.t 47)], some (46, true)⟩, ⟨some 49, .ibin .eql (.t 48) (.c (.int .i64 0)), some (46, true)⟩, ⟨some 50, .pick (.t 46) (.t 49) (.c (.bool false)), none⟩, ⟨some 51, .mov (.t 50), none⟩, ⟨some 52, .mov (.t 3), some (51, true)⟩, ⟨some 53, .callz 19 [(.t 52), (.c (.int .i64 0))], some (51, true)⟩, ⟨some 54, .len (.t 53), some (51, true)⟩, ⟨some 55, .ibin .eql (.t 54) (.c (.int .i64 2)), some (51, true)⟩, ⟨some 56, .pick (.t 51) (.t 55) (.c (.bool false)), none⟩, ⟨some 57, .mov (.t 56), none⟩, ⟨some 58, .mov (.t 3), some (57, true)⟩, ⟨some 59, .callz 19 [(.t 58), (.c (.int .i64 1))], some (57, true)⟩, ⟨some 60, .len (.t 59), some (57, true)⟩, ⟨some 61, .ibin .eql (.t 60) (.c (.int .i64 0)), some (57, true)⟩, ⟨some 62, .pick (.t 57) (.t 61) (.c (.bool false)), none⟩, ⟨some 0, .mov (.t 62), none⟩]
def lc6 : LC := (.seq (.reg false c6_0) (.seq (.reg false c6_1) (.seq (.reg false c6_2) (.seq (.reg true c6_3) (.seq (.reg false c6_4) (.seq (.reg false c6_5) .ret))))))
def lf6 : X5 := ⟨0, [.tmp 0], true, lc6⟩
def hi6 : Yk := ⟨[(8, .z), (16, .z), (22, .z), (31, .z), (53, .z), (59, .z)], [none, none, none, none, none, none, none], [(3, [3, 4, 5, 0, 1, 2, 6, 7, 8, 9, 10, 11, 12, 13, 14])], []⟩
theorem lf6_ok : Ym Try.prog hi6 true Try.f6 = some ⟨lf6.np, lf6.res.map RV.base, lf6.pm, lf6.body⟩ := by kernel_rfl

/-! additive/toolpath.Layer -/
def c7_0 : List LOper := [⟨some 6, .box (.t 1), none⟩, ⟨some 8, .box (.t 3), none⟩, ⟨some 9, .box (.t 4), none⟩, ⟨some 10, .mov (.c (.nils)), none⟩, ⟨some 11, .alloc [.int .i64 0, .int .i64 0], none⟩, ⟨some 12, .mov (.c (.int .i64 0)), none⟩]
def c7_1 : List LOper := [⟨some 19, .load true 20 (.t 9), none⟩, ⟨some 20, .callp 20 [(.t 19)], none⟩, ⟨some 21, .un .not (.t 20), none⟩, ⟨some 22, .mov (.t 21), none⟩, ⟨some 23, .load true 1 (.t 6), some (22, false)⟩, ⟨some 24, .callp 21 [(.t 23)], some (22, false)⟩, ⟨some 25, .un .not (.t 24), some (22, false)⟩, ⟨some 26, .pick (.t 22) (.c (.bool true)) (.t 25), none⟩, ⟨some 27, .mov (.t 26), none⟩, ⟨some 28, .mov (.t 2), some (27, false)⟩, ⟨some 29, .ibin .lss (.t 28) (.c (.int .i64 0)), some (27, false)⟩, ⟨some 30, .pick (.t 27) (.c (.bool true)) (.t 29), none⟩, ⟨some 31, .mov (.t 30), none⟩, ⟨some 32, .mov (.t 2), some (31, false)⟩, ⟨some 33, .ibin .geq (.t 32) (.c (.int .i64 256)), some (31, false)⟩, ⟨some 34, .pick (.t 31) (.c (.bool true)) (.t 33), none⟩, ⟨some 35, .mov (.t 34), none⟩, ⟨some 36, .load true 2 (.t 8), some (35, false)⟩, ⟨some 37, .callp 22 [(.t 36)], some (35, false)⟩, ⟨some 38, .un .not (.t 37), some (35, false)⟩, ⟨some 39, .pick (.t 35) (.c (.bool true)) (.t 38), none⟩]
def c7_2 : List LOper := [⟨some 40, .build [.int .i64 0, .int .i64 0] [], none⟩, ⟨some 10, .mov (.c (.nils)), none⟩, ⟨none, .store 2 (.t 11) (.t 40), none⟩, ⟨some 12, .mov (.c (.int .i64 1)), none⟩]
def c7_3 : List LOper := [⟨some 41, .mov (.t 0), none⟩, ⟨some 42, .len (.t 41), none⟩, ⟨some 43, .mov (.c (.int .i64 0)), none⟩]
def c7_4 : List LOper := [⟨some 44, .ibin .lss (.t 43) (.t 42), none⟩]
def c7_5 : List LOper := [⟨some 45, .iaddr 3 (.t 41) (.t 43), none⟩, ⟨some 46, .load true 3 (.t 45), none⟩, ⟨some 14, .alloc [.int .i64 0, .bool false, .nils], none⟩, ⟨none, .store 3 (.t 14) (.t 46), none⟩]
def c7_6 : List LOper := [⟨some 47, .load true 3 (.t 14), none⟩, ⟨some 48, .callp 23 [(.t 47)], none⟩, ⟨some 49, .un .not (.t 48), none⟩]
def c7_7 : List LOper := [⟨some 50, .build [.int .i64 0, .int .i64 0] [], none⟩, ⟨some 10, .mov (.c (.nils)), none⟩, ⟨none, .store 2 (.t 11) (.t 50), none⟩, ⟨some 12, .mov (.c (.int .i64 1)), none⟩]
def c7_8 : List LOper := [⟨some 51, .ibin .add (.t 43) (.c (.int .i64 1)), none⟩, ⟨some 43, .mov (.t 51), none⟩]
def Jqs : LC := (.seq (.reg false c7_4) (.seq (.cond (.t 44) .skip (.seq (.trim [0, 2, 6, 8, 9, 11]) (.exit 0))) (.seq (.blk 1 (.seq (.reg false c7_5) (.seq (.reg false c7_6) (.cond (.t 49) (.seq (.reg false c7_7) (.seq (.trim [10, 11, 12]) .ret)) .skip)))) (.reg false c7_8))))
def c7_10 : List LOper := [⟨some 52, .load true 1 (.t 6), none⟩, ⟨some 53, .load true 20 (.t 9), none⟩, ⟨some 54, .load true 2 (.t 8), none⟩, ⟨some 55, .build [.nils, .nils, .int .i64 0, .int .i64 0, .int .i64 0, .int .i64 0, .int .i64 0, .int .i64 0, .int .i64 0, .bool false, .int .i64 0, .int .i64 0, .int .i64 0, .int .i64 0, .int .i64 0, .int .i64 0, .int .i64 0, .int .i64 0, .int .i64 0, .int .i64 0, .int .i64 0, .int .i64 0, .int .i64 0, .int .i64 0] [(1, 1, (.t 52)), (2, 20, (.t 53)), (22, 2, (.t 54))], none⟩, ⟨some 56, .box (.t 55), none⟩, ⟨some 15, .mov (.t 56), none⟩]
def c7_11 : List LOper := [⟨some 57, .mov (.t 15), none⟩, ⟨some 58, .nilck (.t 57), none⟩, ⟨some 59, .faddr 0 (.t 58), none⟩, ⟨some 60, .mov (.t 2), none⟩, ⟨some 61, .mov (.t 2), none⟩, ⟨some 62, .ibin .add (.t 61) (.c (.int .i64 1)), none⟩, ⟨some 63, .faddr 1 (.t 9), none⟩, ⟨some 64, .load false 1 (.t 63), none⟩, ⟨some 65, .ibin .mul (.t 62) (.t 64), none⟩, ⟨some 66, .build [.int .i64 0, .int .i64 0, .int .i64 0, .int .i64 0, .int .i64 0, .nils] [(0, 1, (.c (.int .i64 1))), (2, 1, (.t 60)), (3, 1, (.t 65))], none⟩, ⟨some 67, .callr 24 [(.t 59), (.t 66)], none⟩]
def c7_12 : List LOper := [⟨some 68, .build [.int .i64 0, .int .i64 0, .int .i64 0, .int .i64 0, .int .i64 0, .nils] [(0, 1, (.c (.int .i64 6)))], none⟩, ⟨some 16, .alloc [.int .i64 0, .int .i64 0, .int .i64 0, .int .i64 0, .int .i64 0, .nils], none⟩, ⟨none, .store 6 (.t 16) (.t 68), none⟩]
def c7_13 : List LOper := [⟨some 69, .mov (.t 2), none⟩, ⟨some 70, .ibin .gtr (.t 69) (.c (.int .i64 0)), none⟩]
def c7_14 : List LOper := [⟨some 71, .faddr 4 (.t 16), none⟩, ⟨none, .store 1 (.t 71) (.c (.int .i64 255)), none⟩]
def c7_15 : List LOper := [⟨some 72, .mov (.t 15), none⟩, ⟨some 73, .nilck (.t 72), none⟩, ⟨some 74, .faddr 0 (.t 73), none⟩, ⟨some 75, .load true 6 (.t 16), none⟩, ⟨some 76, .callr 24 [(.t 74), (.t 75)], none⟩]
def c7_16 : List LOper := [⟨some 17, .mov (.c (.int .i64 0)), none⟩]
def c7_17 : List LOper := [⟨some 77, .mov (.t 17), none⟩, ⟨some 78, .mov (.t 0), none⟩, ⟨some 79, .len (.t 78), none⟩, ⟨some 80, .ibin .lss (.t 77) (.t 79), none⟩]
def c7_18 : List LOper := [⟨some 81, .mov (.t 17), none⟩, ⟨some 82, .ibin .add (.t 81) (.c (.int .i64 1)), none⟩, ⟨some 18, .mov (.t 82), none⟩]
def c7_19 : List LOper := [⟨some 83, .mov (.t 18), none⟩, ⟨some 84, .mov (.t 0), none⟩, ⟨some 85, .len (.t 84), none⟩, ⟨some 86, .ibin .lss (.t 83) (.t 85), none⟩, ⟨some 87, .mov (.t 86), none⟩, ⟨some 88, .mov (.t 0), some (87, true)⟩, ⟨some 89, .mov (.t 18), some (87, true)⟩, ⟨some 90, .iaddr 3 (.t 88) (.t 89), some (87, true)⟩, ⟨some 91, .faddr 0 (.t 90), some (87, true)⟩, ⟨some 92, .load false 1 (.t 91), some (87, true)⟩, ⟨some 93, .mov (.t 0), some (87, true)⟩, ⟨some 94, .mov (.t 17), some (87, true)⟩, ⟨some 95, .iaddr 3 (.t 93) (.t 94), some (87, true)⟩, ⟨some 96, .faddr 0 (.t 95), some (87, true)⟩, ⟨some 97, .load false 1 (.t 96), some (87, true)⟩, ⟨some 98, .ibin .eql (.t 92) (.t 97), some (87, true)⟩, ⟨some 99, .pick (.t 87) (.t 98) (.c (.bool false)), none⟩]
def c7_20 : List LOper := [⟨some 100, .mov (.t 18), none⟩, ⟨some 101, .ibin .add (.t 100) (.c (.int .i64 1)), none⟩, ⟨some 18, .mov (.t 101), none⟩]
def Jll : LC := (.seq (.seq (.reg true c7_19) (.cond (.t 99) .skip (.seq (.trim [0, 9, 11, 15, 17, 18]) (.exit 4)))) (.blk 5 (.reg false c7_20)))
def c7_22 : List LOper := [⟨some 102, .mov (.t 15), none⟩, ⟨some 103, .mov (.t 0), none⟩, ⟨some 104, .mov (.t 17), none⟩, ⟨some 105, .mov (.t 18), none⟩, ⟨some 106, .slc 3 (.t 103) (some (.t 104)) (some (.t 105)), none⟩, ⟨some 107, .callr 25 [(.t 102), (.t 106)], none⟩]
def c7_23 : List LOper := [⟨some 108, .mov (.t 18), none⟩, ⟨some 17, .mov (.t 108), none⟩]
def Jj6 : LC := (.seq (.seq (.reg false c7_17) (.cond (.t 80) .skip (.seq (.trim [9, 11, 15]) (.exit 2)))) (.blk 3 (.seq (.reg false c7_18) (.seq (.blk 4 (.loop [0, 9, 11, 15, 17, 18] Jll)) (.seq (.reg false c7_22) (.reg false c7_23))))))
def c7_25 : List LOper := [⟨some 109, .mov (.t 15), none⟩, ⟨some 110, .nilck (.t 109), none⟩, ⟨some 111, .faddr 0 (.t 110), none⟩, ⟨some 112, .faddr 0 (.t 111), none⟩, ⟨some 113, .load false 1 (.t 112), none⟩, ⟨some 114, .load true 20 (.t 9), none⟩, ⟨some 116, .mov (.t 15), none⟩, ⟨some 117, .nilck (.t 116), none⟩, ⟨some 118, .faddr 22 (.t 117), none⟩, ⟨some 119, .load true 2 (.t 118), none⟩, ⟨some 115, .callz 26 [(.t 113), (.t 114)], none⟩, ⟨some 10, .mov (.t 115), none⟩, ⟨none, .store 2 (.t 11) (.t 119), none⟩, ⟨some 12, .mov (.c (.int .i64 0)), none⟩]
def lc7 : LC := (.seq (.reg false c7_0) (.seq (.seq (.reg false c7_1) (.cond (.t 39) (.seq (.reg false c7_2) .ret) .skip)) (.seq (.seq (.reg false c7_3) (.blk 0 (.loop [0, 2, 6, 8, 9, 11, 41, 42, 43] Jqs))) (.seq (.reg false c7_10) (.seq (.reg true c7_11) (.seq (.reg false c7_12) (.seq (.seq (.reg false c7_13) (.cond (.t 70) (.reg false c7_14) .skip)) (.seq (.reg true c7_15) (.seq (.seq (.reg false c7_16) (.blk 2 (.loop [0, 9, 11, 15, 17] Jj6))) (.seq (.reg true c7_25) .ret))))))))))
def lf7 : X5 := ⟨5, [.tmp 10, .cell 11 true 2, .tmp 12], true, lc7⟩
def hi7 : Yk := ⟨[(67, .r), (76, .r), (107, .r), (115, .z)], [none, none, none, none, none, none, some [0, 2, 6, 8, 9, 11, 41, 42, 43], none, some [0, 2, 6, 8, 9, 11], none, none, none, none, some [10, 11, 12], none, none, none, none, none, none, none, none, none, some [0, 9, 11, 15, 17], none, some [9, 11, 15], none, none, some [0, 9, 11, 15, 17, 18], none, some [0, 9, 11, 15, 17, 18], none, none, none, none, none, none], [(22, [0, 1, 2, 3, 4, 5, 7, 8, 9, 10, 6, 11, 12, 13])], []⟩
theorem lf7_ok : Ym Try.prog hi7 true Try.f7 = some ⟨lf7.np, lf7.res.map RV.base, lf7.pm, lf7.body⟩ := by kernel_rfl

/-! additive/additiveref35.Valid -/
def c13_0 : List LOper := [⟨some 1, .box (.t 0), none⟩, ⟨some 2, .mov (.c (.bool false)), none⟩]
def c13_1 : List LOper := [⟨some 3, .faddr 0 (.t 1), none⟩, ⟨some 4, .load false 1 (.t 3), none⟩, ⟨some 5, .callp 34 [(.t 4), (.c (.int .i64 32)), (.c (.int .i64 1024))], none⟩, ⟨some 6, .un .not (.t 5), none⟩, ⟨some 7, .mov (.t 6), none⟩, ⟨some 8, .faddr 0 (.t 1), some (7, false)⟩, ⟨some 9, .load false 1 (.t 8), some (7, false)⟩, ⟨some 10, .ibin .rem (.t 9) (.c (.int .i64 2)), some (7, false)⟩, ⟨some 11, .ibin .neq (.t 10) (.c (.int .i64 0)), some (7, false)⟩, ⟨some 12, .pick (.t 7) (.c (.bool true)) (.t 11), none⟩, ⟨some 13, .mov (.t 12), none⟩, ⟨some 14, .faddr 1 (.t 1), some (13, false)⟩, ⟨some 15, .load false 1 (.t 14), some (13, false)⟩, ⟨some 16, .callp 34 [(.t 15), (.c (.int .i64 4)), (.c (.int .i64 1024))], some (13, false)⟩, ⟨some 17, .un .not (.t 16), some (13, false)⟩, ⟨some 18, .pick (.t 13) (.c (.bool true)) (.t 17), none⟩, ⟨some 19, .mov (.t 18), none⟩, ⟨some 20, .faddr 1 (.t 1), some (19, false)⟩, ⟨some 21, .load false 1 (.t 20), some (19, false)⟩, ⟨some 22, .ibin .rem (.t 21) (.c (.int .i64 2)), some (19, false)⟩, ⟨some 23, .ibin .neq (.t 22) (.c (.int .i64 0)), some (19, false)⟩, ⟨some 24, .pick (.t 19) (.c (.bool true)) (.t 23), none⟩]
def c13_2 : List LOper := [⟨some 2, .mov (.c (.bool false)), none⟩]
def c13_3 : List LOper := [⟨some 25, .faddr 2 (.t 1), none⟩, ⟨some 26, .load false 1 (.t 25), none⟩, ⟨some 27, .callp 34 [(.t 26), (.c (.int .i64 0)), (.c (.int .i64 8))], none⟩, ⟨some 28, .un .not (.t 27), none⟩, ⟨some 29, .mov (.t 28), none⟩, ⟨some 30, .faddr 3 (.t 1), some (29, false)⟩, ⟨some 31, .load false 1 (.t 30), some (29, false)⟩, ⟨some 32, .callp 34 [(.t 31), (.c (.int .i64 0)), (.c (.int .i64 16))], some (29, false)⟩, ⟨some 33, .un .not (.t 32), some (29, false)⟩, ⟨some 34, .pick (.t 29) (.c (.bool true)) (.t 33), none⟩, ⟨some 35, .mov (.t 34), none⟩, ⟨some 36, .faddr 4 (.t 1), some (35, false)⟩, ⟨some 37, .load false 1 (.t 36), some (35, false)⟩, ⟨some 38, .callp 34 [(.t 37), (.c (.int .i64 0)), (.c (.int .i64 16))], some (35, false)⟩, ⟨some 39, .un .not (.t 38), some (35, false)⟩, ⟨some 40, .pick (.t 35) (.c (.bool true)) (.t 39), none⟩, ⟨some 41, .mov (.t 40), none⟩, ⟨some 42, .faddr 5 (.t 1), some (41, false)⟩, ⟨some 43, .load false 1 (.t 42), some (41, false)⟩, ⟨some 44, .callp 34 [(.t 43), (.c (.int .i64 0)), (.c (.int .i64 3))], some (41, false)⟩, ⟨some 45, .un .not (.t 44), some (41, false)⟩, ⟨some 46, .pick (.t 41) (.c (.bool true)) (.t 45), none⟩, ⟨some 47, .mov (.t 46), none⟩, ⟨some 48, .faddr 6 (.t 1), some (47, false)⟩, ⟨some 49, .load false 1 (.t 48), some (47, false)⟩, ⟨some 50, .callp 34 [(.t 49), (.c (.int .i64 1)), (.c (.int .i64 64))], some (47, false)⟩, ⟨some 51, .un .not (.t 50), some (47, false)⟩, ⟨some 52, .pick (.t 47) (.c (.bool true)) (.t 51), none⟩]
def c13_4 : List LOper := [⟨some 2, .mov (.c (.bool false)), none⟩]
def c13_5 : List LOper := [⟨some 53, .faddr 8 (.t 1), none⟩, ⟨some 54, .load false 1 (.t 53), none⟩, ⟨some 55, .callp 34 [(.t 54), (.c (.int .i64 0)), (.c (.int .i64 64))], none⟩, ⟨some 56, .un .not (.t 55), none⟩, ⟨some 57, .mov (.t 56), none⟩, ⟨some 58, .faddr 9 (.t 1), some (57, false)⟩, ⟨some 59, .load false 1 (.t 58), some (57, false)⟩, ⟨some 60, .callp 34 [(.t 59), (.c (.int .i64 0)), (.c (.int .i64 64))], some (57, false)⟩, ⟨some 61, .un .not (.t 60), some (57, false)⟩, ⟨some 62, .pick (.t 57) (.c (.bool true)) (.t 61), none⟩, ⟨some 63, .mov (.t 62), none⟩, ⟨some 64, .faddr 10 (.t 1), some (63, false)⟩, ⟨some 65, .load false 1 (.t 64), some (63, false)⟩, ⟨some 66, .callp 34 [(.t 65), (.c (.int .i64 0)), (.c (.int .i64 64))], some (63, false)⟩, ⟨some 67, .un .not (.t 66), some (63, false)⟩, ⟨some 68, .pick (.t 63) (.c (.bool true)) (.t 67), none⟩, ⟨some 69, .mov (.t 68), none⟩, ⟨some 70, .faddr 11 (.t 1), some (69, false)⟩, ⟨some 71, .load false 1 (.t 70), some (69, false)⟩, ⟨some 72, .callp 34 [(.t 71), (.c (.int .i64 0)), (.c (.int .i64 63))], some (69, false)⟩, ⟨some 73, .un .not (.t 72), some (69, false)⟩, ⟨some 74, .pick (.t 69) (.c (.bool true)) (.t 73), none⟩]
def c13_6 : List LOper := [⟨some 2, .mov (.c (.bool false)), none⟩]
def c13_7 : List LOper := [⟨some 75, .faddr 12 (.t 1), none⟩, ⟨some 76, .load false 1 (.t 75), none⟩, ⟨some 77, .callp 34 [(.t 76), (.c (.int .i64 1)), (.c (.int .i64 1073741824))], none⟩, ⟨some 78, .un .not (.t 77), none⟩, ⟨some 79, .mov (.t 78), none⟩, ⟨some 80, .faddr 13 (.t 1), some (79, false)⟩, ⟨some 81, .load false 1 (.t 80), some (79, false)⟩, ⟨some 82, .callp 34 [(.t 81), (.c (.int .i64 1)), (.c (.int .i64 1048576))], some (79, false)⟩, ⟨some 83, .un .not (.t 82), some (79, false)⟩, ⟨some 84, .pick (.t 79) (.c (.bool true)) (.t 83), none⟩, ⟨some 85, .mov (.t 84), none⟩, ⟨some 86, .faddr 14 (.t 1), some (85, false)⟩, ⟨some 87, .load false 1 (.t 86), some (85, false)⟩, ⟨some 88, .callp 34 [(.t 87), (.c (.int .i64 1)), (.c (.int .i64 1048576))], some (85, false)⟩, ⟨some 89, .un .not (.t 88), some (85, false)⟩, ⟨some 90, .pick (.t 85) (.c (.bool true)) (.t 89), none⟩, ⟨some 91, .mov (.t 90), none⟩, ⟨some 92, .faddr 15 (.t 1), some (91, false)⟩, ⟨some 93, .load false 1 (.t 92), some (91, false)⟩, ⟨some 94, .callp 34 [(.t 93), (.c (.int .i64 0)), (.c (.int .i64 65536))], some (91, false)⟩, ⟨some 95, .un .not (.t 94), some (91, false)⟩, ⟨some 96, .pick (.t 91) (.c (.bool true)) (.t 95), none⟩]
def c13_8 : List LOper := [⟨some 2, .mov (.c (.bool false)), none⟩]
def c13_9 : List LOper := [⟨some 97, .faddr 16 (.t 1), none⟩, ⟨some 98, .load false 1 (.t 97), none⟩, ⟨some 99, .callp 34 [(.t 98), (.c (.int .i64 0)), (.c (.int .i64 1048576))], none⟩, ⟨some 100, .mov (.t 99), none⟩, ⟨some 101, .faddr 17 (.t 1), some (100, true)⟩, ⟨some 102, .load false 1 (.t 101), some (100, true)⟩, ⟨some 103, .faddr 13 (.t 1), some (100, true)⟩, ⟨some 104, .load false 1 (.t 103), some (100, true)⟩, ⟨some 105, .callp 34 [(.t 102), (.c (.int .i64 1)), (.t 104)], some (100, true)⟩, ⟨some 106, .pick (.t 100) (.t 105) (.c (.bool false)), none⟩, ⟨some 107, .mov (.t 106), none⟩, ⟨some 108, .faddr 18 (.t 1), some (107, true)⟩, ⟨some 109, .load false 1 (.t 108), some (107, true)⟩, ⟨some 110, .callp 34 [(.t 109), (.c (.int .i64 0)), (.c (.int .i64 400000))], some (107, true)⟩, ⟨some 111, .pick (.t 107) (.t 110) (.c (.bool false)), none⟩, ⟨some 112, .mov (.t 111), none⟩, ⟨some 113, .faddr 19 (.t 1), some (112, true)⟩, ⟨some 114, .load false 1 (.t 113), some (112, true)⟩, ⟨some 115, .callp 34 [(.t 114), (.c (.int .i64 0)), (.c (.int .i64 400000))], some (112, true)⟩, ⟨some 116, .pick (.t 112) (.t 115) (.c (.bool false)), none⟩, ⟨some 2, .mov (.t 116), none⟩]
def lc13 : LC := (.seq (.reg false c13_0) (.seq (.seq (.reg false c13_1) (.cond (.t 24) (.seq (.reg false c13_2) .ret) .skip)) (.seq (.seq (.reg false c13_3) (.cond (.t 52) (.seq (.reg false c13_4) .ret) .skip)) (.seq (.seq (.reg false c13_5) (.cond (.t 74) (.seq (.reg false c13_6) .ret) .skip)) (.seq (.seq (.reg false c13_7) (.cond (.t 96) (.seq (.reg false c13_8) .ret) .skip)) (.seq (.reg false c13_9) .ret))))))
def lf13 : X5 := ⟨1, [.tmp 2], true, lc13⟩
def hi13 : Yk := ⟨[], [none, none, none, none, none, none, none, none, none, none, none, none, none, none, none, none, none, none, none], [], []⟩
theorem lf13_ok : Ym Try.prog hi13 true Try.f13 = some ⟨lf13.np, lf13.res.map RV.base, lf13.pm, lf13.body⟩ := by kernel_rfl

/-! additive/additivelaw38.near -/
def c14_0 : List LOper := [⟨some 2, .mov (.c (.bool false)), none⟩]
def c14_1 : List LOper := [⟨some 3, .mov (.c (.int .i64 0)), none⟩]
def c14_2 : List LOper := [⟨some 5, .mov (.t 3), none⟩, ⟨some 6, .mov (.t 0), none⟩, ⟨some 7, .len (.t 6), none⟩, ⟨some 8, .ibin .lss (.t 5) (.t 7), none⟩]
def c14_3 : List LOper := [⟨some 11, .mov (.t 0), none⟩, ⟨some 12, .mov (.t 3), none⟩, ⟨some 13, .iaddr 2 (.t 11) (.t 12), none⟩, ⟨some 14, .load true 2 (.t 13), none⟩, ⟨some 4, .alloc [.int .i64 0, .int .i64 0], none⟩, ⟨none, .store 2 (.t 4) (.t 14), none⟩]
def c14_4 : List LOper := [⟨some 15, .faddr 0 (.t 4), none⟩, ⟨some 16, .load false 1 (.t 15), none⟩, ⟨some 17, .ibin .gtr (.t 16) (.c (.int .i64 60)), none⟩, ⟨some 18, .mov (.t 17), none⟩, ⟨some 19, .faddr 0 (.t 4), some (18, true)⟩, ⟨some 20, .load false 1 (.t 19), some (18, true)⟩, ⟨some 21, .ibin .lss (.t 20) (.c (.int .i64 4096)), some (18, true)⟩, ⟨some 22, .pick (.t 18) (.t 21) (.c (.bool false)), none⟩, ⟨some 23, .mov (.t 22), none⟩, ⟨some 24, .faddr 1 (.t 4), some (23, false)⟩, ⟨some 25, .load false 1 (.t 24), some (23, false)⟩, ⟨some 26, .ibin .gtr (.t 25) (.c (.int .i64 60)), some (23, false)⟩, ⟨some 27, .mov (.t 26), some (23, false)⟩, ⟨some 28, .faddr 1 (.t 4), some (27, true)⟩, ⟨some 29, .load false 1 (.t 28), some (27, true)⟩, ⟨some 30, .ibin .lss (.t 29) (.c (.int .i64 4096)), some (27, true)⟩, ⟨some 31, .pick (.t 27) (.t 30) (.c (.bool false)), some (23, false)⟩, ⟨some 32, .pick (.t 23) (.c (.bool true)) (.t 31), none⟩, ⟨some 33, .mov (.t 32), none⟩, ⟨some 34, .faddr 0 (.t 4), some (33, false)⟩, ⟨some 35, .load false 1 (.t 34), some (33, false)⟩, ⟨some 36, .ibin .lss (.t 35) (.c (.int .i64 (-60))), some (33, false)⟩, ⟨some 37, .mov (.t 36), some (33, false)⟩, ⟨some 38, .faddr 0 (.t 4), some (37, true)⟩, ⟨some 39, .load false 1 (.t 38), some (37, true)⟩, ⟨some 40, .ibin .geq (.t 39) (.c (.int .i64 (-4096))), some (37, true)⟩, ⟨some 41, .pick (.t 37) (.t 40) (.c (.bool false)), some (33, false)⟩, ⟨some 42, .pick (.t 33) (.c (.bool true)) (.t 41), none⟩, ⟨some 43, .mov (.t 42), none⟩, ⟨some 44, .faddr 1 (.t 4), some (43, false)⟩, ⟨some 45, .load false 1 (.t 44), some (43, false)⟩, ⟨some 46, .ibin .lss (.t 45) (.c (.int .i64 (-60))), some (43, false)⟩, ⟨some 47, .mov (.t 46), some (43, false)⟩, ⟨some 48, .faddr 1 (.t 4), some (47, true)⟩, ⟨some 49, .load false 1 (.t 48), some (47, true)⟩, ⟨some 50, .ibin .geq (.t 49) (.c (.int .i64 (-4096))), some (47, true)⟩, ⟨some 51, .pick (.t 47) (.t 50) (.c (.bool false)), some (43, false)⟩, ⟨some 52, .pick (.t 43) (.c (.bool true)) (.t 51), none⟩]
def c14_5 : List LOper := [⟨some 2, .mov (.c (.bool false)), none⟩]
def c14_6 : List LOper := [⟨some 9, .mov (.t 3), none⟩, ⟨some 10, .ibin .add (.t 9) (.c (.int .i64 1)), none⟩, ⟨some 3, .mov (.t 10), none⟩]
def Jlf : LC := (.seq (.seq (.reg false c14_2) (.cond (.t 8) .skip (.seq (.trim []) (.exit 0)))) (.seq (.blk 1 (.seq (.reg false c14_3) (.seq (.reg false c14_4) (.cond (.t 52) (.seq (.reg false c14_5) (.seq (.trim [2]) .ret)) .skip)))) (.reg false c14_6)))
def c14_8 : List LOper := [⟨some 2, .mov (.c (.bool true)), none⟩]
def lc14 : LC := (.seq (.reg false c14_0) (.seq (.seq (.reg false c14_1) (.blk 0 (.loop [0, 3] Jlf))) (.seq (.reg false c14_8) .ret)))
def lf14 : X5 := ⟨1, [.tmp 2], true, lc14⟩
def hi14 : Yk := ⟨[], [none, none, some [0, 3], none, some [], none, none, none, none, some [2], none, none, none, none], [], []⟩
theorem lf14_ok : Ym Try.prog hi14 true Try.f14 = some ⟨lf14.np, lf14.res.map RV.base, lf14.pm, lf14.body⟩ := by kernel_rfl

/-! additive/additiveref18.Count -/
def c15_0 : List LOper := [⟨some 1, .box (.t 0), none⟩, ⟨some 2, .mov (.c (.int .i64 0)), none⟩]
def c15_1 : List LOper := [⟨some 3, .mov (.c (.int .i64 0)), none⟩]
def c15_2 : List LOper := [⟨some 6, .load true 1 (.t 1), none⟩, ⟨some 7, .callp 30 [(.t 6)], none⟩, ⟨some 8, .un .not (.t 7), none⟩]
def c15_3 : List LOper := [⟨some 9, .mov (.t 3), none⟩, ⟨some 2, .mov (.t 9), none⟩]
def c15_4 : List LOper := [⟨some 4, .mov (.c (.int .i64 0)), none⟩]
def c15_5 : List LOper := [⟨some 10, .mov (.t 4), none⟩, ⟨some 11, .faddr 0 (.t 1), none⟩, ⟨some 12, .load false 1 (.t 11), none⟩, ⟨some 13, .len (.t 12), none⟩, ⟨some 14, .ibin .lss (.t 10) (.t 13), none⟩]
def c15_6 : List LOper := [⟨some 5, .mov (.c (.int .i64 0)), none⟩]
def c15_7 : List LOper := [⟨some 17, .mov (.t 5), none⟩, ⟨some 18, .faddr 0 (.t 1), none⟩, ⟨some 19, .load false 1 (.t 18), none⟩, ⟨some 20, .mov (.t 4), none⟩, ⟨some 21, .iaddr 2 (.t 19) (.t 20), none⟩, ⟨some 22, .faddr 1 (.t 21), none⟩, ⟨some 23, .load false 1 (.t 22), none⟩, ⟨some 24, .len (.t 23), none⟩, ⟨some 25, .ibin .lss (.t 17) (.t 24), none⟩]
def c15_8 : List LOper := [⟨some 28, .mov (.t 3), none⟩, ⟨some 29, .faddr 0 (.t 1), none⟩, ⟨some 30, .load false 1 (.t 29), none⟩, ⟨some 31, .mov (.t 4), none⟩, ⟨some 32, .iaddr 2 (.t 30) (.t 31), none⟩, ⟨some 33, .faddr 1 (.t 32), none⟩, ⟨some 34, .load false 1 (.t 33), none⟩, ⟨some 35, .mov (.t 5), none⟩, ⟨some 36, .iaddr 2 (.t 34) (.t 35), none⟩, ⟨some 37, .faddr 1 (.t 36), none⟩, ⟨some 38, .load false 1 (.t 37), none⟩, ⟨some 39, .faddr 0 (.t 1), none⟩, ⟨some 40, .load false 1 (.t 39), none⟩, ⟨some 41, .mov (.t 4), none⟩, ⟨some 42, .iaddr 2 (.t 40) (.t 41), none⟩, ⟨some 43, .faddr 1 (.t 42), none⟩, ⟨some 44, .load false 1 (.t 43), none⟩, ⟨some 45, .mov (.t 5), none⟩, ⟨some 46, .iaddr 2 (.t 44) (.t 45), none⟩, ⟨some 47, .faddr 0 (.t 46), none⟩, ⟨some 48, .load false 1 (.t 47), none⟩, ⟨some 49, .ibin .sub (.t 38) (.t 48), none⟩, ⟨some 50, .ibin .add (.t 28) (.t 49), none⟩, ⟨some 3, .mov (.t 50), none⟩]
def c15_9 : List LOper := [⟨some 26, .mov (.t 5), none⟩, ⟨some 27, .ibin .add (.t 26) (.c (.int .i64 1)), none⟩, ⟨some 5, .mov (.t 27), none⟩]
def Jjv : LC := (.seq (.seq (.reg false c15_7) (.cond (.t 25) .skip (.seq (.trim [1, 3, 4]) (.exit 2)))) (.seq (.blk 3 (.reg true c15_8)) (.reg false c15_9)))
def Jxn : List LOper := [⟨some 15, .mov (.t 4), none⟩, ⟨some 16, .ibin .add (.t 15) (.c (.int .i64 1)), none⟩, ⟨some 4, .mov (.t 16), none⟩]
def Jlo : LC := (.seq (.seq (.reg false c15_5) (.cond (.t 14) .skip (.seq (.trim [3]) (.exit 0)))) (.seq (.blk 1 (.seq (.reg false c15_6) (.blk 2 (.loop [1, 3, 4, 5] Jjv)))) (.reg false Jxn)))
def c15_13 : List LOper := [⟨some 51, .mov (.t 3), none⟩, ⟨some 2, .mov (.t 51), none⟩]
def lc15 : LC := (.seq (.reg false c15_0) (.seq (.reg false c15_1) (.seq (.seq (.reg false c15_2) (.cond (.t 8) (.seq (.reg false c15_3) .ret) .skip)) (.seq (.seq (.reg false c15_4) (.blk 0 (.loop [1, 3, 4] Jlo))) (.seq (.reg false c15_13) .ret)))))
def lf15 : X5 := ⟨1, [.tmp 2], true, lc15⟩
def hi15 : Yk := ⟨[], [none, none, none, none, none, none, none, some [1, 3, 4], none, some [3], none, none, some [1, 3, 4, 5], none, some [1, 3, 4], none, none, none, none, none, none], [], []⟩
theorem lf15_ok : Ym Try.prog hi15 true Try.f15 = some ⟨lf15.np, lf15.res.map RV.base, lf15.pm, lf15.body⟩ := by kernel_rfl

/-! additive/additivelaw38.settings -/
def c16_0 : List LOper := [⟨some 0, .alloc [.int .i64 0, .int .i64 0, .int .i64 0, .int .i64 0, .int .i64 0, .int .i64 0, .int .i64 0, .bool false, .int .i64 0, .int .i64 0, .int .i64 0, .int .i64 0, .int .i64 0, .int .i64 0, .int .i64 0, .int .i64 0, .int .i64 0, .int .i64 0, .int .i64 0, .int .i64 0], none⟩]
def c16_1 : List LOper := [⟨some 1, .build [.int .i64 0, .int .i64 0, .int .i64 0, .int .i64 0, .int .i64 0, .int .i64 0, .int .i64 0, .bool false, .int .i64 0, .int .i64 0, .int .i64 0, .int .i64 0, .int .i64 0, .int .i64 0, .int .i64 0, .int .i64 0, .int .i64 0, .int .i64 0, .int .i64 0, .int .i64 0] [(0, 1, (.c (.int .i64 40))), (1, 1, (.c (.int .i64 20))), (6, 1, (.c (.int .i64 1))), (12, 1, (.c (.int .i64 8000))), (13, 1, (.c (.int .i64 4000))), (14, 1, (.c (.int .i64 8000))), (17, 1, (.c (.int .i64 40)))], none⟩, ⟨none, .store 20 (.t 0) (.t 1), none⟩]
def lc16 : LC := (.seq (.reg false c16_0) (.seq (.reg false c16_1) .ret))
def lf16 : X5 := ⟨0, [.cell 0 true 20], true, lc16⟩
def hi16 : Yk := ⟨[], [none, none, none], [], []⟩
theorem lf16_ok : Ym Try.prog hi16 true Try.f16 = some ⟨lf16.np, lf16.res.map RV.base, lf16.pm, lf16.body⟩ := by kernel_rfl

/-! additive/additiveref38.SameOps -/
def c17_0 : List LOper := [⟨some 4, .mov (.c (.bool false)), none⟩]
def c17_1 : List LOper := [⟨some 9, .mov (.t 0), none⟩, ⟨some 10, .len (.t 9), none⟩, ⟨some 11, .mov (.t 1), none⟩, ⟨some 12, .len (.t 11), none⟩, ⟨some 13, .ibin .neq (.t 10) (.t 12), none⟩]
def c17_2 : List LOper := [⟨some 4, .mov (.c (.bool false)), none⟩]
def c17_3 : List LOper := [⟨some 5, .mov (.c (.int .i64 0)), none⟩]
def c17_4 : List LOper := [⟨some 14, .mov (.t 5), none⟩, ⟨some 15, .mov (.t 0), none⟩, ⟨some 16, .len (.t 15), none⟩, ⟨some 17, .ibin .lss (.t 14) (.t 16), none⟩]
def c17_5 : List LOper := [⟨some 20, .mov (.t 0), none⟩, ⟨some 21, .mov (.t 5), none⟩, ⟨some 22, .iaddr 6 (.t 20) (.t 21), none⟩, ⟨some 23, .load true 6 (.t 22), none⟩, ⟨some 24, .mov (.t 1), none⟩, ⟨some 25, .mov (.t 5), none⟩, ⟨some 26, .msk [6, 7] (.iaddr 6 (.t 24) (.t 25)), none⟩, ⟨some 27, .msk [6, 7] (.load true 6 (.t 26)), none⟩, ⟨some 6, .alloc [.int .i64 0, .int .i64 0, .int .i64 0, .int .i64 0, .int .i64 0, .nils], none⟩, ⟨some 7, .alloc [.int .i64 0, .int .i64 0, .int .i64 0, .int .i64 0, .int .i64 0, .nils], none⟩, ⟨none, .ston [6, 7] 6 (.t 6) (.t 23), none⟩, ⟨none, .ston [6, 7] 6 (.t 7) (.t 27), none⟩]
def c17_6 : List LOper := [⟨some 28, .faddr 0 (.t 6), none⟩, ⟨some 29, .load false 1 (.t 28), none⟩, ⟨some 30, .faddr 0 (.t 7), none⟩, ⟨some 31, .load false 1 (.t 30), none⟩, ⟨some 32, .ibin .neq (.t 29) (.t 31), none⟩, ⟨some 33, .mov (.t 32), none⟩, ⟨some 34, .faddr 1 (.t 6), some (33, false)⟩, ⟨some 35, .load false 1 (.t 34), some (33, false)⟩, ⟨some 36, .faddr 1 (.t 7), some (33, false)⟩, ⟨some 37, .load false 1 (.t 36), some (33, false)⟩, ⟨some 38, .ibin .neq (.t 35) (.t 37), some (33, false)⟩, ⟨some 39, .pick (.t 33) (.c (.bool true)) (.t 38), none⟩, ⟨some 40, .mov (.t 39), none⟩, ⟨some 41, .faddr 2 (.t 6), some (40, false)⟩, ⟨some 42, .load false 1 (.t 41), some (40, false)⟩, ⟨some 43, .faddr 2 (.t 7), some (40, false)⟩, ⟨some 44, .load false 1 (.t 43), some (40, false)⟩, ⟨some 45, .ibin .neq (.t 42) (.t 44), some (40, false)⟩, ⟨some 46, .pick (.t 40) (.c (.bool true)) (.t 45), none⟩, ⟨some 47, .mov (.t 46), none⟩, ⟨some 48, .faddr 3 (.t 6), some (47, false)⟩, ⟨some 49, .load false 1 (.t 48), some (47, false)⟩, ⟨some 50, .faddr 3 (.t 7), some (47, false)⟩, ⟨some 51, .load false 1 (.t 50), some (47, false)⟩, ⟨some 52, .ibin .neq (.t 49) (.t 51), some (47, false)⟩, ⟨some 53, .pick (.t 47) (.c (.bool true)) (.t 52), none⟩, ⟨some 54, .mov (.t 53), none⟩, ⟨some 55, .faddr 4 (.t 6), some (54, false)⟩, ⟨some 56, .load false 1 (.t 55), some (54, false)⟩, ⟨some 57, .faddr 4 (.t 7), some (54, false)⟩, ⟨some 58, .load false 1 (.t 57), some (54, false)⟩, ⟨some 59, .ibin .neq (.t 56) (.t 58), some (54, false)⟩, ⟨some 60, .pick (.t 54) (.c (.bool true)) (.t 59), none⟩, ⟨some 61, .mov (.t 60), none⟩, ⟨some 62, .faddr 5 (.t 6), some (61, false)⟩, ⟨some 63, .load false 1 (.t 62), some (61, false)⟩, ⟨some 64, .len (.t 63), some (61, false)⟩, ⟨some 65, .faddr 5 (.t 7), some (61, false)⟩, ⟨some 66, .load false 1 (.t 65), some (61, false)⟩, ⟨some 67, .len (.t 66), some (61, false)⟩, ⟨some 68, .ibin .neq (.t 64) (.t 67), some (61, false)⟩, ⟨some 69, .pick (.t 61) (.c (.bool true)) (.t 68), none⟩]
def c17_7 : List LOper := [⟨some 4, .mov (.c (.bool false)), none⟩]
def c17_8 : List LOper := [⟨some 8, .mov (.c (.int .i64 0)), none⟩]
def c17_9 : List LOper := [⟨some 70, .mov (.t 8), none⟩, ⟨some 71, .faddr 5 (.t 6), none⟩, ⟨some 72, .load false 1 (.t 71), none⟩, ⟨some 73, .len (.t 72), none⟩, ⟨some 74, .ibin .lss (.t 70) (.t 73), none⟩]
def c17_10 : List LOper := [⟨some 77, .faddr 5 (.t 6), none⟩, ⟨some 78, .load false 1 (.t 77), none⟩, ⟨some 79, .mov (.t 8), none⟩, ⟨some 80, .iaddr 2 (.t 78) (.t 79), none⟩, ⟨some 81, .load true 2 (.t 80), none⟩, ⟨some 82, .faddr 5 (.t 7), none⟩, ⟨some 83, .load false 1 (.t 82), none⟩, ⟨some 84, .mov (.t 8), none⟩, ⟨some 85, .iaddr 2 (.t 83) (.t 84), none⟩, ⟨some 86, .load true 2 (.t 85), none⟩, ⟨some 87, .eqv true true [false, false] (.t 81) (.t 86), none⟩]
def c17_11 : List LOper := [⟨some 4, .mov (.c (.bool false)), none⟩]
def c17_12 : List LOper := [⟨some 75, .mov (.t 8), none⟩, ⟨some 76, .ibin .add (.t 75) (.c (.int .i64 1)), none⟩, ⟨some 8, .mov (.t 76), none⟩]
def c17_L0 : LC := (.seq (.seq (.reg false c17_9) (.cond (.t 74) .skip (.seq (.trim [0, 1, 5]) (.exit 2)))) (.seq (.blk 3 (.seq (.reg true c17_10) (.cond (.t 87) (.seq (.reg false c17_11) (.seq (.trim [4]) .ret)) .skip))) (.reg false c17_12)))
def c17_14 : List LOper := [⟨some 18, .mov (.t 5), none⟩, ⟨some 19, .ibin .add (.t 18) (.c (.int .i64 1)), none⟩, ⟨some 5, .mov (.t 19), none⟩]
def c17_L1 : LC := (.seq (.seq (.reg false c17_4) (.cond (.t 17) .skip (.seq (.trim []) (.exit 0)))) (.seq (.blk 1 (.seq (.reg true c17_5) (.seq (.seq (.reg false c17_6) (.cond (.t 69) (.seq (.reg false c17_7) (.seq (.trim [4]) .ret)) .skip)) (.seq (.reg false c17_8) (.blk 2 (.loop [0, 1, 5, 6, 7, 8] c17_L0)))))) (.reg false c17_14)))
def c17_16 : List LOper := [⟨some 4, .mov (.c (.bool true)), none⟩]
def lc17 : LC := (.seq (.reg false c17_0) (.seq (.seq (.reg false c17_1) (.cond (.t 13) (.seq (.reg false c17_2) .ret) .skip)) (.seq (.seq (.reg false c17_3) (.blk 0 (.loop [0, 1, 5] c17_L1))) (.seq (.reg false c17_16) .ret))))
def lf17 : X5 := ⟨2, [.tmp 4], true, lc17⟩
def hi17 : Yk := ⟨[], [none, none, none, none, none, none, some [0, 1, 5], none, some [], none, none, none, none, some [4], none, none, some [0, 1, 5, 6, 7, 8], none, some [0, 1, 5], none, none, none, some [4], none, none, none, none, none], [], [(6, [6, 7], [26, 27])]⟩
theorem lf17_ok : Ym Try.prog hi17 true Try.f17 = some ⟨lf17.np, lf17.res.map RV.base, lf17.pm, lf17.body⟩ := by kernel_rfl

/-! additive/toolpath.Check -/
def c18_0 : List LOper := [⟨some 2, .mov (.c (.int .i64 0)), none⟩]
def c18_1 : List LOper := [⟨some 9, .mov (.t 0), none⟩, ⟨some 10, .len (.t 9), none⟩, ⟨some 11, .mov (.c (.int .i64 0)), none⟩]
def c18_2 : List LOper := [⟨some 12, .ibin .lss (.t 11) (.t 10), none⟩]
def c18_3 : List LOper := [⟨some 13, .iaddr 6 (.t 9) (.t 11), none⟩, ⟨some 14, .load true 6 (.t 13), none⟩, ⟨some 4, .alloc [.int .i64 0, .int .i64 0, .int .i64 0, .int .i64 0, .int .i64 0, .nils], none⟩, ⟨none, .store 6 (.t 4) (.t 14), none⟩]
def c18_4 : List LOper := [⟨some 15, .load true 6 (.t 4), none⟩, ⟨some 16, .callp 35 [(.t 15)], none⟩, ⟨some 17, .un .not (.t 16), none⟩]
def c18_5 : List LOper := [⟨some 2, .mov (.c (.int .i64 1)), none⟩]
def c18_6 : List LOper := [⟨some 18, .ibin .add (.t 11) (.c (.int .i64 1)), none⟩, ⟨some 11, .mov (.t 18), none⟩]
def c18_L0 : LC := (.seq (.reg false c18_2) (.seq (.cond (.t 12) .skip (.seq (.trim [0]) (.exit 0))) (.seq (.blk 1 (.seq (.reg false c18_3) (.seq (.reg false c18_4) (.cond (.t 17) (.seq (.reg false c18_5) (.seq (.trim [2]) .ret)) .skip)))) (.reg false c18_6))))
def c18_8 : List LOper := [⟨some 19, .build [.int .i64 0, .int .i64 0] [], none⟩, ⟨some 5, .alloc [.int .i64 0, .int .i64 0], none⟩, ⟨none, .store 2 (.t 5) (.t 19), none⟩, ⟨some 6, .mov (.c (.bool false)), none⟩]
def c18_9 : List LOper := [⟨some 20, .mov (.t 0), none⟩, ⟨some 21, .len (.t 20), none⟩, ⟨some 22, .mov (.c (.int .i64 0)), none⟩]
def c18_10 : List LOper := [⟨some 23, .ibin .lss (.t 22) (.t 21), none⟩]
def c18_11 : List LOper := [⟨some 24, .mov (.t 22), none⟩, ⟨some 25, .iaddr 6 (.t 20) (.t 22), none⟩, ⟨some 26, .load true 6 (.t 25), none⟩, ⟨some 8, .alloc [.int .i64 0, .int .i64 0, .int .i64 0, .int .i64 0, .int .i64 0, .nils], none⟩, ⟨some 7, .mov (.t 24), none⟩, ⟨none, .store 6 (.t 8) (.t 26), none⟩]
def c18_12 : List LOper := [⟨some 27, .mov (.t 7), none⟩, ⟨some 28, .ibin .eql (.t 27) (.c (.int .i64 0)), none⟩, ⟨some 29, .mov (.t 28), none⟩, ⟨some 30, .faddr 0 (.t 8), some (29, true)⟩, ⟨some 31, .load false 1 (.t 30), some (29, true)⟩, ⟨some 32, .ibin .neq (.t 31) (.c (.int .i64 1)), some (29, true)⟩, ⟨some 33, .pick (.t 29) (.t 32) (.c (.bool false)), none⟩]
def c18_13 : List LOper := [⟨some 2, .mov (.c (.int .i64 11)), none⟩]
def c18_14 : List LOper := [⟨some 34, .faddr 0 (.t 8), none⟩, ⟨some 35, .load false 1 (.t 34), none⟩]
def c18_15 : List LOper := [⟨some 37, .ibin .eql (.t 35) (.c (.int .i64 2)), none⟩, ⟨some 36, .mov (.t 37), none⟩]
def c18_16 : List LOper := [⟨some 38, .ibin .eql (.t 35) (.c (.int .i64 3)), none⟩, ⟨some 36, .mov (.t 38), none⟩]
def c18_17 : List LOper := [⟨some 39, .load true 6 (.t 8), none⟩, ⟨some 40, .load true 2 (.t 5), none⟩, ⟨some 41, .callp 36 [(.t 39), (.t 40)], none⟩, ⟨some 42, .un .not (.t 41), none⟩, ⟨some 43, .mov (.t 42), none⟩, ⟨some 44, .mov (.t 6), some (43, false)⟩, ⟨some 45, .mov (.t 44), some (43, false)⟩, ⟨some 46, .faddr 0 (.t 8), some (45, true)⟩, ⟨some 47, .load false 1 (.t 46), some (45, true)⟩, ⟨some 48, .ibin .eql (.t 47) (.c (.int .i64 3)), some (45, true)⟩, ⟨some 49, .pick (.t 45) (.t 48) (.c (.bool false)), some (43, false)⟩, ⟨some 50, .pick (.t 43) (.c (.bool true)) (.t 49), none⟩]
def c18_18 : List LOper := [⟨some 2, .mov (.c (.int .i64 11)), none⟩]
def c18_19 : List LOper := [⟨some 51, .faddr 5 (.t 8), none⟩, ⟨some 52, .load false 1 (.t 51), none⟩, ⟨some 53, .faddr 5 (.t 8), none⟩, ⟨some 54, .load false 1 (.t 53), none⟩, ⟨some 55, .len (.t 54), none⟩, ⟨some 56, .ibin .sub (.t 55) (.c (.int .i64 1)), none⟩, ⟨some 57, .iaddr 2 (.t 52) (.t 56), none⟩, ⟨some 58, .load true 2 (.t 57), none⟩, ⟨none, .store 2 (.t 5) (.t 58), none⟩]
def c18_20 : List LOper := [⟨some 60, .ibin .eql (.t 35) (.c (.int .i64 4)), none⟩, ⟨some 59, .mov (.t 60), none⟩]
def c18_21 : List LOper := [⟨some 61, .ibin .eql (.t 35) (.c (.int .i64 5)), none⟩, ⟨some 59, .mov (.t 61), none⟩]
def c18_22 : List LOper := [⟨some 62, .mov (.t 6), none⟩, ⟨some 63, .faddr 0 (.t 8), none⟩, ⟨some 64, .load false 1 (.t 63), none⟩, ⟨some 65, .ibin .eql (.t 64) (.c (.int .i64 4)), none⟩, ⟨some 66, .eqv false false [true] (.t 62) (.t 65), none⟩]
def c18_23 : List LOper := [⟨some 2, .mov (.c (.int .i64 11)), none⟩]
def c18_24 : List LOper := [⟨some 67, .mov (.t 6), none⟩, ⟨some 68, .un .not (.t 67), none⟩, ⟨some 6, .mov (.t 68), none⟩]
def c18_25 : List LOper := [⟨some 69, .ibin .add (.t 22) (.c (.int .i64 1)), none⟩, ⟨some 22, .mov (.t 69), none⟩]
def c18_L1 : LC := (.seq (.reg false c18_10) (.seq (.cond (.t 23) .skip (.seq (.trim []) (.exit 2))) (.seq (.blk 3 (.seq (.reg false c18_11) (.seq (.seq (.reg false c18_12) (.cond (.t 33) (.seq (.reg false c18_13) (.seq (.trim [2]) .ret)) .skip)) (.seq (.reg false c18_14) (.blk 4 (.seq (.seq (.reg false c18_15) (.cond (.t 36) .skip (.reg false c18_16))) (.cond (.t 36) (.seq (.seq (.reg false c18_17) (.cond (.t 50) (.seq (.reg false c18_18) (.seq (.trim [2]) .ret)) .skip)) (.reg false c18_19)) (.seq (.seq (.reg false c18_20) (.cond (.t 59) .skip (.reg false c18_21))) (.cond (.t 59) (.seq (.seq (.reg false c18_22) (.cond (.t 66) (.seq (.reg false c18_23) (.seq (.trim [2]) .ret)) .skip)) (.reg false c18_24)) .skip))))))))) (.reg false c18_25))))
def c18_27 : List LOper := [⟨some 2, .mov (.c (.int .i64 0)), none⟩]
def lc18 : LC := (.seq (.reg false c18_0) (.seq (.seq (.reg false c18_1) (.blk 0 (.loop [0, 9, 10, 11] c18_L0))) (.seq (.reg false c18_8) (.seq (.seq (.reg false c18_9) (.blk 2 (.loop [5, 6, 20, 21, 22] c18_L1))) (.seq (.reg false c18_27) .ret)))))
def lf18 : X5 := ⟨1, [.tmp 2], true, lc18⟩
def hi18 : Yk := ⟨[], [none, none, some [0, 9, 10, 11], none, some [0], none, none, none, none, some [2], none, none, none, none, some [5, 6, 20, 21, 22], none, some [], none, none, none, none, some [2], none, none, none, none, none, none, some [2], none, none, none, none, none, some [2], none, none, none, none, none], [], []⟩
theorem lf18_ok : Ym Try.prog hi18 true Try.f18 = some ⟨lf18.np, lf18.res.map RV.base, lf18.pm, lf18.body⟩ := by kernel_rfl

/-! additive/toolpath.Printed -/
def c19_0 : List LOper := [⟨some 4, .mov (.c (.nils)), none⟩]
def c19_1 : List LOper := [⟨some 5, .mov (.c (.nils)), none⟩]
def c19_2 : List LOper := [⟨some 6, .mov (.c (.bool false)), none⟩]
def c19_3 : List LOper := [⟨some 9, .mov (.t 0), none⟩, ⟨some 10, .len (.t 9), none⟩, ⟨some 11, .mov (.c (.int .i64 0)), none⟩]
def c19_4 : List LOper := [⟨some 12, .ibin .lss (.t 11) (.t 10), none⟩]
def c19_5 : List LOper := [⟨some 13, .iaddr 6 (.t 9) (.t 11), none⟩, ⟨some 14, .load true 6 (.t 13), none⟩, ⟨some 8, .alloc [.int .i64 0, .int .i64 0, .int .i64 0, .int .i64 0, .int .i64 0, .nils], none⟩, ⟨none, .store 6 (.t 8) (.t 14), none⟩]
def c19_6 : List LOper := [⟨some 16, .faddr 0 (.t 8), none⟩, ⟨some 17, .load false 1 (.t 16), none⟩, ⟨some 18, .ibin .eql (.t 17) (.c (.int .i64 1)), none⟩, ⟨some 15, .mov (.t 18), none⟩]
def c19_7 : List LOper := [⟨some 19, .faddr 2 (.t 8), none⟩, ⟨some 20, .load false 1 (.t 19), none⟩, ⟨some 21, .mov (.t 1), none⟩, ⟨some 22, .ibin .eql (.t 20) (.t 21), none⟩, ⟨some 6, .mov (.t 22), none⟩]
def c19_8 : List LOper := [⟨some 24, .faddr 0 (.t 8), none⟩, ⟨some 25, .load false 1 (.t 24), none⟩, ⟨some 26, .ibin .eql (.t 25) (.c (.int .i64 3)), none⟩, ⟨some 27, .mov (.t 26), none⟩, ⟨some 28, .mov (.t 6), some (27, true)⟩, ⟨some 29, .pick (.t 27) (.t 28) (.c (.bool false)), none⟩, ⟨some 23, .mov (.t 29), none⟩]
def c19_9 : List LOper := [⟨some 30, .mov (.t 5), none⟩, ⟨some 31, .faddr 5 (.t 8), none⟩, ⟨some 32, .load false 1 (.t 31), none⟩, ⟨some 33, .app 2 16 27 [.int .i64 0, .int .i64 0] (.t 30) (.t 32), none⟩, ⟨some 5, .mov (.t 33), none⟩]
def c19_10 : List LOper := [⟨some 34, .ibin .add (.t 11) (.c (.int .i64 1)), none⟩, ⟨some 11, .mov (.t 34), none⟩]
def c19_L0 : LC := (.seq (.reg false c19_4) (.seq (.cond (.t 12) .skip (.seq (.trim [5]) (.exit 0))) (.seq (.blk 1 (.seq (.reg false c19_5) (.blk 2 (.seq (.reg false c19_6) (.cond (.t 15) (.reg false c19_7) (.seq (.reg false c19_8) (.cond (.t 23) (.reg false c19_9) .skip))))))) (.reg false c19_10))))
def c19_12 : List LOper := [⟨some 35, .mov (.t 5), none⟩, ⟨some 4, .mov (.t 35), none⟩]
def lc19 : LC := (.seq (.reg false c19_0) (.seq (.reg false c19_1) (.seq (.reg false c19_2) (.seq (.seq (.reg false c19_3) (.blk 0 (.loop [1, 5, 6, 9, 10, 11] c19_L0))) (.seq (.reg false c19_12) .ret)))))
def lf19 : X5 := ⟨2, [.tmp 4], true, lc19⟩
def hi19 : Yk := ⟨[], [none, none, none, none, some [1, 5, 6, 9, 10, 11], none, some [5], none, none, none, none, none, none, none, none], [], []⟩
theorem lf19_ok : Ym Try.prog hi19 true Try.f19 = some ⟨lf19.np, lf19.res.map RV.base, lf19.pm, lf19.body⟩ := by kernel_rfl

/-! additive/flow.Valid -/
def c20_0 : List LOper := [⟨some 1, .box (.t 0), none⟩, ⟨some 2, .mov (.c (.bool false)), none⟩]
def c20_1 : List LOper := [⟨some 3, .load true 20 (.t 1), none⟩, ⟨some 4, .callp 37 [(.t 3)], none⟩, ⟨some 5, .build [.bool false, .bool false, .bool false, .bool false, .bool false, .bool false, .bool false] [], none⟩, ⟨some 6, .eqv false true [true, true, true, true, true, true, true] (.t 4) (.t 5), none⟩, ⟨some 2, .mov (.t 6), none⟩]
def lc20 : LC := (.seq (.reg false c20_0) (.seq (.reg false c20_1) .ret))
def lf20 : X5 := ⟨1, [.tmp 2], true, lc20⟩
def hi20 : Yk := ⟨[], [none, none, none], [], []⟩
theorem lf20_ok : Ym Try.prog hi20 true Try.f20 = some ⟨lf20.np, lf20.res.map RV.base, lf20.pm, lf20.body⟩ := by kernel_rfl

/-! additive/region.Valid -/
def c21_0 : List LOper := [⟨some 1, .box (.t 0), none⟩, ⟨some 2, .mov (.c (.bool false)), none⟩]
def c21_1 : List LOper := [⟨some 5, .faddr 0 (.t 1), none⟩, ⟨some 6, .load false 1 (.t 5), none⟩, ⟨some 7, .len (.t 6), none⟩, ⟨some 8, .mov (.c (.int .i64 0)), none⟩]
def c21_2 : List LOper := [⟨some 9, .ibin .lss (.t 8) (.t 7), none⟩]
def c21_3 : List LOper := [⟨some 10, .mov (.t 8), none⟩, ⟨some 11, .iaddr 2 (.t 6) (.t 8), none⟩, ⟨some 12, .load true 2 (.t 11), none⟩, ⟨some 4, .alloc [.int .i64 0, .nils], none⟩, ⟨some 3, .mov (.t 10), none⟩, ⟨none, .store 2 (.t 4) (.t 12), none⟩]
def c21_4 : List LOper := [⟨some 13, .faddr 0 (.t 4), none⟩, ⟨some 14, .load false 1 (.t 13), none⟩, ⟨some 15, .callp 38 [(.t 14)], none⟩, ⟨some 16, .un .not (.t 15), none⟩, ⟨some 17, .mov (.t 16), none⟩, ⟨some 18, .mov (.t 3), some (17, false)⟩, ⟨some 19, .ibin .gtr (.t 18) (.c (.int .i64 0)), some (17, false)⟩, ⟨some 20, .mov (.t 19), some (17, false)⟩, ⟨some 21, .faddr 0 (.t 4), some (20, true)⟩, ⟨some 22, .load false 1 (.t 21), some (20, true)⟩, ⟨some 23, .faddr 0 (.t 1), some (20, true)⟩, ⟨some 24, .load false 1 (.t 23), some (20, true)⟩, ⟨some 25, .mov (.t 3), some (20, true)⟩, ⟨some 26, .ibin .sub (.t 25) (.c (.int .i64 1)), some (20, true)⟩, ⟨some 27, .iaddr 2 (.t 24) (.t 26), some (20, true)⟩, ⟨some 28, .faddr 0 (.t 27), some (20, true)⟩, ⟨some 29, .load false 1 (.t 28), some (20, true)⟩, ⟨some 30, .ibin .leq (.t 22) (.t 29), some (20, true)⟩, ⟨some 31, .pick (.t 20) (.t 30) (.c (.bool false)), some (17, false)⟩, ⟨some 32, .pick (.t 17) (.c (.bool true)) (.t 31), none⟩, ⟨some 33, .mov (.t 32), none⟩, ⟨some 34, .faddr 1 (.t 4), some (33, false)⟩, ⟨some 35, .load false 1 (.t 34), some (33, false)⟩, ⟨some 36, .len (.t 35), some (33, false)⟩, ⟨some 37, .ibin .eql (.t 36) (.c (.int .i64 0)), some (33, false)⟩, ⟨some 38, .pick (.t 33) (.c (.bool true)) (.t 37), none⟩, ⟨some 39, .mov (.t 38), none⟩, ⟨some 40, .faddr 1 (.t 4), some (39, false)⟩, ⟨some 41, .load false 1 (.t 40), some (39, false)⟩, ⟨some 42, .callp 39 [(.t 41)], some (39, false)⟩, ⟨some 43, .un .not (.t 42), some (39, false)⟩, ⟨some 44, .pick (.t 39) (.c (.bool true)) (.t 43), none⟩]
def c21_5 : List LOper := [⟨some 2, .mov (.c (.bool false)), none⟩]
def c21_6 : List LOper := [⟨some 45, .faddr 1 (.t 4), none⟩, ⟨some 46, .load false 1 (.t 45), none⟩, ⟨some 47, .iaddr 2 (.t 46) (.c (.int .i64 0)), none⟩, ⟨some 48, .faddr 0 (.t 47), none⟩, ⟨some 49, .load false 1 (.t 48), none⟩, ⟨some 50, .callp 38 [(.t 49)], none⟩, ⟨some 51, .un .not (.t 50), none⟩, ⟨some 52, .mov (.t 51), none⟩, ⟨some 53, .faddr 1 (.t 4), some (52, false)⟩, ⟨some 54, .load false 1 (.t 53), some (52, false)⟩, ⟨some 55, .faddr 1 (.t 4), some (52, false)⟩, ⟨some 56, .load false 1 (.t 55), some (52, false)⟩, ⟨some 57, .len (.t 56), some (52, false)⟩, ⟨some 58, .ibin .sub (.t 57) (.c (.int .i64 1)), some (52, false)⟩, ⟨some 59, .iaddr 2 (.t 54) (.t 58), some (52, false)⟩, ⟨some 60, .faddr 1 (.t 59), some (52, false)⟩, ⟨some 61, .load false 1 (.t 60), some (52, false)⟩, ⟨some 62, .ibin .sub (.t 61) (.c (.int .i64 1)), some (52, false)⟩, ⟨some 63, .callp 38 [(.t 62)], some (52, false)⟩, ⟨some 64, .un .not (.t 63), some (52, false)⟩, ⟨some 65, .pick (.t 52) (.c (.bool true)) (.t 64), none⟩]
def c21_7 : List LOper := [⟨some 2, .mov (.c (.bool false)), none⟩]
def c21_8 : List LOper := [⟨some 66, .ibin .add (.t 8) (.c (.int .i64 1)), none⟩, ⟨some 8, .mov (.t 66), none⟩]
def Ji6 : LC := (.seq (.reg false c21_2) (.seq (.cond (.t 9) .skip (.seq (.trim []) (.exit 0))) (.seq (.blk 1 (.seq (.reg false c21_3) (.seq (.seq (.reg true c21_4) (.cond (.t 44) (.seq (.reg false c21_5) (.seq (.trim [2]) .ret)) .skip)) (.seq (.reg false c21_6) (.cond (.t 65) (.seq (.reg false c21_7) (.seq (.trim [2]) .ret)) .skip))))) (.reg false c21_8))))
def c21_10 : List LOper := [⟨some 2, .mov (.c (.bool true)), none⟩]
def lc21 : LC := (.seq (.reg false c21_0) (.seq (.seq (.reg false c21_1) (.blk 0 (.loop [1, 6, 7, 8] Ji6))) (.seq (.reg false c21_10) .ret)))
def lf21 : X5 := ⟨1, [.tmp 2], true, lc21⟩
def hi21 : Yk := ⟨[], [none, none, some [1, 6, 7, 8], none, some [], none, none, none, none, some [2], none, none, none, some [2], none, none, none, none], [], []⟩
theorem lf21_ok : Ym Try.prog hi21 true Try.f21 = some ⟨lf21.np, lf21.res.map RV.base, lf21.pm, lf21.body⟩ := by kernel_rfl

/-! additive/toolpath.ok -/
def c22_0 : List LOper := [⟨some 1, .box (.t 0), none⟩, ⟨some 2, .mov (.c (.bool false)), none⟩]
def c22_1 : List LOper := [⟨some 3, .faddr 0 (.t 1), none⟩, ⟨some 4, .load false 1 (.t 3), none⟩, ⟨some 5, .ibin .geq (.t 4) (.c (.int .i64 (-4096))), none⟩, ⟨some 6, .mov (.t 5), none⟩, ⟨some 7, .faddr 0 (.t 1), some (6, true)⟩, ⟨some 8, .load false 1 (.t 7), some (6, true)⟩, ⟨some 9, .ibin .lss (.t 8) (.c (.int .i64 4096)), some (6, true)⟩, ⟨some 10, .pick (.t 6) (.t 9) (.c (.bool false)), none⟩, ⟨some 11, .mov (.t 10), none⟩, ⟨some 12, .faddr 1 (.t 1), some (11, true)⟩, ⟨some 13, .load false 1 (.t 12), some (11, true)⟩, ⟨some 14, .ibin .geq (.t 13) (.c (.int .i64 (-4096))), some (11, true)⟩, ⟨some 15, .pick (.t 11) (.t 14) (.c (.bool false)), none⟩, ⟨some 16, .mov (.t 15), none⟩, ⟨some 17, .faddr 1 (.t 1), some (16, true)⟩, ⟨some 18, .load false 1 (.t 17), some (16, true)⟩, ⟨some 19, .ibin .lss (.t 18) (.c (.int .i64 4096)), some (16, true)⟩, ⟨some 20, .pick (.t 16) (.t 19) (.c (.bool false)), none⟩, ⟨some 2, .mov (.t 20), none⟩]
def lc22 : LC := (.seq (.reg false c22_0) (.seq (.reg false c22_1) .ret))
def lf22 : X5 := ⟨1, [.tmp 2], true, lc22⟩
def hi22 : Yk := ⟨[], [none, none, none], [], []⟩
theorem lf22_ok : Ym Try.prog hi22 true Try.f22 = some ⟨lf22.np, lf22.res.map RV.base, lf22.pm, lf22.body⟩ := by kernel_rfl

/-! additive/track.Valid -/
def c23_0 : List LOper := [⟨some 1, .box (.t 0), none⟩, ⟨some 2, .mov (.c (.bool false)), none⟩]
def c23_1 : List LOper := [⟨some 6, .faddr 2 (.t 1), none⟩, ⟨some 7, .load false 1 (.t 6), none⟩, ⟨some 8, .len (.t 7), none⟩, ⟨some 3, .mov (.t 8), none⟩]
def c23_2 : List LOper := [⟨some 9, .faddr 0 (.t 1), none⟩, ⟨some 10, .load false 1 (.t 9), none⟩, ⟨some 11, .ibin .lss (.t 10) (.c (.int .i64 1)), none⟩, ⟨some 12, .mov (.t 11), none⟩, ⟨some 13, .faddr 0 (.t 1), some (12, false)⟩, ⟨some 14, .load false 1 (.t 13), some (12, false)⟩, ⟨some 15, .ibin .gtr (.t 14) (.c (.int .i64 7)), some (12, false)⟩, ⟨some 16, .pick (.t 12) (.c (.bool true)) (.t 15), none⟩, ⟨some 17, .mov (.t 16), none⟩, ⟨some 18, .mov (.t 3), some (17, false)⟩, ⟨some 19, .ibin .lss (.t 18) (.c (.int .i64 1)), some (17, false)⟩, ⟨some 20, .pick (.t 17) (.c (.bool true)) (.t 19), none⟩, ⟨some 21, .mov (.t 20), none⟩, ⟨some 22, .mov (.t 3), some (21, false)⟩, ⟨some 23, .ibin .gtr (.t 22) (.c (.int .i64 65536)), some (21, false)⟩, ⟨some 24, .pick (.t 21) (.c (.bool true)) (.t 23), none⟩]
def c23_3 : List LOper := [⟨some 2, .mov (.c (.bool false)), none⟩]
def c23_4 : List LOper := [⟨some 25, .faddr 2 (.t 1), none⟩, ⟨some 26, .load false 1 (.t 25), none⟩, ⟨some 27, .len (.t 26), none⟩, ⟨some 28, .mov (.c (.int .i64 0)), none⟩]
def c23_5 : List LOper := [⟨some 29, .ibin .lss (.t 28) (.t 27), none⟩]
def c23_6 : List LOper := [⟨some 30, .mov (.t 28), none⟩, ⟨some 31, .iaddr 2 (.t 26) (.t 28), none⟩, ⟨some 32, .load true 2 (.t 31), none⟩, ⟨some 5, .alloc [.int .i64 0, .int .i64 0], none⟩, ⟨some 4, .mov (.t 30), none⟩, ⟨none, .store 2 (.t 5) (.t 32), none⟩]
def c23_7 : List LOper := [⟨some 33, .load true 2 (.t 5), none⟩, ⟨some 34, .callp 40 [(.t 33)], none⟩, ⟨some 35, .un .not (.t 34), none⟩, ⟨some 36, .mov (.t 35), none⟩, ⟨some 37, .mov (.t 4), some (36, false)⟩, ⟨some 38, .ibin .gtr (.t 37) (.c (.int .i64 0)), some (36, false)⟩, ⟨some 39, .mov (.t 38), some (36, false)⟩, ⟨some 40, .faddr 2 (.t 1), some (39, true)⟩, ⟨some 41, .load false 1 (.t 40), some (39, true)⟩, ⟨some 42, .mov (.t 4), some (39, true)⟩, ⟨some 43, .ibin .sub (.t 42) (.c (.int .i64 1)), some (39, true)⟩, ⟨some 44, .iaddr 2 (.t 41) (.t 43), some (39, true)⟩, ⟨some 45, .load true 2 (.t 44), some (39, true)⟩, ⟨some 46, .load true 2 (.t 5), some (39, true)⟩, ⟨some 47, .callp 41 [(.t 45), (.t 46)], some (39, true)⟩, ⟨some 48, .un .not (.t 47), some (39, true)⟩, ⟨some 49, .pick (.t 39) (.t 48) (.c (.bool false)), some (36, false)⟩, ⟨some 50, .pick (.t 36) (.c (.bool true)) (.t 49), none⟩]
def c23_8 : List LOper := [⟨some 2, .mov (.c (.bool false)), none⟩]
def c23_9 : List LOper := [⟨some 51, .ibin .add (.t 28) (.c (.int .i64 1)), none⟩, ⟨some 28, .mov (.t 51), none⟩]
def Jkp : LC := (.seq (.reg false c23_5) (.seq (.cond (.t 29) .skip (.seq (.trim [1, 3]) (.exit 0))) (.seq (.blk 1 (.seq (.reg false c23_6) (.seq (.reg true c23_7) (.cond (.t 50) (.seq (.reg false c23_8) (.seq (.trim [2]) .ret)) .skip)))) (.reg false c23_9))))
def c23_11 : List LOper := [⟨some 52, .faddr 1 (.t 1), none⟩, ⟨some 53, .load false 1 (.t 52), none⟩, ⟨some 54, .un .not (.t 53), none⟩, ⟨some 55, .mov (.t 54), none⟩, ⟨some 56, .mov (.t 3), some (55, false)⟩, ⟨some 57, .ibin .eql (.t 56) (.c (.int .i64 1)), some (55, false)⟩, ⟨some 58, .pick (.t 55) (.c (.bool true)) (.t 57), none⟩, ⟨some 59, .mov (.t 58), none⟩, ⟨some 60, .faddr 2 (.t 1), some (59, false)⟩, ⟨some 61, .load false 1 (.t 60), some (59, false)⟩, ⟨some 62, .mov (.t 3), some (59, false)⟩, ⟨some 63, .ibin .sub (.t 62) (.c (.int .i64 1)), some (59, false)⟩, ⟨some 64, .iaddr 2 (.t 61) (.t 63), some (59, false)⟩, ⟨some 65, .load true 2 (.t 64), some (59, false)⟩, ⟨some 66, .faddr 2 (.t 1), some (59, false)⟩, ⟨some 67, .load false 1 (.t 66), some (59, false)⟩, ⟨some 68, .iaddr 2 (.t 67) (.c (.int .i64 0)), some (59, false)⟩, ⟨some 69, .load true 2 (.t 68), some (59, false)⟩, ⟨some 70, .callp 41 [(.t 65), (.t 69)], some (59, false)⟩, ⟨some 71, .pick (.t 59) (.c (.bool true)) (.t 70), none⟩, ⟨some 2, .mov (.t 71), none⟩]
def lc23 : LC := (.seq (.reg false c23_0) (.seq (.reg false c23_1) (.seq (.seq (.reg false c23_2) (.cond (.t 24) (.seq (.reg false c23_3) .ret) .skip)) (.seq (.seq (.reg false c23_4) (.blk 0 (.loop [1, 3, 26, 27, 28] Jkp))) (.seq (.reg true c23_11) .ret)))))
def lf23 : X5 := ⟨1, [.tmp 2], true, lc23⟩
def hi23 : Yk := ⟨[], [none, none, none, none, none, none, none, some [1, 3, 26, 27, 28], none, some [1, 3], none, none, none, none, some [2], none, none, none, none], [], []⟩
theorem lf23_ok : Ym Try.prog hi23 true Try.f23 = some ⟨lf23.np, lf23.res.map RV.base, lf23.pm, lf23.body⟩ := by kernel_rfl

/-! (*additive/toolpath.list).add -/
def c24_0 : List LOper := [⟨some 3, .box (.t 1), none⟩]
def c24_1 : List LOper := [⟨some 4, .mov (.t 0), none⟩, ⟨some 5, .mov (.t 0), none⟩, ⟨some 6, .nilck (.t 5), none⟩, ⟨some 7, .faddr 0 (.t 6), none⟩, ⟨some 8, .load false 1 (.t 7), none⟩, ⟨some 9, .load true 6 (.t 3), none⟩, ⟨some 10, .bslice 1 6 40 [.int .i64 0, .int .i64 0, .int .i64 0, .int .i64 0, .int .i64 0, .nils] [(0, 6, (.t 9))], none⟩, ⟨some 11, .app 6 64 40 [.int .i64 0, .int .i64 0, .int .i64 0, .int .i64 0, .int .i64 0, .nils] (.t 8) (.t 10), none⟩, ⟨some 12, .nilck (.t 4), none⟩, ⟨some 13, .faddr 0 (.t 12), none⟩, ⟨none, .store 1 (.t 13) (.t 11), none⟩]
def lc24 : LC := (.seq (.reg false c24_0) (.reg true c24_1))
def lf24 : X5 := ⟨2, [], false, lc24⟩
def hi24 : Yk := ⟨[], [none], [], []⟩
theorem lf24_ok : Ym Try.prog hi24 false Try.f24 = some ⟨lf24.np, lf24.res.map RV.base, lf24.pm, lf24.body⟩ := by kernel_rfl

/-! (*additive/toolpath.builder).group -/
def c25_0 : List LOper := [⟨some 7, .mov (.t 0), none⟩, ⟨some 8, .nilck (.t 7), none⟩, ⟨some 9, .faddr 22 (.t 8), none⟩, ⟨some 10, .load true 2 (.t 9), none⟩, ⟨some 4, .alloc [.int .i64 0, .int .i64 0], none⟩, ⟨none, .store 2 (.t 4) (.t 10), none⟩]
def c25_1 : List LOper := [⟨some 11, .load true 2 (.t 4), none⟩, ⟨some 12, .load true 2 (.t 4), none⟩, ⟨some 13, .mov (.t 1), none⟩, ⟨some 17, .mov (.c (.int .i64 0)), none⟩, ⟨some 14, .callz 43 [(.t 12), (.t 13)], none⟩, ⟨some 15, .callz 42 [(.t 11), (.t 14), (.c (.int .i64 8))], none⟩, ⟨some 16, .len (.t 15), none⟩]
def c25_2 : List LOper := [⟨some 18, .ibin .lss (.t 17) (.t 16), none⟩]
def c25_3 : List LOper := [⟨some 19, .iaddr 3 (.t 15) (.t 17), none⟩, ⟨some 20, .load true 3 (.t 19), none⟩, ⟨some 6, .alloc [.int .i64 0, .bool false, .nils], none⟩, ⟨none, .store 3 (.t 6) (.t 20), none⟩]
def c25_4 : List LOper := [⟨some 21, .mov (.t 0), none⟩, ⟨some 22, .load true 3 (.t 6), none⟩, ⟨some 23, .callr 44 [(.t 21), (.t 22)], none⟩]
def c25_5 : List LOper := [⟨some 24, .ibin .add (.t 17) (.c (.int .i64 1)), none⟩, ⟨some 17, .mov (.t 24), none⟩]
def Jhg : LC := (.seq (.reg false c25_2) (.seq (.cond (.t 18) .skip (.seq (.trim []) (.exit 0))) (.seq (.blk 1 (.seq (.reg false c25_3) (.reg false c25_4))) (.reg false c25_5))))
def lc25 : LC := (.seq (.reg false c25_0) (.seq (.reg true c25_1) (.blk 0 (.loop [0, 15, 16, 17] Jhg))))
def lf25 : X5 := ⟨2, [], false, lc25⟩
def hi25 : Yk := ⟨[(14, .z), (15, .z), (23, .r)], [none, none, some [0, 15, 16, 17], none, some [], none, none, none], [(1, [0, 1, 2, 6, 3, 4, 5])], []⟩
theorem lf25_ok : Ym Try.prog hi25 false Try.f25 = some ⟨lf25.np, lf25.res.map RV.base, lf25.pm, lf25.body⟩ := by kernel_rfl

/-! additive/cool.Slow -/
def c26_0 : List LOper := [⟨some 2, .box (.t 0), none⟩, ⟨some 3, .box (.t 1), none⟩, ⟨some 4, .mov (.c (.nils)), none⟩]
def c26_1 : List LOper := [⟨some 9, .load false 1 (.t 2), none⟩, ⟨some 10, .callz 45 [(.t 9)], none⟩, ⟨none, .store 1 (.t 2) (.t 10), none⟩]
def c26_2 : List LOper := [⟨some 11, .load true 20 (.t 3), none⟩, ⟨some 12, .callp 20 [(.t 11)], none⟩, ⟨some 13, .un .not (.t 12), none⟩]
def c26_3 : List LOper := [⟨some 14, .load false 1 (.t 2), none⟩, ⟨some 4, .mov (.t 14), none⟩]
def c26_4 : List LOper := [⟨some 15, .mkfn 46 [(.t 2), (.t 3)], none⟩, ⟨some 5, .mov (.t 15), none⟩]
def c26_5 : List LOper := [⟨some 16, .faddr 17 (.t 3), none⟩, ⟨some 17, .load false 1 (.t 16), none⟩, ⟨some 18, .faddr 0 (.t 3), none⟩, ⟨some 19, .load false 1 (.t 18), none⟩, ⟨some 20, .ibin .quo (.t 17) (.t 19), none⟩, ⟨some 21, .mm true (.t 20) (.c (.int .i64 1)), none⟩, ⟨some 22, .faddr 13 (.t 3), none⟩, ⟨some 23, .load false 1 (.t 22), none⟩, ⟨some 24, .faddr 0 (.t 3), none⟩, ⟨some 25, .load false 1 (.t 24), none⟩, ⟨some 26, .ibin .quo (.t 23) (.t 25), none⟩, ⟨some 27, .mm true (.t 26) (.c (.int .i64 1)), none⟩, ⟨some 6, .mov (.t 21), none⟩, ⟨some 7, .mov (.t 27), none⟩]
def c26_6 : List LOper := [⟨some 28, .mov (.t 6), none⟩, ⟨some 29, .mov (.t 7), none⟩, ⟨some 30, .ibin .lss (.t 28) (.t 29), none⟩]
def c26_7 : List LOper := [⟨some 31, .mov (.t 6), none⟩, ⟨some 32, .mov (.t 7), none⟩, ⟨some 33, .ibin .add (.t 31) (.t 32), none⟩, ⟨some 34, .ibin .add (.t 33) (.c (.int .i64 1)), none⟩, ⟨some 35, .ibin .quo (.t 34) (.c (.int .i64 2)), none⟩, ⟨some 8, .mov (.t 35), none⟩]
def c26_8 : List LOper := [⟨some 36, .mov (.t 5), none⟩, ⟨some 37, .mov (.t 8), none⟩, ⟨some 38, .callu (.t 36) [(.t 37)], none⟩]
def c26_9 : List LOper := [⟨some 39, .mov (.t 8), none⟩, ⟨some 6, .mov (.t 39), none⟩]
def Jwr : List LOper := [⟨some 40, .mov (.t 8), none⟩, ⟨some 41, .ibin .sub (.t 40) (.c (.int .i64 1)), none⟩, ⟨some 7, .mov (.t 41), none⟩]
def Ji2 : LC := (.seq (.seq (.reg false c26_6) (.cond (.t 30) .skip (.seq (.trim [2, 6]) (.exit 0)))) (.blk 1 (.seq (.reg false c26_7) (.seq (.reg false c26_8) (.cond (.t 38) (.reg false c26_9) (.reg false Jwr))))))
def c26_12 : List LOper := [⟨some 42, .load false 1 (.t 2), none⟩, ⟨some 43, .mov (.t 6), none⟩, ⟨some 44, .callz 48 [(.t 42), (.t 43)], none⟩, ⟨some 4, .mov (.t 44), none⟩]
def lc26 : LC := (.seq (.reg false c26_0) (.seq (.reg false c26_1) (.seq (.seq (.reg false c26_2) (.cond (.t 13) (.seq (.reg false c26_3) .ret) .skip)) (.seq (.reg false c26_4) (.seq (.reg true c26_5) (.seq (.blk 0 (.loop [2, 5, 6, 7] Ji2)) (.seq (.reg false c26_12) .ret)))))))
def lf26 : X5 := ⟨2, [.tmp 4], true, lc26⟩
def hi26 : Yk := ⟨[(10, .z), (38, .q), (44, .z)], [none, none, none, none, none, none, none, none, some [2, 5, 6, 7], none, some [2, 6], none, none, none, none, none, none], [], []⟩
theorem lf26_ok : Ym Try.prog hi26 true Try.f26 = some ⟨lf26.np, lf26.res.map RV.base, lf26.pm, lf26.body⟩ := by kernel_rfl

/-! additive/additiveref18.Valid -/
def c30_0 : List LOper := [⟨some 1, .box (.t 0), none⟩, ⟨some 2, .mov (.c (.bool false)), none⟩]
def c30_1 : List LOper := [⟨some 3, .mov (.c (.int .i64 0)), none⟩]
def c30_2 : List LOper := [⟨some 5, .mov (.t 3), none⟩, ⟨some 6, .faddr 0 (.t 1), none⟩, ⟨some 7, .load false 1 (.t 6), none⟩, ⟨some 8, .len (.t 7), none⟩, ⟨some 9, .ibin .lss (.t 5) (.t 8), none⟩]
def c30_3 : List LOper := [⟨some 12, .faddr 0 (.t 1), none⟩, ⟨some 13, .load false 1 (.t 12), none⟩, ⟨some 14, .mov (.t 3), none⟩, ⟨some 15, .iaddr 2 (.t 13) (.t 14), none⟩, ⟨some 16, .faddr 0 (.t 15), none⟩, ⟨some 17, .load false 1 (.t 16), none⟩, ⟨some 4, .mov (.t 17), none⟩]
def c30_4 : List LOper := [⟨some 18, .mov (.t 4), none⟩, ⟨some 19, .ibin .lss (.t 18) (.c (.int .i64 (-4096))), none⟩, ⟨some 20, .mov (.t 19), none⟩, ⟨some 21, .mov (.t 4), some (20, false)⟩, ⟨some 22, .ibin .geq (.t 21) (.c (.int .i64 4096)), some (20, false)⟩, ⟨some 23, .pick (.t 20) (.c (.bool true)) (.t 22), none⟩, ⟨some 24, .mov (.t 23), none⟩, ⟨some 25, .mov (.t 3), some (24, false)⟩, ⟨some 26, .ibin .gtr (.t 25) (.c (.int .i64 0)), some (24, false)⟩, ⟨some 27, .mov (.t 26), some (24, false)⟩, ⟨some 28, .mov (.t 4), some (27, true)⟩, ⟨some 29, .faddr 0 (.t 1), some (27, true)⟩, ⟨some 30, .load false 1 (.t 29), some (27, true)⟩, ⟨some 31, .mov (.t 3), some (27, true)⟩, ⟨some 32, .ibin .sub (.t 31) (.c (.int .i64 1)), some (27, true)⟩, ⟨some 33, .iaddr 2 (.t 30) (.t 32), some (27, true)⟩, ⟨some 34, .faddr 0 (.t 33), some (27, true)⟩, ⟨some 35, .load false 1 (.t 34), some (27, true)⟩, ⟨some 36, .ibin .leq (.t 28) (.t 35), some (27, true)⟩, ⟨some 37, .pick (.t 27) (.t 36) (.c (.bool false)), some (24, false)⟩, ⟨some 38, .pick (.t 24) (.c (.bool true)) (.t 37), none⟩, ⟨some 39, .mov (.t 38), none⟩, ⟨some 40, .faddr 0 (.t 1), some (39, false)⟩, ⟨some 41, .load false 1 (.t 40), some (39, false)⟩, ⟨some 42, .mov (.t 3), some (39, false)⟩, ⟨some 43, .iaddr 2 (.t 41) (.t 42), some (39, false)⟩, ⟨some 44, .faddr 1 (.t 43), some (39, false)⟩, ⟨some 45, .load false 1 (.t 44), some (39, false)⟩, ⟨some 46, .callp 50 [(.t 45)], some (39, false)⟩, ⟨some 47, .un .not (.t 46), some (39, false)⟩, ⟨some 48, .pick (.t 39) (.c (.bool true)) (.t 47), none⟩]
def c30_5 : List LOper := [⟨some 2, .mov (.c (.bool false)), none⟩]
def c30_6 : List LOper := [⟨some 10, .mov (.t 3), none⟩, ⟨some 11, .ibin .add (.t 10) (.c (.int .i64 1)), none⟩, ⟨some 3, .mov (.t 11), none⟩]
def Jkl : LC := (.seq (.seq (.reg false c30_2) (.cond (.t 9) .skip (.seq (.trim []) (.exit 0)))) (.seq (.blk 1 (.seq (.reg false c30_3) (.seq (.reg false c30_4) (.cond (.t 48) (.seq (.reg false c30_5) (.seq (.trim [2]) .ret)) .skip)))) (.reg false c30_6)))
def c30_8 : List LOper := [⟨some 2, .mov (.c (.bool true)), none⟩]
def lc30 : LC := (.seq (.reg false c30_0) (.seq (.seq (.reg false c30_1) (.blk 0 (.loop [1, 3] Jkl))) (.seq (.reg false c30_8) .ret)))
def lf30 : X5 := ⟨1, [.tmp 2], true, lc30⟩
def hi30 : Yk := ⟨[], [none, none, some [1, 3], none, some [], none, none, none, none, some [2], none, none, none, none], [], []⟩
theorem lf30_ok : Ym Try.prog hi30 true Try.f30 = some ⟨lf30.np, lf30.res.map RV.base, lf30.pm, lf30.body⟩ := by kernel_rfl

/-! additive/additiveref35.in -/
def c34_0 : List LOper := [⟨some 6, .mov (.c (.bool false)), none⟩]
def c34_1 : List LOper := [⟨some 7, .mov (.t 0), none⟩, ⟨some 8, .mov (.t 1), none⟩, ⟨some 9, .ibin .geq (.t 7) (.t 8), none⟩, ⟨some 10, .mov (.t 9), none⟩, ⟨some 11, .mov (.t 0), some (10, true)⟩, ⟨some 12, .mov (.t 2), some (10, true)⟩, ⟨some 13, .ibin .leq (.t 11) (.t 12), some (10, true)⟩, ⟨some 14, .pick (.t 10) (.t 13) (.c (.bool false)), none⟩, ⟨some 6, .mov (.t 14), none⟩]
def lc34 : LC := (.seq (.reg false c34_0) (.seq (.reg false c34_1) .ret))
def lf34 : X5 := ⟨3, [.tmp 6], true, lc34⟩
def hi34 : Yk := ⟨[], [none, none, none], [], []⟩
theorem lf34_ok : Ym Try.prog hi34 true Try.f34 = some ⟨lf34.np, lf34.res.map RV.base, lf34.pm, lf34.body⟩ := by kernel_rfl

/-! additive/toolpath.known -/
def c35_0 : List LOper := [⟨some 1, .box (.t 0), none⟩, ⟨some 2, .mov (.c (.bool false)), none⟩]
def c35_1 : List LOper := [⟨some 5, .faddr 0 (.t 1), none⟩, ⟨some 6, .load false 1 (.t 5), none⟩, ⟨some 7, .ibin .lss (.t 6) (.c (.int .i64 1)), none⟩, ⟨some 8, .mov (.t 7), none⟩, ⟨some 9, .faddr 0 (.t 1), some (8, false)⟩, ⟨some 10, .load false 1 (.t 9), some (8, false)⟩, ⟨some 11, .ibin .gtr (.t 10) (.c (.int .i64 6)), some (8, false)⟩, ⟨some 12, .pick (.t 8) (.c (.bool true)) (.t 11), none⟩]
def c35_2 : List LOper := [⟨some 2, .mov (.c (.bool false)), none⟩]
def c35_3 : List LOper := [⟨some 13, .faddr 5 (.t 1), none⟩, ⟨some 14, .load false 1 (.t 13), none⟩, ⟨some 15, .len (.t 14), none⟩, ⟨some 16, .mov (.c (.int .i64 0)), none⟩]
def c35_4 : List LOper := [⟨some 17, .ibin .lss (.t 16) (.t 15), none⟩]
def c35_5 : List LOper := [⟨some 18, .iaddr 2 (.t 14) (.t 16), none⟩, ⟨some 19, .load true 2 (.t 18), none⟩, ⟨some 4, .alloc [.int .i64 0, .int .i64 0], none⟩, ⟨none, .store 2 (.t 4) (.t 19), none⟩]
def c35_6 : List LOper := [⟨some 20, .load true 2 (.t 4), none⟩, ⟨some 21, .callp 22 [(.t 20)], none⟩, ⟨some 22, .un .not (.t 21), none⟩]
def c35_7 : List LOper := [⟨some 2, .mov (.c (.bool false)), none⟩]
def c35_8 : List LOper := [⟨some 23, .ibin .add (.t 16) (.c (.int .i64 1)), none⟩, ⟨some 16, .mov (.t 23), none⟩]
def c35_L0 : LC := (.seq (.reg false c35_4) (.seq (.cond (.t 17) .skip (.seq (.trim []) (.exit 0))) (.seq (.blk 1 (.seq (.reg false c35_5) (.seq (.reg false c35_6) (.cond (.t 22) (.seq (.reg false c35_7) (.seq (.trim [2]) .ret)) .skip)))) (.reg false c35_8))))
def c35_10 : List LOper := [⟨some 2, .mov (.c (.bool true)), none⟩]
def lc35 : LC := (.seq (.reg false c35_0) (.seq (.seq (.reg false c35_1) (.cond (.t 12) (.seq (.reg false c35_2) .ret) .skip)) (.seq (.seq (.reg false c35_3) (.blk 0 (.loop [14, 15, 16] c35_L0))) (.seq (.reg false c35_10) .ret))))
def lf35 : X5 := ⟨1, [.tmp 2], true, lc35⟩
def hi35 : Yk := ⟨[], [none, none, none, none, none, none, some [14, 15, 16], none, some [], none, none, none, none, some [2], none, none, none, none], [], []⟩
theorem lf35_ok : Ym Try.prog hi35 true Try.f35 = some ⟨lf35.np, lf35.res.map RV.base, lf35.pm, lf35.body⟩ := by kernel_rfl

/-! additive/toolpath.leads -/
def c36_0 : List LOper := [⟨some 2, .box (.t 0), none⟩, ⟨some 3, .box (.t 1), none⟩, ⟨some 4, .mov (.c (.bool false)), none⟩]
def c36_1 : List LOper := [⟨some 6, .faddr 5 (.t 2), none⟩, ⟨some 7, .load false 1 (.t 6), none⟩, ⟨some 8, .len (.t 7), none⟩, ⟨some 9, .ibin .eql (.t 8) (.c (.int .i64 0)), none⟩]
def c36_2 : List LOper := [⟨some 4, .mov (.c (.bool false)), none⟩]
def c36_3 : List LOper := [⟨some 10, .faddr 0 (.t 2), none⟩, ⟨some 11, .load false 1 (.t 10), none⟩, ⟨some 12, .ibin .eql (.t 11) (.c (.int .i64 3)), none⟩, ⟨some 13, .mov (.t 12), none⟩, ⟨some 14, .faddr 5 (.t 2), some (13, true)⟩, ⟨some 15, .load false 1 (.t 14), some (13, true)⟩, ⟨some 16, .iaddr 2 (.t 15) (.c (.int .i64 0)), some (13, true)⟩, ⟨some 17, .load true 2 (.t 16), some (13, true)⟩, ⟨some 18, .load true 2 (.t 3), some (13, true)⟩, ⟨some 19, .eqv true true [false, false] (.t 17) (.t 18), some (13, true)⟩, ⟨some 20, .pick (.t 13) (.t 19) (.c (.bool false)), none⟩, ⟨some 21, .mov (.t 20), none⟩, ⟨some 22, .faddr 0 (.t 2), some (21, false)⟩, ⟨some 23, .load false 1 (.t 22), some (21, false)⟩, ⟨some 24, .ibin .eql (.t 23) (.c (.int .i64 2)), some (21, false)⟩, ⟨some 25, .mov (.t 24), some (21, false)⟩, ⟨some 26, .faddr 5 (.t 2), some (25, true)⟩, ⟨some 27, .load false 1 (.t 26), some (25, true)⟩, ⟨some 28, .iaddr 2 (.t 27) (.c (.int .i64 0)), some (25, true)⟩, ⟨some 29, .load true 2 (.t 28), some (25, true)⟩, ⟨some 30, .load true 2 (.t 3), some (25, true)⟩, ⟨some 31, .callp 54 [(.t 29), (.t 30)], some (25, true)⟩, ⟨some 32, .un .not (.t 31), some (25, true)⟩, ⟨some 33, .pick (.t 25) (.t 32) (.c (.bool false)), some (21, false)⟩, ⟨some 34, .pick (.t 21) (.c (.bool true)) (.t 33), none⟩]
def c36_4 : List LOper := [⟨some 4, .mov (.c (.bool false)), none⟩]
def c36_5 : List LOper := [⟨some 5, .mov (.c (.int .i64 1)), none⟩]
def c36_6 : List LOper := [⟨some 35, .mov (.t 5), none⟩, ⟨some 36, .faddr 5 (.t 2), none⟩, ⟨some 37, .load false 1 (.t 36), none⟩, ⟨some 38, .len (.t 37), none⟩, ⟨some 39, .ibin .lss (.t 35) (.t 38), none⟩]
def c36_7 : List LOper := [⟨some 42, .faddr 5 (.t 2), none⟩, ⟨some 43, .load false 1 (.t 42), none⟩, ⟨some 44, .mov (.t 5), none⟩, ⟨some 45, .ibin .sub (.t 44) (.c (.int .i64 1)), none⟩, ⟨some 46, .iaddr 2 (.t 43) (.t 45), none⟩, ⟨some 47, .load true 2 (.t 46), none⟩, ⟨some 48, .faddr 5 (.t 2), none⟩, ⟨some 49, .load false 1 (.t 48), none⟩, ⟨some 50, .mov (.t 5), none⟩, ⟨some 51, .iaddr 2 (.t 49) (.t 50), none⟩, ⟨some 52, .load true 2 (.t 51), none⟩, ⟨some 53, .callp 54 [(.t 47), (.t 52)], none⟩, ⟨some 54, .un .not (.t 53), none⟩]
def c36_8 : List LOper := [⟨some 4, .mov (.c (.bool false)), none⟩]
def c36_9 : List LOper := [⟨some 40, .mov (.t 5), none⟩, ⟨some 41, .ibin .add (.t 40) (.c (.int .i64 1)), none⟩, ⟨some 5, .mov (.t 41), none⟩]
def c36_L0 : LC := (.seq (.seq (.reg false c36_6) (.cond (.t 39) .skip (.seq (.trim []) (.exit 0)))) (.seq (.blk 1 (.seq (.reg true c36_7) (.cond (.t 54) (.seq (.reg false c36_8) (.seq (.trim [4]) .ret)) .skip))) (.reg false c36_9)))
def c36_11 : List LOper := [⟨some 4, .mov (.c (.bool true)), none⟩]
def lc36 : LC := (.seq (.reg false c36_0) (.seq (.seq (.reg false c36_1) (.cond (.t 9) (.seq (.reg false c36_2) .ret) .skip)) (.seq (.seq (.reg true c36_3) (.cond (.t 34) (.seq (.reg false c36_4) .ret) .skip)) (.seq (.seq (.reg false c36_5) (.blk 0 (.loop [2, 5] c36_L0))) (.seq (.reg false c36_11) .ret)))))
def lf36 : X5 := ⟨2, [.tmp 4], true, lc36⟩
def hi36 : Yk := ⟨[], [none, none, none, none, none, none, none, none, none, none, some [2, 5], none, some [], none, none, none, some [4], none, none, none, none], [], []⟩
theorem lf36_ok : Ym Try.prog hi36 true Try.f36 = some ⟨lf36.np, lf36.res.map RV.base, lf36.pm, lf36.body⟩ := by kernel_rfl

/-! additive/flow.check -/
def c37_0 : List LOper := [⟨some 1, .box (.t 0), none⟩, ⟨some 2, .alloc [.bool false, .bool false, .bool false, .bool false, .bool false, .bool false, .bool false], none⟩]
def c37_1 : List LOper := [⟨some 3, .faddr 0 (.t 1), none⟩, ⟨some 4, .load false 1 (.t 3), none⟩, ⟨some 5, .callp 55 [(.t 4), (.c (.int .i64 32)), (.c (.int .i64 1024))], none⟩, ⟨some 6, .un .not (.t 5), none⟩, ⟨some 7, .mov (.t 6), none⟩, ⟨some 8, .faddr 1 (.t 1), some (7, false)⟩, ⟨some 9, .load false 1 (.t 8), some (7, false)⟩, ⟨some 10, .callp 55 [(.t 9), (.c (.int .i64 4)), (.c (.int .i64 1024))], some (7, false)⟩, ⟨some 11, .un .not (.t 10), some (7, false)⟩, ⟨some 12, .pick (.t 7) (.c (.bool true)) (.t 11), none⟩, ⟨some 13, .faddr 2 (.t 1), none⟩, ⟨some 14, .load false 1 (.t 13), none⟩, ⟨some 15, .callp 56 [(.t 14), (.c (.int .i64 0)), (.c (.int .i64 8))], none⟩, ⟨some 16, .un .not (.t 15), none⟩, ⟨some 17, .mov (.t 16), none⟩, ⟨some 18, .faddr 3 (.t 1), some (17, false)⟩, ⟨some 19, .load false 1 (.t 18), some (17, false)⟩, ⟨some 20, .callp 56 [(.t 19), (.c (.int .i64 0)), (.c (.int .i64 16))], some (17, false)⟩, ⟨some 21, .un .not (.t 20), some (17, false)⟩, ⟨some 22, .pick (.t 17) (.c (.bool true)) (.t 21), none⟩, ⟨some 23, .mov (.t 22), none⟩, ⟨some 24, .faddr 4 (.t 1), some (23, false)⟩, ⟨some 25, .load false 1 (.t 24), some (23, false)⟩, ⟨some 26, .callp 56 [(.t 25), (.c (.int .i64 0)), (.c (.int .i64 16))], some (23, false)⟩, ⟨some 27, .un .not (.t 26), some (23, false)⟩, ⟨some 28, .pick (.t 23) (.c (.bool true)) (.t 27), none⟩, ⟨some 29, .faddr 5 (.t 1), none⟩, ⟨some 30, .load false 1 (.t 29), none⟩, ⟨some 31, .callp 56 [(.t 30), (.c (.int .i64 0)), (.c (.int .i64 3))], none⟩, ⟨some 32, .un .not (.t 31), none⟩, ⟨some 33, .mov (.t 32), none⟩, ⟨some 34, .faddr 6 (.t 1), some (33, false)⟩, ⟨some 35, .load false 1 (.t 34), some (33, false)⟩, ⟨some 36, .callp 56 [(.t 35), (.c (.int .i64 1)), (.c (.int .i64 64))], some (33, false)⟩, ⟨some 37, .un .not (.t 36), some (33, false)⟩, ⟨some 38, .pick (.t 33) (.c (.bool true)) (.t 37), none⟩, ⟨some 39, .faddr 8 (.t 1), none⟩, ⟨some 40, .load false 1 (.t 39), none⟩, ⟨some 41, .callp 56 [(.t 40), (.c (.int .i64 0)), (.c (.int .i64 64))], none⟩, ⟨some 42, .un .not (.t 41), none⟩, ⟨some 43, .mov (.t 42), none⟩, ⟨some 44, .faddr 9 (.t 1), some (43, false)⟩, ⟨some 45, .load false 1 (.t 44), some (43, false)⟩, ⟨some 46, .callp 56 [(.t 45), (.c (.int .i64 0)), (.c (.int .i64 64))], some (43, false)⟩, ⟨some 47, .un .not (.t 46), some (43, false)⟩, ⟨some 48, .pick (.t 43) (.c (.bool true)) (.t 47), none⟩, ⟨some 49, .mov (.t 48), none⟩, ⟨some 50, .faddr 10 (.t 1), some (49, false)⟩, ⟨some 51, .load false 1 (.t 50), some (49, false)⟩, ⟨some 52, .callp 56 [(.t 51), (.c (.int .i64 0)), (.c (.int .i64 64))], some (49, false)⟩, ⟨some 53, .un .not (.t 52), some (49, false)⟩, ⟨some 54, .pick (.t 49) (.c (.bool true)) (.t 53), none⟩, ⟨some 55, .mov (.t 54), none⟩, ⟨some 56, .faddr 11 (.t 1), some (55, false)⟩, ⟨some 57, .load false 1 (.t 56), some (55, false)⟩, ⟨some 58, .callp 56 [(.t 57), (.c (.int .i64 0)), (.c (.int .i64 63))], some (55, false)⟩, ⟨some 59, .un .not (.t 58), some (55, false)⟩, ⟨some 60, .pick (.t 55) (.c (.bool true)) (.t 59), none⟩, ⟨some 61, .faddr 12 (.t 1), none⟩, ⟨some 62, .load false 1 (.t 61), none⟩, ⟨some 63, .callp 56 [(.t 62), (.c (.int .i64 1)), (.c (.int .i64 1073741824))], none⟩, ⟨some 64, .un .not (.t 63), none⟩, ⟨some 65, .mov (.t 64), none⟩, ⟨some 66, .faddr 15 (.t 1), some (65, false)⟩, ⟨some 67, .load false 1 (.t 66), some (65, false)⟩, ⟨some 68, .callp 56 [(.t 67), (.c (.int .i64 0)), (.c (.int .i64 65536))], some (65, false)⟩, ⟨some 69, .un .not (.t 68), some (65, false)⟩, ⟨some 70, .pick (.t 65) (.c (.bool true)) (.t 69), none⟩, ⟨some 71, .faddr 13 (.t 1), none⟩, ⟨some 72, .load false 1 (.t 71), none⟩, ⟨some 73, .callp 56 [(.t 72), (.c (.int .i64 1)), (.c (.int .i64 1048576))], none⟩, ⟨some 74, .un .not (.t 73), none⟩, ⟨some 75, .mov (.t 74), none⟩, ⟨some 76, .faddr 14 (.t 1), some (75, false)⟩, ⟨some 77, .load false 1 (.t 76), some (75, false)⟩, ⟨some 78, .callp 56 [(.t 77), (.c (.int .i64 1)), (.c (.int .i64 1048576))], some (75, false)⟩, ⟨some 79, .un .not (.t 78), some (75, false)⟩, ⟨some 80, .pick (.t 75) (.c (.bool true)) (.t 79), none⟩, ⟨some 81, .mov (.t 80), none⟩, ⟨some 82, .faddr 16 (.t 1), some (81, false)⟩, ⟨some 83, .load false 1 (.t 82), some (81, false)⟩, ⟨some 84, .callp 56 [(.t 83), (.c (.int .i64 0)), (.c (.int .i64 1048576))], some (81, false)⟩, ⟨some 85, .un .not (.t 84), some (81, false)⟩, ⟨some 86, .pick (.t 81) (.c (.bool true)) (.t 85), none⟩, ⟨some 87, .mov (.t 86), none⟩, ⟨some 88, .faddr 17 (.t 1), some (87, false)⟩, ⟨some 89, .load false 1 (.t 88), some (87, false)⟩, ⟨some 90, .faddr 13 (.t 1), some (87, false)⟩, ⟨some 91, .load false 1 (.t 90), some (87, false)⟩, ⟨some 92, .callp 56 [(.t 89), (.c (.int .i64 1)), (.t 91)], some (87, false)⟩, ⟨some 93, .un .not (.t 92), some (87, false)⟩, ⟨some 94, .pick (.t 87) (.c (.bool true)) (.t 93), none⟩, ⟨some 95, .faddr 18 (.t 1), none⟩, ⟨some 96, .load false 1 (.t 95), none⟩, ⟨some 97, .callp 56 [(.t 96), (.c (.int .i64 0)), (.c (.int .i64 400000))], none⟩, ⟨some 98, .un .not (.t 97), none⟩, ⟨some 99, .mov (.t 98), none⟩, ⟨some 100, .faddr 19 (.t 1), some (99, false)⟩, ⟨some 101, .load false 1 (.t 100), some (99, false)⟩, ⟨some 102, .callp 56 [(.t 101), (.c (.int .i64 0)), (.c (.int .i64 400000))], some (99, false)⟩, ⟨some 103, .un .not (.t 102), some (99, false)⟩, ⟨some 104, .pick (.t 99) (.c (.bool true)) (.t 103), none⟩, ⟨some 105, .build [.bool false, .bool false, .bool false, .bool false, .bool false, .bool false, .bool false] [(0, 1, (.t 12)), (1, 1, (.t 28)), (2, 1, (.t 38)), (3, 1, (.t 60)), (4, 1, (.t 70)), (5, 1, (.t 94)), (6, 1, (.t 104))], none⟩, ⟨none, .store 7 (.t 2) (.t 105), none⟩]
def lc37 : LC := (.seq (.reg false c37_0) (.seq (.reg true c37_1) .ret))
def lf37 : X5 := ⟨1, [.cell 2 true 7], true, lc37⟩
def hi37 : Yk := ⟨[], [none, none, none], [], []⟩
theorem lf37_ok : Ym Try.prog hi37 true Try.f37 = some ⟨lf37.np, lf37.res.map RV.base, lf37.pm, lf37.body⟩ := by kernel_rfl

/-! additive/region.ok -/
def c38_0 : List LOper := [⟨some 2, .mov (.c (.bool false)), none⟩]
def c38_1 : List LOper := [⟨some 3, .mov (.t 0), none⟩, ⟨some 4, .ibin .geq (.t 3) (.c (.int .i64 (-4096))), none⟩, ⟨some 5, .mov (.t 4), none⟩, ⟨some 6, .mov (.t 0), some (5, true)⟩, ⟨some 7, .ibin .lss (.t 6) (.c (.int .i64 4096)), some (5, true)⟩, ⟨some 8, .pick (.t 5) (.t 7) (.c (.bool false)), none⟩, ⟨some 2, .mov (.t 8), none⟩]
def lc38 : LC := (.seq (.reg false c38_0) (.seq (.reg false c38_1) .ret))
def lf38 : X5 := ⟨1, [.tmp 2], true, lc38⟩
def hi38 : Yk := ⟨[], [none, none, none], [], []⟩
theorem lf38_ok : Ym Try.prog hi38 true Try.f38 = some ⟨lf38.np, lf38.res.map RV.base, lf38.pm, lf38.body⟩ := by kernel_rfl

/-! additive/runs.Valid -/
def c39_0 : List LOper := [⟨some 2, .mov (.c (.bool false)), none⟩]
def c39_1 : List LOper := [⟨some 5, .mov (.t 0), none⟩, ⟨some 6, .len (.t 5), none⟩, ⟨some 7, .mov (.c (.int .i64 0)), none⟩]
def c39_2 : List LOper := [⟨some 8, .ibin .lss (.t 7) (.t 6), none⟩]
def c39_3 : List LOper := [⟨some 9, .mov (.t 7), none⟩, ⟨some 10, .iaddr 2 (.t 5) (.t 7), none⟩, ⟨some 11, .load true 2 (.t 10), none⟩, ⟨some 4, .alloc [.int .i64 0, .int .i64 0], none⟩, ⟨some 3, .mov (.t 9), none⟩, ⟨none, .store 2 (.t 4) (.t 11), none⟩]
def c39_4 : List LOper := [⟨some 12, .faddr 0 (.t 4), none⟩, ⟨some 13, .load false 1 (.t 12), none⟩, ⟨some 14, .faddr 1 (.t 4), none⟩, ⟨some 15, .load false 1 (.t 14), none⟩, ⟨some 16, .ibin .geq (.t 13) (.t 15), none⟩, ⟨some 17, .mov (.t 16), none⟩, ⟨some 18, .load true 2 (.t 4), some (17, false)⟩, ⟨some 19, .callp 57 [(.t 18)], some (17, false)⟩, ⟨some 20, .un .not (.t 19), some (17, false)⟩, ⟨some 21, .pick (.t 17) (.c (.bool true)) (.t 20), none⟩, ⟨some 22, .mov (.t 21), none⟩, ⟨some 23, .mov (.t 3), some (22, false)⟩, ⟨some 24, .ibin .gtr (.t 23) (.c (.int .i64 0)), some (22, false)⟩, ⟨some 25, .mov (.t 24), some (22, false)⟩, ⟨some 26, .faddr 0 (.t 4), some (25, true)⟩, ⟨some 27, .load false 1 (.t 26), some (25, true)⟩, ⟨some 28, .mov (.t 0), some (25, true)⟩, ⟨some 29, .mov (.t 3), some (25, true)⟩, ⟨some 30, .ibin .sub (.t 29) (.c (.int .i64 1)), some (25, true)⟩, ⟨some 31, .iaddr 2 (.t 28) (.t 30), some (25, true)⟩, ⟨some 32, .faddr 1 (.t 31), some (25, true)⟩, ⟨some 33, .load false 1 (.t 32), some (25, true)⟩, ⟨some 34, .ibin .leq (.t 27) (.t 33), some (25, true)⟩, ⟨some 35, .pick (.t 25) (.t 34) (.c (.bool false)), some (22, false)⟩, ⟨some 36, .pick (.t 22) (.c (.bool true)) (.t 35), none⟩]
def c39_5 : List LOper := [⟨some 2, .mov (.c (.bool false)), none⟩]
def c39_6 : List LOper := [⟨some 37, .ibin .add (.t 7) (.c (.int .i64 1)), none⟩, ⟨some 7, .mov (.t 37), none⟩]
def Jk6 : LC := (.seq (.reg false c39_2) (.seq (.cond (.t 8) .skip (.seq (.trim []) (.exit 0))) (.seq (.blk 1 (.seq (.reg false c39_3) (.seq (.reg true c39_4) (.cond (.t 36) (.seq (.reg false c39_5) (.seq (.trim [2]) .ret)) .skip)))) (.reg false c39_6))))
def c39_8 : List LOper := [⟨some 2, .mov (.c (.bool true)), none⟩]
def lc39 : LC := (.seq (.reg false c39_0) (.seq (.seq (.reg false c39_1) (.blk 0 (.loop [0, 5, 6, 7] Jk6))) (.seq (.reg false c39_8) .ret)))
def lf39 : X5 := ⟨1, [.tmp 2], true, lc39⟩
def hi39 : Yk := ⟨[], [none, none, some [0, 5, 6, 7], none, some [], none, none, none, none, some [2], none, none, none, none], [], []⟩
theorem lf39_ok : Ym Try.prog hi39 true Try.f39 = some ⟨lf39.np, lf39.res.map RV.base, lf39.pm, lf39.body⟩ := by kernel_rfl

/-! additive/track.onGrid -/
def c40_0 : List LOper := [⟨some 1, .box (.t 0), none⟩, ⟨some 2, .mov (.c (.bool false)), none⟩]
def c40_1 : List LOper := [⟨some 3, .faddr 0 (.t 1), none⟩, ⟨some 4, .load false 1 (.t 3), none⟩, ⟨some 5, .ibin .geq (.t 4) (.c (.int .i64 (-4096))), none⟩, ⟨some 6, .mov (.t 5), none⟩, ⟨some 7, .faddr 0 (.t 1), some (6, true)⟩, ⟨some 8, .load false 1 (.t 7), some (6, true)⟩, ⟨some 9, .ibin .lss (.t 8) (.c (.int .i64 4096)), some (6, true)⟩, ⟨some 10, .pick (.t 6) (.t 9) (.c (.bool false)), none⟩, ⟨some 11, .mov (.t 10), none⟩, ⟨some 12, .faddr 1 (.t 1), some (11, true)⟩, ⟨some 13, .load false 1 (.t 12), some (11, true)⟩, ⟨some 14, .ibin .geq (.t 13) (.c (.int .i64 (-4096))), some (11, true)⟩, ⟨some 15, .pick (.t 11) (.t 14) (.c (.bool false)), none⟩, ⟨some 16, .mov (.t 15), none⟩, ⟨some 17, .faddr 1 (.t 1), some (16, true)⟩, ⟨some 18, .load false 1 (.t 17), some (16, true)⟩, ⟨some 19, .ibin .lss (.t 18) (.c (.int .i64 4096)), some (16, true)⟩, ⟨some 20, .pick (.t 16) (.t 19) (.c (.bool false)), none⟩, ⟨some 2, .mov (.t 20), none⟩]
def lc40 : LC := (.seq (.reg false c40_0) (.seq (.reg false c40_1) .ret))
def lf40 : X5 := ⟨1, [.tmp 2], true, lc40⟩
def hi40 : Yk := ⟨[], [none, none, none], [], []⟩
theorem lf40_ok : Ym Try.prog hi40 true Try.f40 = some ⟨lf40.np, lf40.res.map RV.base, lf40.pm, lf40.body⟩ := by kernel_rfl

/-! additive/track.neighbors -/
def c41_0 : List LOper := [⟨some 2, .box (.t 0), none⟩, ⟨some 3, .box (.t 1), none⟩, ⟨some 4, .mov (.c (.bool false)), none⟩]
def c41_1 : List LOper := [⟨some 7, .faddr 0 (.t 2), none⟩, ⟨some 8, .load false 1 (.t 7), none⟩, ⟨some 9, .faddr 0 (.t 3), none⟩, ⟨some 10, .load false 1 (.t 9), none⟩, ⟨some 11, .ibin .sub (.t 8) (.t 10), none⟩, ⟨some 12, .faddr 1 (.t 2), none⟩, ⟨some 13, .load false 1 (.t 12), none⟩, ⟨some 14, .faddr 1 (.t 3), none⟩, ⟨some 15, .load false 1 (.t 14), none⟩, ⟨some 16, .ibin .sub (.t 13) (.t 15), none⟩, ⟨some 5, .mov (.t 11), none⟩, ⟨some 6, .mov (.t 16), none⟩]
def c41_2 : List LOper := [⟨some 17, .mov (.t 5), none⟩, ⟨some 18, .mov (.t 5), none⟩, ⟨some 19, .ibin .mul (.t 17) (.t 18), none⟩, ⟨some 20, .mov (.t 6), none⟩, ⟨some 21, .mov (.t 6), none⟩, ⟨some 22, .ibin .mul (.t 20) (.t 21), none⟩, ⟨some 23, .ibin .add (.t 19) (.t 22), none⟩, ⟨some 24, .ibin .eql (.t 23) (.c (.int .i64 1)), none⟩, ⟨some 4, .mov (.t 24), none⟩]
def lc41 : LC := (.seq (.reg false c41_0) (.seq (.reg true c41_1) (.seq (.reg false c41_2) .ret)))
def lf41 : X5 := ⟨2, [.tmp 4], true, lc41⟩
def hi41 : Yk := ⟨[], [none, none, none, none], [], []⟩
theorem lf41_ok : Ym Try.prog hi41 true Try.f41 = some ⟨lf41.np, lf41.res.map RV.base, lf41.pm, lf41.body⟩ := by kernel_rfl

/-! additive/order.Improve -/
def c42_0 : List LOper := [⟨some 3, .box (.t 0), none⟩, ⟨some 6, .mov (.c (.nils)), none⟩]
def c42_1 : List LOper := [⟨some 15, .load true 2 (.t 3), none⟩, ⟨some 16, .callp 58 [(.t 15)], none⟩, ⟨some 17, .un .not (.t 16), none⟩]
def c42_2 : List LOper := [⟨some 6, .mov (.c (.nils)), none⟩]
def c42_3 : List LOper := [⟨some 18, .mov (.t 1), none⟩, ⟨some 19, .callr 59 [(.t 18)], none⟩, ⟨some 7, .mov (.t 19), none⟩]
def c42_4 : List LOper := [⟨some 20, .mov (.t 2), none⟩, ⟨some 21, .mm false (.t 20) (.c (.int .i64 64)), none⟩, ⟨some 8, .mov (.t 21), none⟩]
def c42_5 : List LOper := [⟨some 22, .mov (.t 8), none⟩, ⟨some 23, .ibin .gtr (.t 22) (.c (.int .i64 0)), none⟩]
def c42_6 : List LOper := [⟨some 27, .load true 2 (.t 3), none⟩, ⟨some 28, .mov (.t 7), none⟩, ⟨some 29, .callr 60 [(.t 27), (.t 28)], none⟩, ⟨some 30, .callp 61 [(.t 29)], none⟩, ⟨some 26, .mov (.t 30), none⟩, ⟨some 31, .ext (.t 26) 0, none⟩, ⟨some 32, .ext (.t 26) 1, none⟩, ⟨some 33, .ext (.t 26) 2, none⟩, ⟨some 9, .mov (.t 31), none⟩, ⟨some 10, .mov (.t 32), none⟩, ⟨some 11, .mov (.t 33), none⟩]
def c42_7 : List LOper := [⟨some 34, .mov (.t 11), none⟩, ⟨some 35, .un .not (.t 34), none⟩]
def c42_8 : List LOper := [⟨some 36, .mov (.t 9), none⟩, ⟨some 37, .mov (.t 10), none⟩, ⟨some 12, .mov (.t 36), none⟩, ⟨some 13, .mov (.t 37), none⟩]
def c42_9 : List LOper := [⟨some 38, .mov (.t 12), none⟩, ⟨some 39, .mov (.t 13), none⟩, ⟨some 40, .ibin .lss (.t 38) (.t 39), none⟩]
def Jwc : List LOper := [⟨some 45, .mov (.t 7), none⟩, ⟨some 46, .mov (.t 12), none⟩, ⟨some 47, .mov (.t 7), none⟩, ⟨some 48, .mov (.t 13), none⟩, ⟨some 49, .mov (.t 7), none⟩, ⟨some 50, .mov (.t 13), none⟩, ⟨some 51, .iaddr 3 (.t 49) (.t 50), none⟩, ⟨some 52, .load true 3 (.t 51), none⟩, ⟨some 53, .mov (.t 7), none⟩, ⟨some 54, .mov (.t 12), none⟩, ⟨some 55, .iaddr 3 (.t 53) (.t 54), none⟩, ⟨some 56, .load true 3 (.t 55), none⟩, ⟨some 57, .iaddr 3 (.t 45) (.t 46), none⟩, ⟨none, .store 3 (.t 57) (.t 52), none⟩, ⟨some 58, .iaddr 3 (.t 47) (.t 48), none⟩, ⟨none, .store 3 (.t 58) (.t 56), none⟩]
def J0u : List LOper := [⟨some 41, .mov (.t 12), none⟩, ⟨some 42, .ibin .add (.t 41) (.c (.int .i64 1)), none⟩, ⟨some 43, .mov (.t 13), none⟩, ⟨some 44, .ibin .sub (.t 43) (.c (.int .i64 1)), none⟩, ⟨some 12, .mov (.t 42), none⟩, ⟨some 13, .mov (.t 44), none⟩]
def Jiz : LC := (.seq (.seq (.reg false c42_9) (.cond (.t 40) .skip (.seq (.trim [3, 7, 8, 9, 10]) (.exit 2)))) (.seq (.blk 3 (.reg true Jwc)) (.reg false J0u)))
def Jxc : List LOper := [⟨some 59, .mov (.t 9), none⟩, ⟨some 14, .mov (.t 59), none⟩]
def Jyk : List LOper := [⟨some 60, .mov (.t 14), none⟩, ⟨some 61, .mov (.t 10), none⟩, ⟨some 62, .ibin .leq (.t 60) (.t 61), none⟩]
def J0v : List LOper := [⟨some 65, .mov (.t 7), none⟩, ⟨some 66, .mov (.t 14), none⟩, ⟨some 67, .iaddr 3 (.t 65) (.t 66), none⟩, ⟨some 68, .faddr 1 (.t 67), none⟩, ⟨some 69, .load false 1 (.t 68), none⟩, ⟨some 70, .un .not (.t 69), none⟩]
def Jx0 : List LOper := [⟨some 71, .mov (.t 7), none⟩, ⟨some 72, .mov (.t 14), none⟩, ⟨some 73, .mov (.t 7), none⟩, ⟨some 74, .mov (.t 14), none⟩, ⟨some 75, .iaddr 3 (.t 73) (.t 74), none⟩, ⟨some 76, .load true 3 (.t 75), none⟩, ⟨some 77, .callp 62 [(.t 76)], none⟩, ⟨some 78, .iaddr 3 (.t 71) (.t 72), none⟩, ⟨none, .store 3 (.t 78) (.t 77), none⟩]
def Jyj : List LOper := [⟨some 63, .mov (.t 14), none⟩, ⟨some 64, .ibin .add (.t 63) (.c (.int .i64 1)), none⟩, ⟨some 14, .mov (.t 64), none⟩]
def Jgl : LC := (.seq (.seq (.reg false Jyk) (.cond (.t 62) .skip (.seq (.trim [3, 7, 8]) (.exit 4)))) (.seq (.blk 5 (.seq (.reg false J0v) (.cond (.t 70) (.reg false Jx0) .skip))) (.reg false Jyj)))
def Jwo : List LOper := [⟨some 24, .mov (.t 8), none⟩, ⟨some 25, .ibin .sub (.t 24) (.c (.int .i64 1)), none⟩, ⟨some 8, .mov (.t 25), none⟩]
def Jaz : LC := (.seq (.seq (.reg false c42_5) (.cond (.t 23) .skip (.seq (.trim [7]) (.exit 0)))) (.seq (.blk 1 (.seq (.reg false c42_6) (.seq (.seq (.reg false c42_7) (.cond (.t 35) (.seq (.trim [7]) (.exit 0)) .skip)) (.seq (.seq (.reg false c42_8) (.blk 2 (.loop [3, 7, 8, 9, 10, 12, 13] Jiz))) (.seq (.reg false Jxc) (.blk 4 (.loop [3, 7, 8, 10, 14] Jgl))))))) (.reg false Jwo)))
def c42_21 : List LOper := [⟨some 79, .mov (.t 7), none⟩, ⟨some 6, .mov (.t 79), none⟩]
def lc42 : LC := (.seq (.reg false c42_0) (.seq (.seq (.reg false c42_1) (.cond (.t 17) (.seq (.reg false c42_2) .ret) .skip)) (.seq (.reg false c42_3) (.seq (.seq (.reg false c42_4) (.blk 0 (.loop [3, 7, 8] Jaz))) (.seq (.reg false c42_21) .ret)))))
def lf42 : X5 := ⟨3, [.tmp 6], true, lc42⟩
def hi42 : Yk := ⟨[(19, .r), (29, .r)], [none, none, none, none, none, none, none, some [3, 7, 8], none, some [7], none, none, none, some [7], none, none, some [3, 7, 8, 9, 10, 12, 13], none, some [3, 7, 8, 9, 10], none, none, none, none, some [3, 7, 8, 10, 14], none, some [3, 7, 8], none, none, none, none, none, none, none], [], []⟩
theorem lf42_ok : Ym Try.prog hi42 true Try.f42 = some ⟨lf42.np, lf42.res.map RV.base, lf42.pm, lf42.body⟩ := by kernel_rfl

/-! additive/order.Greedy -/
def c43_0 : List LOper := [⟨some 2, .box (.t 0), none⟩, ⟨some 4, .mov (.c (.nils)), none⟩]
def c43_1 : List LOper := [⟨some 15, .load true 2 (.t 2), none⟩, ⟨some 16, .callp 58 [(.t 15)], none⟩, ⟨some 17, .un .not (.t 16), none⟩]
def c43_2 : List LOper := [⟨some 4, .mov (.c (.nils)), none⟩]
def c43_3 : List LOper := [⟨some 18, .mov (.t 1), none⟩, ⟨some 19, .callr 59 [(.t 18)], none⟩, ⟨some 5, .mov (.t 19), none⟩]
def c43_4 : List LOper := [⟨some 6, .mov (.c (.nils)), none⟩]
def c43_5 : List LOper := [⟨some 20, .mov (.t 5), none⟩, ⟨some 21, .len (.t 20), none⟩, ⟨some 22, .ibin .gtr (.t 21) (.c (.int .i64 0)), none⟩]
def c43_6 : List LOper := [⟨some 7, .mov (.c (.int .i64 0)), none⟩, ⟨some 8, .mov (.c (.int .i64 0)), none⟩, ⟨some 9, .mov (.c (.int .i64 (-1))), none⟩]
def c43_7 : List LOper := [⟨some 23, .mov (.t 5), none⟩, ⟨some 24, .len (.t 23), none⟩, ⟨some 25, .mov (.c (.int .i64 0)), none⟩]
def c43_8 : List LOper := [⟨some 26, .ibin .lss (.t 25) (.t 24), none⟩]
def c43_9 : List LOper := [⟨some 27, .mov (.t 25), none⟩, ⟨some 28, .iaddr 3 (.t 23) (.t 25), none⟩, ⟨some 29, .load true 3 (.t 28), none⟩, ⟨some 11, .alloc [.int .i64 0, .bool false, .nils], none⟩, ⟨some 10, .mov (.t 27), none⟩, ⟨none, .store 3 (.t 11) (.t 29), none⟩]
def Jt8 : List LOper := [⟨some 31, .load true 2 (.t 2), none⟩, ⟨some 32, .load true 3 (.t 11), none⟩, ⟨some 33, .callp 63 [(.t 31), (.t 32)], none⟩, ⟨some 30, .mov (.t 33), none⟩, ⟨some 34, .ext (.t 30) 0, none⟩, ⟨some 35, .ext (.t 30) 1, none⟩, ⟨some 12, .mov (.t 34), none⟩, ⟨some 13, .mov (.t 35), none⟩]
def Jy6 : List LOper := [⟨some 36, .mov (.t 9), none⟩, ⟨some 37, .ibin .lss (.t 36) (.c (.int .i64 0)), none⟩, ⟨some 38, .mov (.t 37), none⟩, ⟨some 39, .mov (.t 13), some (38, false)⟩, ⟨some 40, .mov (.t 9), some (38, false)⟩, ⟨some 41, .ibin .lss (.t 39) (.t 40), some (38, false)⟩, ⟨some 42, .pick (.t 38) (.c (.bool true)) (.t 41), none⟩]
def Jvd : List LOper := [⟨some 43, .mov (.t 10), none⟩, ⟨some 44, .mov (.t 12), none⟩, ⟨some 45, .mov (.t 13), none⟩, ⟨some 7, .mov (.t 43), none⟩, ⟨some 8, .mov (.t 44), none⟩, ⟨some 9, .mov (.t 45), none⟩]
def Jux : List LOper := [⟨some 46, .ibin .add (.t 25) (.c (.int .i64 1)), none⟩, ⟨some 25, .mov (.t 46), none⟩]
def Jcf : LC := (.seq (.reg false c43_8) (.seq (.cond (.t 26) .skip (.seq (.trim [2, 5, 6, 7, 8]) (.exit 2))) (.seq (.blk 3 (.seq (.reg false c43_9) (.seq (.reg false Jt8) (.seq (.reg false Jy6) (.cond (.t 42) (.reg false Jvd) .skip))))) (.reg false Jux))))
def Jxa : List LOper := [⟨some 47, .mov (.t 5), none⟩, ⟨some 48, .mov (.t 7), none⟩, ⟨some 49, .iaddr 3 (.t 47) (.t 48), none⟩, ⟨some 50, .load true 3 (.t 49), none⟩, ⟨some 51, .mov (.t 8), none⟩, ⟨some 52, .callz 64 [(.t 50), (.t 51)], none⟩, ⟨some 14, .alloc [.int .i64 0, .bool false, .nils], none⟩, ⟨none, .store 3 (.t 14) (.t 52), none⟩]
def Jxp : List LOper := [⟨some 53, .mov (.t 5), none⟩, ⟨some 54, .mov (.t 7), none⟩, ⟨some 55, .slc 3 (.t 53) none (some (.t 54)), none⟩, ⟨some 56, .mov (.t 5), none⟩, ⟨some 57, .mov (.t 7), none⟩, ⟨some 58, .ibin .add (.t 57) (.c (.int .i64 1)), none⟩, ⟨some 59, .slc 3 (.t 56) (some (.t 58)) none, none⟩, ⟨some 60, .app 3 40 50 [.int .i64 0, .bool false, .nils] (.t 55) (.t 59), none⟩, ⟨some 5, .mov (.t 60), none⟩]
def Jvv : List LOper := [⟨some 61, .mov (.t 6), none⟩, ⟨some 62, .load true 3 (.t 14), none⟩, ⟨some 63, .bslice 1 3 50 [.int .i64 0, .bool false, .nils] [(0, 3, (.t 62))], none⟩, ⟨some 64, .app 3 40 50 [.int .i64 0, .bool false, .nils] (.t 61) (.t 63), none⟩, ⟨some 6, .mov (.t 64), none⟩]
def J0r : List LOper := [⟨some 65, .load true 3 (.t 14), none⟩, ⟨some 66, .callp 65 [(.t 65)], none⟩, ⟨some 67, .idx 2 2 true (.t 66) (.c (.int .i64 1)), none⟩, ⟨none, .store 2 (.t 2) (.t 67), none⟩]
def Jav : LC := (.seq (.seq (.reg false c43_5) (.cond (.t 22) .skip (.seq (.trim [6]) (.exit 0)))) (.blk 1 (.seq (.reg false c43_6) (.seq (.seq (.reg false c43_7) (.blk 2 (.loop [2, 5, 6, 7, 8, 9, 23, 24, 25] Jcf))) (.seq (.reg false Jxa) (.seq (.reg true Jxp) (.seq (.reg false Jvv) (.reg false J0r))))))))
def c43_20 : List LOper := [⟨some 68, .mov (.t 6), none⟩, ⟨some 4, .mov (.t 68), none⟩]
def lc43 : LC := (.seq (.reg false c43_0) (.seq (.seq (.reg false c43_1) (.cond (.t 17) (.seq (.reg false c43_2) .ret) .skip)) (.seq (.reg false c43_3) (.seq (.reg false c43_4) (.seq (.blk 0 (.loop [2, 5, 6] Jav)) (.seq (.reg false c43_20) .ret))))))
def lf43 : X5 := ⟨2, [.tmp 4], true, lc43⟩
def hi43 : Yk := ⟨[(19, .r), (52, .z)], [none, none, none, none, none, none, none, some [2, 5, 6], none, some [6], none, none, none, some [2, 5, 6, 7, 8, 9, 23, 24, 25], none, some [2, 5, 6, 7, 8], none, none, none, none, none, none, none, none, none, none, none, none], [], []⟩
theorem lf43_ok : Ym Try.prog hi43 true Try.f43 = some ⟨lf43.np, lf43.res.map RV.base, lf43.pm, lf43.body⟩ := by kernel_rfl

/-! (*additive/toolpath.builder).print -/
def c44_0 : List LOper := [⟨some 3, .box (.t 1), none⟩]
def c44_1 : List LOper := [⟨some 4, .mov (.t 0), none⟩, ⟨some 5, .faddr 2 (.t 3), none⟩, ⟨some 6, .load false 1 (.t 5), none⟩, ⟨some 7, .iaddr 2 (.t 6) (.c (.int .i64 0)), none⟩, ⟨some 8, .load true 2 (.t 7), none⟩, ⟨some 9, .callr 66 [(.t 4), (.t 8)], none⟩]
def c44_2 : List LOper := [⟨some 10, .mov (.t 0), none⟩, ⟨some 11, .msk [22, 25] (.nilck (.t 10)), none⟩, ⟨some 12, .msk [22, 25] (.faddr 0 (.t 11)), none⟩, ⟨some 13, .msk [22, 25] (.faddr 0 (.t 3)), none⟩, ⟨some 14, .msk [22, 25] (.load false 1 (.t 13)), none⟩, ⟨some 15, .mov (.t 0), none⟩, ⟨some 16, .mov (.t 0), none⟩, ⟨some 17, .nilck (.t 16), none⟩, ⟨some 18, .faddr 2 (.t 17), none⟩, ⟨some 19, .faddr 13 (.t 18), none⟩, ⟨some 20, .load false 1 (.t 19), none⟩, ⟨some 21, .callq 67 [(.t 15), (.t 20)], none⟩, ⟨some 23, .faddr 2 (.t 3), none⟩, ⟨some 24, .load false 1 (.t 23), none⟩, ⟨some 22, .bslice 0 2 27 [.int .i64 0, .int .i64 0] [], none⟩, ⟨some 25, .appn true [22, 25] 2 16 27 [.int .i64 0, .int .i64 0] (.t 22) (.t 24), none⟩, ⟨some 26, .build [.int .i64 0, .int .i64 0, .int .i64 0, .int .i64 0, .int .i64 0, .nils] [(0, 1, (.c (.int .i64 3))), (1, 1, (.t 14)), (4, 1, (.t 21)), (5, 1, (.t 25))], none⟩, ⟨some 27, .callr 24 [(.t 12), (.t 26)], none⟩]
def c44_3 : List LOper := [⟨some 28, .mov (.t 0), none⟩, ⟨some 29, .faddr 2 (.t 3), none⟩, ⟨some 30, .load false 1 (.t 29), none⟩, ⟨some 31, .faddr 2 (.t 3), none⟩, ⟨some 32, .load false 1 (.t 31), none⟩, ⟨some 33, .len (.t 32), none⟩, ⟨some 34, .ibin .sub (.t 33) (.c (.int .i64 1)), none⟩, ⟨some 35, .iaddr 2 (.t 30) (.t 34), none⟩, ⟨some 36, .load true 2 (.t 35), none⟩, ⟨some 37, .nilck (.t 28), none⟩, ⟨some 38, .faddr 22 (.t 37), none⟩, ⟨none, .store 2 (.t 38) (.t 36), none⟩]
def lc44 : LC := (.seq (.reg false c44_0) (.seq (.reg false c44_1) (.seq (.reg true c44_2) (.reg false c44_3))))
def lf44 : X5 := ⟨2, [], false, lc44⟩
def hi44 : Yk := ⟨[(9, .r), (21, .q), (25, .z), (27, .r)], [none, none, none], [(2, [0, 1, 2, 3, 4, 5, 6, 7, 8, 9, 10, 11, 13, 14, 12, 15, 16, 17])], [(2, [22, 25], [11, 12, 13, 14])]⟩
theorem lf44_ok : Ym Try.prog hi44 false Try.f44 = some ⟨lf44.np, lf44.res.map RV.base, lf44.pm, lf44.body⟩ := by kernel_rfl

/-! additive/cool.copied -/
def c45_0 : List LOper := [⟨some 2, .mov (.c (.nils)), none⟩]
def c45_1 : List LOper := [⟨some 5, .mov (.t 0), none⟩, ⟨some 6, .callr 68 [(.t 5)], none⟩, ⟨some 3, .mov (.t 6), none⟩]
def c45_2 : List LOper := [⟨some 7, .mov (.t 3), none⟩, ⟨some 8, .len (.t 7), none⟩, ⟨some 9, .mov (.c (.int .i64 0)), none⟩]
def c45_3 : List LOper := [⟨some 10, .ibin .lss (.t 9) (.t 8), none⟩]
def c45_4 : List LOper := [⟨some 11, .mov (.t 9), none⟩, ⟨some 4, .mov (.t 11), none⟩]
def c45_5 : List LOper := [⟨some 12, .mov (.t 3), none⟩, ⟨some 13, .mov (.t 4), none⟩, ⟨some 14, .mov (.t 3), none⟩, ⟨some 15, .mov (.t 4), none⟩, ⟨some 16, .iaddr 6 (.t 14) (.t 15), none⟩, ⟨some 17, .faddr 5 (.t 16), none⟩, ⟨some 18, .load false 1 (.t 17), none⟩, ⟨some 19, .callz 69 [(.t 18)], none⟩, ⟨some 20, .iaddr 6 (.t 12) (.t 13), none⟩, ⟨some 21, .faddr 5 (.t 20), none⟩, ⟨none, .store 1 (.t 21) (.t 19), none⟩]
def c45_6 : List LOper := [⟨some 22, .ibin .add (.t 9) (.c (.int .i64 1)), none⟩, ⟨some 9, .mov (.t 22), none⟩]
def Jju : LC := (.seq (.reg false c45_3) (.seq (.cond (.t 10) .skip (.seq (.trim [3]) (.exit 0))) (.seq (.blk 1 (.seq (.reg false c45_4) (.reg false c45_5))) (.reg false c45_6))))
def c45_8 : List LOper := [⟨some 23, .mov (.t 3), none⟩, ⟨some 2, .mov (.t 23), none⟩]
def lc45 : LC := (.seq (.reg false c45_0) (.seq (.reg false c45_1) (.seq (.seq (.reg false c45_2) (.blk 0 (.loop [3, 8, 9] Jju))) (.seq (.reg false c45_8) .ret))))
def lf45 : X5 := ⟨1, [.tmp 2], true, lc45⟩
def hi45 : Yk := ⟨[(6, .r), (19, .z)], [none, none, none, some [3, 8, 9], none, some [3], none, none, none, none, none, none], [], []⟩
theorem lf45_ok : Ym Try.prog hi45 true Try.f45 = some ⟨lf45.np, lf45.res.map RV.base, lf45.pm, lf45.body⟩ := by kernel_rfl

/-! additive/cool.Slow$1 -/
def c46_0 : List LOper := [⟨some 4, .mov (.c (.bool false)), none⟩]
def c46_1 : List LOper := [⟨some 5, .load false 1 (.t 1), none⟩, ⟨some 6, .mov (.t 0), none⟩, ⟨some 9, .faddr 16 (.t 2), none⟩, ⟨some 10, .load false 1 (.t 9), none⟩, ⟨some 7, .callz 48 [(.t 5), (.t 6)], none⟩, ⟨some 8, .callp 47 [(.t 7)], none⟩, ⟨some 11, .ibin .geq (.t 8) (.t 10), none⟩, ⟨some 4, .mov (.t 11), none⟩]
def lc46 : LC := (.seq (.reg false c46_0) (.seq (.reg true c46_1) .ret))
def lf46 : X5 := ⟨3, [.tmp 4], true, lc46⟩
def hi46 : Yk := ⟨[(7, .z)], [none, none, none], [(1, [0, 1, 4, 5, 2, 3, 6, 7])], []⟩
theorem lf46_ok : Ym Try.prog hi46 true Try.f46 = some ⟨lf46.np, lf46.res.map RV.base, lf46.pm, lf46.body⟩ := by kernel_rfl

/-! additive/cool.Time -/
def c47_0 : List LOper := [⟨some 2, .mov (.c (.int .i64 0)), none⟩]
def c47_1 : List LOper := [⟨some 3, .mov (.c (.int .i64 0)), none⟩]
def c47_2 : List LOper := [⟨some 6, .mov (.t 0), none⟩, ⟨some 7, .len (.t 6), none⟩, ⟨some 8, .mov (.c (.int .i64 0)), none⟩]
def c47_3 : List LOper := [⟨some 9, .ibin .lss (.t 8) (.t 7), none⟩]
def c47_4 : List LOper := [⟨some 10, .iaddr 6 (.t 6) (.t 8), none⟩, ⟨some 11, .load true 6 (.t 10), none⟩, ⟨some 5, .alloc [.int .i64 0, .int .i64 0, .int .i64 0, .int .i64 0, .int .i64 0, .nils], none⟩, ⟨none, .store 6 (.t 5) (.t 11), none⟩]
def c47_5 : List LOper := [⟨some 12, .mov (.t 3), none⟩, ⟨some 13, .load true 6 (.t 5), none⟩, ⟨some 14, .callp 70 [(.t 13)], none⟩, ⟨some 15, .ibin .add (.t 12) (.t 14), none⟩, ⟨some 3, .mov (.t 15), none⟩]
def c47_6 : List LOper := [⟨some 16, .ibin .add (.t 8) (.c (.int .i64 1)), none⟩, ⟨some 8, .mov (.t 16), none⟩]
def Jl3 : LC := (.seq (.reg false c47_3) (.seq (.cond (.t 9) .skip (.seq (.trim [3]) (.exit 0))) (.seq (.blk 1 (.seq (.reg false c47_4) (.reg false c47_5))) (.reg false c47_6))))
def c47_8 : List LOper := [⟨some 17, .mov (.t 3), none⟩, ⟨some 2, .mov (.t 17), none⟩]
def lc47 : LC := (.seq (.reg false c47_0) (.seq (.reg false c47_1) (.seq (.seq (.reg false c47_2) (.blk 0 (.loop [3, 6, 7, 8] Jl3))) (.seq (.reg false c47_8) .ret))))
def lf47 : X5 := ⟨1, [.tmp 2], true, lc47⟩
def hi47 : Yk := ⟨[], [none, none, none, some [3, 6, 7, 8], none, some [3], none, none, none, none, none, none], [], []⟩
theorem lf47_ok : Ym Try.prog hi47 true Try.f47 = some ⟨lf47.np, lf47.res.map RV.base, lf47.pm, lf47.body⟩ := by kernel_rfl

/-! additive/cool.limited -/
def c48_0 : List LOper := [⟨some 4, .mov (.c (.nils)), none⟩]
def c48_1 : List LOper := [⟨some 8, .mov (.t 0), none⟩, ⟨some 9, .callr 68 [(.t 8)], none⟩, ⟨some 5, .mov (.t 9), none⟩]
def c48_2 : List LOper := [⟨some 10, .mov (.t 5), none⟩, ⟨some 11, .len (.t 10), none⟩, ⟨some 12, .mov (.c (.int .i64 0)), none⟩]
def c48_3 : List LOper := [⟨some 13, .ibin .lss (.t 12) (.t 11), none⟩]
def c48_4 : List LOper := [⟨some 14, .mov (.t 12), none⟩, ⟨some 15, .iaddr 6 (.t 10) (.t 12), none⟩, ⟨some 16, .load true 6 (.t 15), none⟩, ⟨some 7, .alloc [.int .i64 0, .int .i64 0, .int .i64 0, .int .i64 0, .int .i64 0, .nils], none⟩, ⟨some 6, .mov (.t 14), none⟩, ⟨none, .store 6 (.t 7) (.t 16), none⟩]
def c48_5 : List LOper := [⟨some 17, .faddr 0 (.t 7), none⟩, ⟨some 18, .load false 1 (.t 17), none⟩, ⟨some 19, .ibin .eql (.t 18) (.c (.int .i64 3)), none⟩]
def c48_6 : List LOper := [⟨some 20, .mov (.t 5), none⟩, ⟨some 21, .mov (.t 6), none⟩, ⟨some 22, .faddr 4 (.t 7), none⟩, ⟨some 23, .load false 1 (.t 22), none⟩, ⟨some 24, .mov (.t 1), none⟩, ⟨some 25, .mm false (.t 23) (.t 24), none⟩, ⟨some 26, .iaddr 6 (.t 20) (.t 21), none⟩, ⟨some 27, .faddr 4 (.t 26), none⟩, ⟨none, .store 1 (.t 27) (.t 25), none⟩]
def c48_7 : List LOper := [⟨some 28, .ibin .add (.t 12) (.c (.int .i64 1)), none⟩, ⟨some 12, .mov (.t 28), none⟩]
def Jhq : LC := (.seq (.reg false c48_3) (.seq (.cond (.t 13) .skip (.seq (.trim [5]) (.exit 0))) (.seq (.blk 1 (.seq (.reg false c48_4) (.seq (.reg false c48_5) (.cond (.t 19) (.reg false c48_6) .skip)))) (.reg false c48_7))))
def c48_9 : List LOper := [⟨some 29, .mov (.t 5), none⟩, ⟨some 4, .mov (.t 29), none⟩]
def lc48 : LC := (.seq (.reg false c48_0) (.seq (.reg false c48_1) (.seq (.seq (.reg false c48_2) (.blk 0 (.loop [1, 5, 10, 11, 12] Jhq))) (.seq (.reg false c48_9) .ret))))
def lf48 : X5 := ⟨2, [.tmp 4], true, lc48⟩
def hi48 : Yk := ⟨[(9, .r)], [none, none, none, some [1, 5, 10, 11, 12], none, some [5], none, none, none, none, none, none, none], [], []⟩
theorem lf48_ok : Ym Try.prog hi48 true Try.f48 = some ⟨lf48.np, lf48.res.map RV.base, lf48.pm, lf48.body⟩ := by kernel_rfl

/-! additive/additiveref18.fine -/
def c50_0 : List LOper := [⟨some 2, .mov (.c (.bool false)), none⟩]
def c50_1 : List LOper := [⟨some 3, .mov (.c (.int .i64 0)), none⟩]
def c50_2 : List LOper := [⟨some 4, .mov (.t 3), none⟩, ⟨some 5, .mov (.t 0), none⟩, ⟨some 6, .len (.t 5), none⟩, ⟨some 7, .ibin .lss (.t 4) (.t 6), none⟩]
def c50_3 : List LOper := [⟨some 10, .mov (.t 0), none⟩, ⟨some 11, .mov (.t 3), none⟩, ⟨some 12, .iaddr 2 (.t 10) (.t 11), none⟩, ⟨some 13, .faddr 0 (.t 12), none⟩, ⟨some 14, .load false 1 (.t 13), none⟩, ⟨some 15, .ibin .lss (.t 14) (.c (.int .i64 (-4096))), none⟩, ⟨some 16, .mov (.t 15), none⟩, ⟨some 17, .mov (.t 0), some (16, false)⟩, ⟨some 18, .mov (.t 3), some (16, false)⟩, ⟨some 19, .iaddr 2 (.t 17) (.t 18), some (16, false)⟩, ⟨some 20, .faddr 0 (.t 19), some (16, false)⟩, ⟨some 21, .load false 1 (.t 20), some (16, false)⟩, ⟨some 22, .mov (.t 0), some (16, false)⟩, ⟨some 23, .mov (.t 3), some (16, false)⟩, ⟨some 24, .iaddr 2 (.t 22) (.t 23), some (16, false)⟩, ⟨some 25, .faddr 1 (.t 24), some (16, false)⟩, ⟨some 26, .load false 1 (.t 25), some (16, false)⟩, ⟨some 27, .ibin .geq (.t 21) (.t 26), some (16, false)⟩, ⟨some 28, .pick (.t 16) (.c (.bool true)) (.t 27), none⟩, ⟨some 29, .mov (.t 28), none⟩, ⟨some 30, .mov (.t 0), some (29, false)⟩, ⟨some 31, .mov (.t 3), some (29, false)⟩, ⟨some 32, .iaddr 2 (.t 30) (.t 31), some (29, false)⟩, ⟨some 33, .faddr 1 (.t 32), some (29, false)⟩, ⟨some 34, .load false 1 (.t 33), some (29, false)⟩, ⟨some 35, .ibin .gtr (.t 34) (.c (.int .i64 4096)), some (29, false)⟩, ⟨some 36, .pick (.t 29) (.c (.bool true)) (.t 35), none⟩, ⟨some 37, .mov (.t 36), none⟩, ⟨some 38, .mov (.t 3), some (37, false)⟩, ⟨some 39, .ibin .gtr (.t 38) (.c (.int .i64 0)), some (37, false)⟩, ⟨some 40, .mov (.t 39), some (37, false)⟩, ⟨some 41, .mov (.t 0), some (40, true)⟩, ⟨some 42, .mov (.t 3), some (40, true)⟩, ⟨some 43, .iaddr 2 (.t 41) (.t 42), some (40, true)⟩, ⟨some 44, .faddr 0 (.t 43), some (40, true)⟩, ⟨some 45, .load false 1 (.t 44), some (40, true)⟩, ⟨some 46, .mov (.t 0), some (40, true)⟩, ⟨some 47, .mov (.t 3), some (40, true)⟩, ⟨some 48, .ibin .sub (.t 47) (.c (.int .i64 1)), some (40, true)⟩, ⟨some 49, .iaddr 2 (.t 46) (.t 48), some (40, true)⟩, ⟨some 50, .faddr 1 (.t 49), some (40, true)⟩, ⟨some 51, .load false 1 (.t 50), some (40, true)⟩, ⟨some 52, .ibin .leq (.t 45) (.t 51), some (40, true)⟩, ⟨some 53, .pick (.t 40) (.t 52) (.c (.bool false)), some (37, false)⟩, ⟨some 54, .pick (.t 37) (.c (.bool true)) (.t 53), none⟩]
def c50_4 : List LOper := [⟨some 2, .mov (.c (.bool false)), none⟩]
def c50_5 : List LOper := [⟨some 8, .mov (.t 3), none⟩, ⟨some 9, .ibin .add (.t 8) (.c (.int .i64 1)), none⟩, ⟨some 3, .mov (.t 9), none⟩]
def Jld : LC := (.seq (.seq (.reg false c50_2) (.cond (.t 7) .skip (.seq (.trim [0]) (.exit 0)))) (.seq (.blk 1 (.seq (.reg true c50_3) (.cond (.t 54) (.seq (.reg false c50_4) (.seq (.trim [2]) .ret)) .skip))) (.reg false c50_5)))
def c50_7 : List LOper := [⟨some 55, .mov (.t 0), none⟩, ⟨some 56, .len (.t 55), none⟩, ⟨some 57, .ibin .gtr (.t 56) (.c (.int .i64 0)), none⟩, ⟨some 2, .mov (.t 57), none⟩]
def lc50 : LC := (.seq (.reg false c50_0) (.seq (.seq (.reg false c50_1) (.blk 0 (.loop [0, 3] Jld))) (.seq (.reg false c50_7) .ret)))
def lf50 : X5 := ⟨1, [.tmp 2], true, lc50⟩
def hi50 : Yk := ⟨[], [none, none, some [0, 3], none, some [0], none, none, none, some [2], none, none, none, none], [], []⟩
theorem lf50_ok : Ym Try.prog hi50 true Try.f50 = some ⟨lf50.np, lf50.res.map RV.base, lf50.pm, lf50.body⟩ := by kernel_rfl

/-! additive/toolpath.near -/
def c54_0 : List LOper := [⟨some 2, .box (.t 0), none⟩, ⟨some 3, .box (.t 1), none⟩, ⟨some 4, .mov (.c (.bool false)), none⟩]
def c54_1 : List LOper := [⟨some 7, .faddr 0 (.t 2), none⟩, ⟨some 8, .load false 1 (.t 7), none⟩, ⟨some 9, .faddr 0 (.t 3), none⟩, ⟨some 10, .load false 1 (.t 9), none⟩, ⟨some 11, .ibin .sub (.t 8) (.t 10), none⟩, ⟨some 12, .faddr 1 (.t 2), none⟩, ⟨some 13, .load false 1 (.t 12), none⟩, ⟨some 14, .faddr 1 (.t 3), none⟩, ⟨some 15, .load false 1 (.t 14), none⟩, ⟨some 16, .ibin .sub (.t 13) (.t 15), none⟩, ⟨some 5, .mov (.t 11), none⟩, ⟨some 6, .mov (.t 16), none⟩]
def c54_2 : List LOper := [⟨some 17, .mov (.t 5), none⟩, ⟨some 18, .mov (.t 5), none⟩, ⟨some 19, .ibin .mul (.t 17) (.t 18), none⟩, ⟨some 20, .mov (.t 6), none⟩, ⟨some 21, .mov (.t 6), none⟩, ⟨some 22, .ibin .mul (.t 20) (.t 21), none⟩, ⟨some 23, .ibin .add (.t 19) (.t 22), none⟩, ⟨some 24, .ibin .eql (.t 23) (.c (.int .i64 1)), none⟩, ⟨some 4, .mov (.t 24), none⟩]
def lc54 : LC := (.seq (.reg false c54_0) (.seq (.reg true c54_1) (.seq (.reg false c54_2) .ret)))
def lf54 : X5 := ⟨2, [.tmp 4], true, lc54⟩
def hi54 : Yk := ⟨[], [none, none, none, none], [], []⟩
theorem lf54_ok : Ym Try.prog hi54 true Try.f54 = some ⟨lf54.np, lf54.res.map RV.base, lf54.pm, lf54.body⟩ := by kernel_rfl

/-! additive/flow.even -/
def c55_0 : List LOper := [⟨some 6, .mov (.c (.bool false)), none⟩]
def c55_1 : List LOper := [⟨some 7, .mov (.t 0), none⟩, ⟨some 8, .mov (.t 1), none⟩, ⟨some 9, .mov (.t 2), none⟩, ⟨some 10, .callp 56 [(.t 7), (.t 8), (.t 9)], none⟩, ⟨some 11, .mov (.t 10), none⟩, ⟨some 12, .mov (.t 0), some (11, true)⟩, ⟨some 13, .ibin .rem (.t 12) (.c (.int .i64 2)), some (11, true)⟩, ⟨some 14, .ibin .eql (.t 13) (.c (.int .i64 0)), some (11, true)⟩, ⟨some 15, .pick (.t 11) (.t 14) (.c (.bool false)), none⟩, ⟨some 6, .mov (.t 15), none⟩]
def lc55 : LC := (.seq (.reg false c55_0) (.seq (.reg false c55_1) .ret))
def lf55 : X5 := ⟨3, [.tmp 6], true, lc55⟩
def hi55 : Yk := ⟨[], [none, none, none], [], []⟩
theorem lf55_ok : Ym Try.prog hi55 true Try.f55 = some ⟨lf55.np, lf55.res.map RV.base, lf55.pm, lf55.body⟩ := by kernel_rfl

/-! additive/flow.within -/
def c56_0 : List LOper := [⟨some 6, .mov (.c (.bool false)), none⟩]
def c56_1 : List LOper := [⟨some 7, .mov (.t 0), none⟩, ⟨some 8, .mov (.t 1), none⟩, ⟨some 9, .ibin .geq (.t 7) (.t 8), none⟩, ⟨some 10, .mov (.t 9), none⟩, ⟨some 11, .mov (.t 0), some (10, true)⟩, ⟨some 12, .mov (.t 2), some (10, true)⟩, ⟨some 13, .ibin .leq (.t 11) (.t 12), some (10, true)⟩, ⟨some 14, .pick (.t 10) (.t 13) (.c (.bool false)), none⟩, ⟨some 6, .mov (.t 14), none⟩]
def lc56 : LC := (.seq (.reg false c56_0) (.seq (.reg false c56_1) .ret))
def lf56 : X5 := ⟨3, [.tmp 6], true, lc56⟩
def hi56 : Yk := ⟨[], [none, none, none], [], []⟩
theorem lf56_ok : Ym Try.prog hi56 true Try.f56 = some ⟨lf56.np, lf56.res.map RV.base, lf56.pm, lf56.body⟩ := by kernel_rfl

/-! additive/runs.fits -/
def c57_0 : List LOper := [⟨some 1, .box (.t 0), none⟩, ⟨some 2, .mov (.c (.bool false)), none⟩]
def c57_1 : List LOper := [⟨some 3, .faddr 0 (.t 1), none⟩, ⟨some 4, .load false 1 (.t 3), none⟩, ⟨some 5, .ibin .geq (.t 4) (.c (.int .i64 (-1048576))), none⟩, ⟨some 6, .mov (.t 5), none⟩, ⟨some 7, .faddr 0 (.t 1), some (6, true)⟩, ⟨some 8, .load false 1 (.t 7), some (6, true)⟩, ⟨some 9, .ibin .leq (.t 8) (.c (.int .i64 1048576)), some (6, true)⟩, ⟨some 10, .pick (.t 6) (.t 9) (.c (.bool false)), none⟩, ⟨some 11, .mov (.t 10), none⟩, ⟨some 12, .faddr 1 (.t 1), some (11, true)⟩, ⟨some 13, .load false 1 (.t 12), some (11, true)⟩, ⟨some 14, .ibin .geq (.t 13) (.c (.int .i64 (-1048576))), some (11, true)⟩, ⟨some 15, .pick (.t 11) (.t 14) (.c (.bool false)), none⟩, ⟨some 16, .mov (.t 15), none⟩, ⟨some 17, .faddr 1 (.t 1), some (16, true)⟩, ⟨some 18, .load false 1 (.t 17), some (16, true)⟩, ⟨some 19, .ibin .leq (.t 18) (.c (.int .i64 1048576)), some (16, true)⟩, ⟨some 20, .pick (.t 16) (.t 19) (.c (.bool false)), none⟩, ⟨some 2, .mov (.t 20), none⟩]
def lc57 : LC := (.seq (.reg false c57_0) (.seq (.reg false c57_1) .ret))
def lf57 : X5 := ⟨1, [.tmp 2], true, lc57⟩
def hi57 : Yk := ⟨[], [none, none, none], [], []⟩
theorem lf57_ok : Ym Try.prog hi57 true Try.f57 = some ⟨lf57.np, lf57.res.map RV.base, lf57.pm, lf57.body⟩ := by kernel_rfl

/-! additive/order.onGrid -/
def c58_0 : List LOper := [⟨some 1, .box (.t 0), none⟩, ⟨some 2, .mov (.c (.bool false)), none⟩]
def c58_1 : List LOper := [⟨some 3, .faddr 0 (.t 1), none⟩, ⟨some 4, .load false 1 (.t 3), none⟩, ⟨some 5, .ibin .geq (.t 4) (.c (.int .i64 (-4096))), none⟩, ⟨some 6, .mov (.t 5), none⟩, ⟨some 7, .faddr 0 (.t 1), some (6, true)⟩, ⟨some 8, .load false 1 (.t 7), some (6, true)⟩, ⟨some 9, .ibin .lss (.t 8) (.c (.int .i64 4096)), some (6, true)⟩, ⟨some 10, .pick (.t 6) (.t 9) (.c (.bool false)), none⟩, ⟨some 11, .mov (.t 10), none⟩, ⟨some 12, .faddr 1 (.t 1), some (11, true)⟩, ⟨some 13, .load false 1 (.t 12), some (11, true)⟩, ⟨some 14, .ibin .geq (.t 13) (.c (.int .i64 (-4096))), some (11, true)⟩, ⟨some 15, .pick (.t 11) (.t 14) (.c (.bool false)), none⟩, ⟨some 16, .mov (.t 15), none⟩, ⟨some 17, .faddr 1 (.t 1), some (16, true)⟩, ⟨some 18, .load false 1 (.t 17), some (16, true)⟩, ⟨some 19, .ibin .lss (.t 18) (.c (.int .i64 4096)), some (16, true)⟩, ⟨some 20, .pick (.t 16) (.t 19) (.c (.bool false)), none⟩, ⟨some 2, .mov (.t 20), none⟩]
def lc58 : LC := (.seq (.reg false c58_0) (.seq (.reg false c58_1) .ret))
def lf58 : X5 := ⟨1, [.tmp 2], true, lc58⟩
def hi58 : Yk := ⟨[], [none, none, none], [], []⟩
theorem lf58_ok : Ym Try.prog hi58 true Try.f58 = some ⟨lf58.np, lf58.res.map RV.base, lf58.pm, lf58.body⟩ := by kernel_rfl

/-! additive/order.valid -/
def c59_0 : List LOper := [⟨some 2, .mov (.c (.nils)), none⟩]
def c59_1 : List LOper := [⟨some 3, .mov (.c (.nils)), none⟩]
def c59_2 : List LOper := [⟨some 6, .mov (.t 0), none⟩, ⟨some 7, .len (.t 6), none⟩, ⟨some 8, .mov (.c (.int .i64 0)), none⟩]
def c59_3 : List LOper := [⟨some 9, .ibin .lss (.t 8) (.t 7), none⟩]
def c59_4 : List LOper := [⟨some 10, .iaddr 3 (.t 6) (.t 8), none⟩, ⟨some 11, .load true 3 (.t 10), none⟩, ⟨some 5, .alloc [.int .i64 0, .bool false, .nils], none⟩, ⟨none, .store 3 (.t 5) (.t 11), none⟩]
def c59_5 : List LOper := [⟨some 12, .load true 3 (.t 5), none⟩, ⟨some 13, .callp 23 [(.t 12)], none⟩]
def c59_6 : List LOper := [⟨some 14, .mov (.t 3), none⟩, ⟨some 15, .load true 3 (.t 5), none⟩, ⟨some 16, .callz 73 [(.t 15)], none⟩, ⟨some 17, .bslice 1 3 50 [.int .i64 0, .bool false, .nils] [(0, 3, (.t 16))], none⟩, ⟨some 18, .app 3 40 50 [.int .i64 0, .bool false, .nils] (.t 14) (.t 17), none⟩, ⟨some 3, .mov (.t 18), none⟩]
def c59_7 : List LOper := [⟨some 19, .ibin .add (.t 8) (.c (.int .i64 1)), none⟩, ⟨some 8, .mov (.t 19), none⟩]
def Jeb : LC := (.seq (.reg false c59_3) (.seq (.cond (.t 9) .skip (.seq (.trim [3]) (.exit 0))) (.seq (.blk 1 (.seq (.reg false c59_4) (.seq (.reg false c59_5) (.cond (.t 13) (.reg false c59_6) .skip)))) (.reg false c59_7))))
def c59_9 : List LOper := [⟨some 20, .mov (.t 3), none⟩, ⟨some 2, .mov (.t 20), none⟩]
def lc59 : LC := (.seq (.reg false c59_0) (.seq (.reg false c59_1) (.seq (.seq (.reg false c59_2) (.blk 0 (.loop [3, 6, 7, 8] Jeb))) (.seq (.reg false c59_9) .ret))))
def lf59 : X5 := ⟨1, [.own 2], false, lc59⟩
def hi59 : Yk := ⟨[(16, .z)], [none, none, none, some [3, 6, 7, 8], none, some [3], none, none, none, none, none, none, none], [], []⟩
theorem lf59_ok : Ym Try.prog hi59 false Try.f59 = some ⟨lf59.np, lf59.res.map RV.base, lf59.pm, lf59.body⟩ := by kernel_rfl

/-! additive/order.planned -/
def c60_0 : List LOper := [⟨some 2, .box (.t 0), none⟩, ⟨some 4, .alloc [.int .i64 0, .int .i64 0, .nils, .nils, .nils, .nils], none⟩]
def c60_1 : List LOper := [⟨some 10, .load true 2 (.t 2), none⟩, ⟨some 11, .build [.int .i64 0, .int .i64 0, .nils, .nils, .nils, .nils] [(0, 2, (.t 10))], none⟩, ⟨some 5, .alloc [.int .i64 0, .int .i64 0, .nils, .nils, .nils, .nils], none⟩, ⟨none, .store 6 (.t 5) (.t 11), none⟩]
def c60_2 : List LOper := [⟨some 12, .mov (.t 1), none⟩, ⟨some 13, .len (.t 12), none⟩, ⟨some 14, .mov (.c (.int .i64 0)), none⟩]
def c60_3 : List LOper := [⟨some 15, .ibin .lss (.t 14) (.t 13), none⟩]
def c60_4 : List LOper := [⟨some 16, .mov (.t 14), none⟩, ⟨some 17, .iaddr 3 (.t 12) (.t 14), none⟩, ⟨some 18, .load true 3 (.t 17), none⟩, ⟨some 7, .alloc [.int .i64 0, .bool false, .nils], none⟩, ⟨some 6, .mov (.t 16), none⟩, ⟨none, .store 3 (.t 7) (.t 18), none⟩]
def c60_5 : List LOper := [⟨some 19, .faddr 2 (.t 5), none⟩, ⟨some 20, .load false 1 (.t 19), none⟩, ⟨some 21, .load true 3 (.t 7), none⟩, ⟨some 22, .callp 65 [(.t 21)], none⟩, ⟨some 23, .bslice 1 4 107 [.int .i64 0, .int .i64 0, .int .i64 0, .int .i64 0] [(0, 4, (.t 22))], none⟩, ⟨some 24, .app 4 32 107 [.int .i64 0, .int .i64 0, .int .i64 0, .int .i64 0] (.t 20) (.t 23), none⟩, ⟨some 25, .faddr 2 (.t 5), none⟩, ⟨none, .store 1 (.t 25) (.t 24), none⟩]
def c60_6 : List LOper := [⟨some 26, .faddr 3 (.t 5), none⟩, ⟨some 27, .load false 1 (.t 26), none⟩, ⟨some 28, .load true 3 (.t 7), none⟩, ⟨some 29, .callp 74 [(.t 28)], none⟩, ⟨some 30, .bslice 1 4 107 [.int .i64 0, .int .i64 0, .int .i64 0, .int .i64 0] [(0, 4, (.t 29))], none⟩, ⟨some 31, .app 4 32 107 [.int .i64 0, .int .i64 0, .int .i64 0, .int .i64 0] (.t 27) (.t 30), none⟩, ⟨some 32, .faddr 3 (.t 5), none⟩, ⟨none, .store 1 (.t 32) (.t 31), none⟩]
def c60_7 : List LOper := [⟨some 8, .mov (.c (.int .i64 0)), none⟩, ⟨some 9, .mov (.c (.int .i64 0)), none⟩]
def c60_8 : List LOper := [⟨some 33, .mov (.t 6), none⟩, ⟨some 34, .ibin .gtr (.t 33) (.c (.int .i64 0)), none⟩]
def c60_9 : List LOper := [⟨some 35, .faddr 4 (.t 5), none⟩, ⟨some 36, .load false 1 (.t 35), none⟩, ⟨some 37, .mov (.t 6), none⟩, ⟨some 38, .ibin .sub (.t 37) (.c (.int .i64 1)), none⟩, ⟨some 39, .iaddr 1 (.t 36) (.t 38), none⟩, ⟨some 40, .load false 1 (.t 39), none⟩, ⟨some 41, .faddr 2 (.t 5), none⟩, ⟨some 42, .load false 1 (.t 41), none⟩, ⟨some 43, .mov (.t 6), none⟩, ⟨some 44, .ibin .sub (.t 43) (.c (.int .i64 1)), none⟩, ⟨some 45, .iaddr 4 (.t 42) (.t 44), none⟩, ⟨some 46, .iaddrA 2 2 (.t 45) (.c (.int .i64 1)), none⟩, ⟨some 47, .load true 2 (.t 46), none⟩, ⟨some 48, .faddr 2 (.t 5), none⟩, ⟨some 49, .load false 1 (.t 48), none⟩, ⟨some 50, .mov (.t 6), none⟩, ⟨some 51, .iaddr 4 (.t 49) (.t 50), none⟩, ⟨some 52, .iaddrA 2 2 (.t 51) (.c (.int .i64 0)), none⟩, ⟨some 53, .load true 2 (.t 52), none⟩, ⟨some 54, .callp 75 [(.t 47), (.t 53)], none⟩, ⟨some 55, .ibin .add (.t 40) (.t 54), none⟩, ⟨some 8, .mov (.t 55), none⟩]
def Juz : List LOper := [⟨some 56, .faddr 5 (.t 5), none⟩, ⟨some 57, .load false 1 (.t 56), none⟩, ⟨some 58, .mov (.t 6), none⟩, ⟨some 59, .ibin .sub (.t 58) (.c (.int .i64 1)), none⟩, ⟨some 60, .iaddr 1 (.t 57) (.t 59), none⟩, ⟨some 61, .load false 1 (.t 60), none⟩, ⟨some 62, .faddr 3 (.t 5), none⟩, ⟨some 63, .load false 1 (.t 62), none⟩, ⟨some 64, .mov (.t 6), none⟩, ⟨some 65, .iaddr 4 (.t 63) (.t 64), none⟩, ⟨some 66, .iaddrA 2 2 (.t 65) (.c (.int .i64 1)), none⟩, ⟨some 67, .load true 2 (.t 66), none⟩, ⟨some 68, .faddr 3 (.t 5), none⟩, ⟨some 69, .load false 1 (.t 68), none⟩, ⟨some 70, .mov (.t 6), none⟩, ⟨some 71, .ibin .sub (.t 70) (.c (.int .i64 1)), none⟩, ⟨some 72, .iaddr 4 (.t 69) (.t 71), none⟩, ⟨some 73, .iaddrA 2 2 (.t 72) (.c (.int .i64 0)), none⟩, ⟨some 74, .load true 2 (.t 73), none⟩, ⟨some 75, .callp 75 [(.t 67), (.t 74)], none⟩, ⟨some 76, .ibin .add (.t 61) (.t 75), none⟩, ⟨some 9, .mov (.t 76), none⟩]
def Ju6 : List LOper := [⟨some 77, .faddr 4 (.t 5), none⟩, ⟨some 78, .load false 1 (.t 77), none⟩, ⟨some 79, .mov (.t 8), none⟩, ⟨some 80, .bslice 1 1 3 [.int .i64 0] [(0, 1, (.t 79))], none⟩, ⟨some 81, .app 1 8 3 [.int .i64 0] (.t 78) (.t 80), none⟩, ⟨some 82, .faddr 4 (.t 5), none⟩, ⟨none, .store 1 (.t 82) (.t 81), none⟩]
def Jwq : List LOper := [⟨some 83, .faddr 5 (.t 5), none⟩, ⟨some 84, .load false 1 (.t 83), none⟩, ⟨some 85, .mov (.t 9), none⟩, ⟨some 86, .bslice 1 1 3 [.int .i64 0] [(0, 1, (.t 85))], none⟩, ⟨some 87, .app 1 8 3 [.int .i64 0] (.t 84) (.t 86), none⟩, ⟨some 88, .faddr 5 (.t 5), none⟩, ⟨none, .store 1 (.t 88) (.t 87), none⟩]
def Ju2 : List LOper := [⟨some 89, .ibin .add (.t 14) (.c (.int .i64 1)), none⟩, ⟨some 14, .mov (.t 89), none⟩]
def Jfe : LC := (.seq (.reg false c60_3) (.seq (.cond (.t 15) .skip (.seq (.trim [4, 5]) (.exit 0))) (.seq (.blk 1 (.seq (.reg false c60_4) (.seq (.reg true c60_5) (.seq (.reg true c60_6) (.seq (.reg false c60_7) (.seq (.seq (.reg false c60_8) (.cond (.t 34) (.seq (.reg true c60_9) (.reg true Juz)) .skip)) (.seq (.reg false Ju6) (.reg false Jwq)))))))) (.reg false Ju2))))
def c60_15 : List LOper := [⟨some 90, .load true 6 (.t 5), none⟩, ⟨none, .store 6 (.t 4) (.t 90), none⟩]
def lc60 : LC := (.seq (.reg false c60_0) (.seq (.reg false c60_1) (.seq (.seq (.reg false c60_2) (.blk 0 (.loop [4, 5, 12, 13, 14] Jfe))) (.seq (.reg false c60_15) .ret))))
def lf60 : X5 := ⟨2, [.cell 4 true 6], false, lc60⟩
def hi60 : Yk := ⟨[], [none, none, none, some [4, 5, 12, 13, 14], none, some [4, 5], none, none, none, none, none, none, none, none, none, none, none, none, none], [], []⟩
theorem lf60_ok : Ym Try.prog hi60 false Try.f60 = some ⟨lf60.np, lf60.res.map RV.base, lf60.pm, lf60.body⟩ := by kernel_rfl

/-! (additive/order.plan).step -/
def c61_0 : List LOper := [⟨some 1, .box (.t 0), none⟩, ⟨some 2, .mov (.c (.int .i64 0)), none⟩, ⟨some 3, .mov (.c (.int .i64 0)), none⟩, ⟨some 4, .mov (.c (.bool false)), none⟩]
def c61_1 : List LOper := [⟨some 7, .faddr 2 (.t 1), none⟩, ⟨some 8, .load false 1 (.t 7), none⟩, ⟨some 9, .len (.t 8), none⟩, ⟨some 10, .mov (.c (.int .i64 0)), none⟩]
def c61_2 : List LOper := [⟨some 11, .ibin .lss (.t 10) (.t 9), none⟩]
def c61_3 : List LOper := [⟨some 12, .mov (.t 10), none⟩, ⟨some 5, .mov (.t 12), none⟩]
def c61_4 : List LOper := [⟨some 13, .mov (.t 5), none⟩, ⟨some 6, .mov (.t 13), none⟩]
def c61_5 : List LOper := [⟨some 14, .mov (.t 6), none⟩, ⟨some 15, .faddr 2 (.t 1), none⟩, ⟨some 16, .load false 1 (.t 15), none⟩, ⟨some 17, .len (.t 16), none⟩, ⟨some 18, .ibin .lss (.t 14) (.t 17), none⟩]
def c61_6 : List LOper := [⟨some 21, .load true 6 (.t 1), none⟩, ⟨some 22, .mov (.t 5), none⟩, ⟨some 23, .mov (.t 6), none⟩, ⟨some 24, .callp 76 [(.t 21), (.t 22), (.t 23)], none⟩]
def c61_7 : List LOper := [⟨some 25, .mov (.t 5), none⟩, ⟨some 26, .mov (.t 6), none⟩, ⟨some 2, .mov (.t 25), none⟩, ⟨some 3, .mov (.t 26), none⟩, ⟨some 4, .mov (.c (.bool true)), none⟩]
def c61_8 : List LOper := [⟨some 19, .mov (.t 6), none⟩, ⟨some 20, .ibin .add (.t 19) (.c (.int .i64 1)), none⟩, ⟨some 6, .mov (.t 20), none⟩]
def Jiq : LC := (.seq (.seq (.reg false c61_5) (.cond (.t 18) .skip (.seq (.trim [1, 9, 10]) (.exit 2)))) (.seq (.blk 3 (.seq (.reg false c61_6) (.cond (.t 24) (.seq (.reg false c61_7) (.seq (.trim [2, 3, 4]) .ret)) .skip))) (.reg false c61_8)))
def Ju4 : List LOper := [⟨some 27, .ibin .add (.t 10) (.c (.int .i64 1)), none⟩, ⟨some 10, .mov (.t 27), none⟩]
def Jkb : LC := (.seq (.reg false c61_2) (.seq (.cond (.t 11) .skip (.seq (.trim []) (.exit 0))) (.seq (.blk 1 (.seq (.reg false c61_3) (.seq (.reg false c61_4) (.blk 2 (.loop [1, 5, 6, 9, 10] Jiq))))) (.reg false Ju4))))
def c61_12 : List LOper := [⟨some 2, .mov (.c (.int .i64 0)), none⟩, ⟨some 3, .mov (.c (.int .i64 0)), none⟩, ⟨some 4, .mov (.c (.bool false)), none⟩]
def lc61 : LC := (.seq (.reg false c61_0) (.seq (.seq (.reg false c61_1) (.blk 0 (.loop [1, 9, 10] Jkb))) (.seq (.reg false c61_12) .ret)))
def lf61 : X5 := ⟨1, [.tmp 2, .tmp 3, .tmp 4], true, lc61⟩
def hi61 : Yk := ⟨[], [none, none, some [1, 9, 10], none, some [], none, none, none, some [1, 5, 6, 9, 10], none, some [1, 9, 10], none, none, none, some [2, 3, 4], none, none, none, none, none], [], []⟩
theorem lf61_ok : Ym Try.prog hi61 true Try.f61 = some ⟨lf61.np, lf61.res.map RV.base, lf61.pm, lf61.body⟩ := by kernel_rfl

/-! additive/track.Reverse -/
def c62_0 : List LOper := [⟨some 1, .box (.t 0), none⟩, ⟨some 2, .alloc [.int .i64 0, .bool false, .nils], none⟩]
def c62_1 : List LOper := [⟨some 3, .load true 3 (.t 1), none⟩, ⟨some 4, .callp 23 [(.t 3)], none⟩, ⟨some 5, .un .not (.t 4), none⟩]
def c62_2 : List LOper := [⟨some 6, .build [.int .i64 0, .bool false, .nils] [], none⟩, ⟨none, .store 3 (.t 2) (.t 6), none⟩]
def c62_3 : List LOper := [⟨some 7, .faddr 0 (.t 1), none⟩, ⟨some 8, .load false 1 (.t 7), none⟩, ⟨some 9, .faddr 1 (.t 1), none⟩, ⟨some 10, .load false 1 (.t 9), none⟩, ⟨some 11, .faddr 2 (.t 1), none⟩, ⟨some 12, .load false 1 (.t 11), none⟩, ⟨some 13, .callz 77 [(.t 12)], none⟩, ⟨some 14, .build [.int .i64 0, .bool false, .nils] [(0, 1, (.t 8)), (1, 1, (.t 10)), (2, 1, (.t 13))], none⟩, ⟨none, .store 3 (.t 2) (.t 14), none⟩]
def lc62 : LC := (.seq (.reg false c62_0) (.seq (.seq (.reg false c62_1) (.cond (.t 5) (.seq (.reg false c62_2) .ret) .skip)) (.seq (.reg true c62_3) .ret)))
def lf62 : X5 := ⟨1, [.cell 2 true 3], true, lc62⟩
def hi62 : Yk := ⟨[(13, .z)], [none, none, none, none, none, none, none], [], []⟩
theorem lf62_ok : Ym Try.prog hi62 true Try.f62 = some ⟨lf62.np, lf62.res.map RV.base, lf62.pm, lf62.body⟩ := by kernel_rfl

/-! additive/order.best -/
def c63_0 : List LOper := [⟨some 2, .box (.t 0), none⟩, ⟨some 3, .box (.t 1), none⟩, ⟨some 4, .mov (.c (.int .i64 0)), none⟩, ⟨some 5, .mov (.c (.int .i64 0)), none⟩]
def c63_1 : List LOper := [⟨some 6, .frz (.c (.nils)), none⟩]
def c63_2 : List LOper := [⟨some 13, .faddr 1 (.t 3), none⟩, ⟨some 14, .load false 1 (.t 13), none⟩]
def c63_3 : List LOper := [⟨some 15, .faddr 2 (.t 3), none⟩, ⟨some 16, .load false 1 (.t 15), none⟩, ⟨some 6, .frz (.t 16), none⟩]
def c63_4 : List LOper := [⟨some 17, .load true 3 (.t 3), none⟩, ⟨some 18, .callp 65 [(.t 17)], none⟩, ⟨some 7, .allocA 2 107 [.int .i64 0, .int .i64 0, .int .i64 0, .int .i64 0], none⟩, ⟨none, .store 4 (.t 7) (.t 18), none⟩]
def c63_5 : List LOper := [⟨some 19, .slcA 2 2 (.t 7), none⟩, ⟨some 6, .frz (.t 19), none⟩]
def c63_6 : List LOper := [⟨some 20, .load true 2 (.t 2), none⟩, ⟨some 21, .mov (.t 6), none⟩, ⟨some 22, .iaddr 2 (.t 21) (.c (.int .i64 0)), none⟩, ⟨some 23, .load true 2 (.t 22), none⟩, ⟨some 24, .callp 75 [(.t 20), (.t 23)], none⟩, ⟨some 8, .mov (.c (.int .i64 0)), none⟩, ⟨some 9, .mov (.t 24), none⟩]
def c63_7 : List LOper := [⟨some 25, .mov (.t 6), none⟩, ⟨some 26, .len (.t 25), none⟩, ⟨some 27, .mov (.c (.int .i64 0)), none⟩]
def c63_8 : List LOper := [⟨some 28, .ibin .lss (.t 27) (.t 26), none⟩]
def c63_9 : List LOper := [⟨some 29, .mov (.t 27), none⟩, ⟨some 30, .iaddr 2 (.t 25) (.t 27), none⟩, ⟨some 31, .load true 2 (.t 30), none⟩, ⟨some 11, .alloc [.int .i64 0, .int .i64 0], none⟩, ⟨some 10, .mov (.t 29), none⟩, ⟨none, .store 2 (.t 11) (.t 31), none⟩]
def Jzv : List LOper := [⟨some 32, .load true 2 (.t 2), none⟩, ⟨some 33, .load true 2 (.t 11), none⟩, ⟨some 34, .callp 75 [(.t 32), (.t 33)], none⟩, ⟨some 12, .mov (.t 34), none⟩]
def Jwk : List LOper := [⟨some 35, .mov (.t 12), none⟩, ⟨some 36, .mov (.t 9), none⟩, ⟨some 37, .ibin .lss (.t 35) (.t 36), none⟩]
def Juk : List LOper := [⟨some 38, .mov (.t 10), none⟩, ⟨some 39, .mov (.t 12), none⟩, ⟨some 8, .mov (.t 38), none⟩, ⟨some 9, .mov (.t 39), none⟩]
def Jxy : List LOper := [⟨some 40, .ibin .add (.t 27) (.c (.int .i64 1)), none⟩, ⟨some 27, .mov (.t 40), none⟩]
def Ji3 : LC := (.seq (.reg false c63_8) (.seq (.cond (.t 28) .skip (.seq (.trim [8, 9]) (.exit 0))) (.seq (.blk 1 (.seq (.reg false c63_9) (.seq (.reg false Jzv) (.seq (.reg false Jwk) (.cond (.t 37) (.reg false Juk) .skip))))) (.reg false Jxy))))
def c63_15 : List LOper := [⟨some 41, .mov (.t 8), none⟩, ⟨some 42, .mov (.t 9), none⟩, ⟨some 4, .mov (.t 41), none⟩, ⟨some 5, .mov (.t 42), none⟩]
def lc63 : LC := (.seq (.reg false c63_0) (.seq (.reg false c63_1) (.seq (.seq (.reg false c63_2) (.cond (.t 14) (.reg false c63_3) (.seq (.reg false c63_4) (.reg false c63_5)))) (.seq (.reg true c63_6) (.seq (.seq (.reg false c63_7) (.blk 0 (.loop [2, 8, 9, 25, 26, 27] Ji3))) (.seq (.reg false c63_15) .ret))))))
def lf63 : X5 := ⟨2, [.tmp 4, .tmp 5], true, lc63⟩
def hi63 : Yk := ⟨[(6, .z), (6, .z), (7, .z), (6, .z)], [none, none, none, none, none, none, none, some [2, 8, 9, 25, 26, 27], none, some [8, 9], none, none, none, none, none, none, none, none], [], []⟩
theorem lf63_ok : Ym Try.prog hi63 true Try.f63 = some ⟨lf63.np, lf63.res.map RV.base, lf63.pm, lf63.body⟩ := by kernel_rfl

/-! additive/order.variant -/
def c64_0 : List LOper := [⟨some 2, .box (.t 0), none⟩, ⟨some 4, .alloc [.int .i64 0, .bool false, .nils], none⟩]
def c64_1 : List LOper := [⟨some 5, .faddr 1 (.t 2), none⟩, ⟨some 6, .load false 1 (.t 5), none⟩]
def c64_2 : List LOper := [⟨some 7, .load true 3 (.t 2), none⟩, ⟨some 8, .mov (.t 1), none⟩, ⟨some 9, .callp 78 [(.t 7), (.t 8)], none⟩, ⟨none, .store 3 (.t 4) (.t 9), none⟩]
def c64_3 : List LOper := [⟨some 10, .mov (.t 1), none⟩, ⟨some 11, .ibin .eql (.t 10) (.c (.int .i64 1)), none⟩]
def c64_4 : List LOper := [⟨some 12, .load true 3 (.t 2), none⟩, ⟨some 13, .callp 62 [(.t 12)], none⟩, ⟨none, .store 3 (.t 4) (.t 13), none⟩]
def c64_5 : List LOper := [⟨some 14, .load true 3 (.t 2), none⟩, ⟨none, .store 3 (.t 4) (.t 14), none⟩]
def lc64 : LC := (.seq (.reg false c64_0) (.seq (.seq (.reg false c64_1) (.cond (.t 6) (.seq (.reg false c64_2) .ret) .skip)) (.seq (.seq (.reg false c64_3) (.cond (.t 11) (.seq (.reg false c64_4) .ret) .skip)) (.seq (.reg false c64_5) .ret))))
def lf64 : X5 := ⟨2, [.cell 4 true 3], true, lc64⟩
def hi64 : Yk := ⟨[], [none, none, none, none, none, none, none, none, none, none, none], [], []⟩
theorem lf64_ok : Ym Try.prog hi64 true Try.f64 = some ⟨lf64.np, lf64.res.map RV.base, lf64.pm, lf64.body⟩ := by kernel_rfl

/-! additive/order.ends -/
def c65_0 : List LOper := [⟨some 1, .box (.t 0), none⟩, ⟨some 2, .alloc [.int .i64 0, .int .i64 0, .int .i64 0, .int .i64 0], none⟩]
def c65_1 : List LOper := [⟨some 3, .faddr 2 (.t 1), none⟩, ⟨some 4, .load false 1 (.t 3), none⟩, ⟨some 5, .iaddr 2 (.t 4) (.c (.int .i64 0)), none⟩, ⟨some 6, .load true 2 (.t 5), none⟩, ⟨some 7, .faddr 2 (.t 1), none⟩, ⟨some 8, .load false 1 (.t 7), none⟩, ⟨some 9, .faddr 2 (.t 1), none⟩, ⟨some 10, .load false 1 (.t 9), none⟩, ⟨some 11, .len (.t 10), none⟩, ⟨some 12, .ibin .sub (.t 11) (.c (.int .i64 1)), none⟩, ⟨some 13, .iaddr 2 (.t 8) (.t 12), none⟩, ⟨some 14, .load true 2 (.t 13), none⟩, ⟨some 15, .build [.int .i64 0, .int .i64 0, .int .i64 0, .int .i64 0] [(0, 2, (.t 6)), (2, 2, (.t 14))], none⟩, ⟨none, .store 4 (.t 2) (.t 15), none⟩]
def lc65 : LC := (.seq (.reg false c65_0) (.seq (.reg true c65_1) .ret))
def lf65 : X5 := ⟨1, [.cell 2 true 4], true, lc65⟩
def hi65 : Yk := ⟨[], [none, none, none], [], []⟩
theorem lf65_ok : Ym Try.prog hi65 true Try.f65 = some ⟨lf65.np, lf65.res.map RV.base, lf65.pm, lf65.body⟩ := by kernel_rfl

/-! (*additive/toolpath.builder).travel -/
def c66_0 : List LOper := [⟨some 3, .box (.t 1), none⟩]
def c66_1 : List LOper := [⟨some 8, .mov (.t 0), none⟩, ⟨some 9, .nilck (.t 8), none⟩, ⟨some 10, .faddr 22 (.t 9), none⟩, ⟨some 11, .load true 2 (.t 10), none⟩, ⟨some 12, .load true 2 (.t 3), none⟩, ⟨some 13, .eqv false true [false, false] (.t 11) (.t 12), none⟩]
def c66_2 : List LOper := [⟨some 14, .mov (.t 0), none⟩, ⟨some 15, .mov (.t 0), none⟩, ⟨some 16, .nilck (.t 15), none⟩, ⟨some 17, .faddr 2 (.t 16), none⟩, ⟨some 18, .faddr 14 (.t 17), none⟩, ⟨some 19, .load false 1 (.t 18), none⟩, ⟨some 20, .callq 67 [(.t 14), (.t 19)], none⟩, ⟨some 21, .build [.int .i64 0, .int .i64 0, .int .i64 0, .int .i64 0, .int .i64 0, .nils] [(0, 1, (.c (.int .i64 2))), (4, 1, (.t 20))], none⟩, ⟨some 4, .alloc [.int .i64 0, .int .i64 0, .int .i64 0, .int .i64 0, .int .i64 0, .nils], none⟩, ⟨none, .store 6 (.t 4) (.t 21), none⟩]
def c66_3 : List LOper := [⟨some 23, .mov (.t 0), none⟩, ⟨some 24, .nilck (.t 23), none⟩, ⟨some 25, .faddr 1 (.t 24), none⟩, ⟨some 26, .load true 1 (.t 25), none⟩, ⟨some 27, .mov (.t 0), none⟩, ⟨some 28, .nilck (.t 27), none⟩, ⟨some 29, .faddr 22 (.t 28), none⟩, ⟨some 30, .load true 2 (.t 29), none⟩, ⟨some 31, .load true 2 (.t 3), none⟩, ⟨some 32, .callp 79 [(.t 26), (.t 30), (.t 31)], none⟩, ⟨some 22, .mov (.t 32), none⟩, ⟨some 33, .ext (.t 22) 0, none⟩, ⟨some 34, .ext (.t 22) 1, none⟩, ⟨some 5, .mov (.t 33), none⟩, ⟨some 6, .mov (.t 34), none⟩]
def c66_4 : List LOper := [⟨some 35, .mov (.t 6), none⟩, ⟨some 36, .un .not (.t 35), none⟩, ⟨some 37, .mov (.t 36), none⟩, ⟨some 38, .mov (.t 0), some (37, true)⟩, ⟨some 39, .nilck (.t 38), some (37, true)⟩, ⟨some 40, .faddr 2 (.t 39), some (37, true)⟩, ⟨some 41, .faddr 15 (.t 40), some (37, true)⟩, ⟨some 42, .load false 1 (.t 41), some (37, true)⟩, ⟨some 43, .ibin .neq (.t 42) (.c (.int .i64 0)), some (37, true)⟩, ⟨some 44, .pick (.t 37) (.t 43) (.c (.bool false)), none⟩, ⟨some 7, .mov (.t 44), none⟩]
def c66_5 : List LOper := [⟨some 45, .mov (.t 6), none⟩, ⟨some 46, .un .not (.t 45), none⟩]
def c66_6 : List LOper := [⟨some 47, .mov (.t 0), none⟩, ⟨some 48, .nilck (.t 47), none⟩, ⟨some 49, .faddr 22 (.t 48), none⟩, ⟨some 50, .load true 2 (.t 49), none⟩, ⟨some 51, .load true 2 (.t 3), none⟩, ⟨some 52, .callp 80 [(.t 50), (.t 51)], none⟩, ⟨some 5, .mov (.t 52), none⟩]
def c66_7 : List LOper := [⟨some 53, .mov (.t 5), none⟩, ⟨some 54, .slc 2 (.t 53) (some (.c (.int .i64 1))) none, none⟩, ⟨some 55, .faddr 5 (.t 4), none⟩, ⟨none, .store 1 (.t 55) (.t 54), none⟩]
def c66_8 : List LOper := [⟨some 56, .mov (.t 7), none⟩]
def c66_9 : List LOper := [⟨some 57, .mov (.t 0), none⟩, ⟨some 58, .nilck (.t 57), none⟩, ⟨some 59, .faddr 0 (.t 58), none⟩, ⟨some 60, .build [.int .i64 0, .int .i64 0, .int .i64 0, .int .i64 0, .int .i64 0, .nils] [(0, 1, (.c (.int .i64 4)))], none⟩, ⟨some 61, .callr 24 [(.t 59), (.t 60)], none⟩]
def c66_10 : List LOper := [⟨some 62, .mov (.t 0), none⟩, ⟨some 63, .nilck (.t 62), none⟩, ⟨some 64, .faddr 0 (.t 63), none⟩, ⟨some 65, .load true 6 (.t 4), none⟩, ⟨some 66, .callr 24 [(.t 64), (.t 65)], none⟩]
def c66_11 : List LOper := [⟨some 67, .mov (.t 7), none⟩]
def c66_12 : List LOper := [⟨some 68, .mov (.t 0), none⟩, ⟨some 69, .nilck (.t 68), none⟩, ⟨some 70, .faddr 0 (.t 69), none⟩, ⟨some 71, .build [.int .i64 0, .int .i64 0, .int .i64 0, .int .i64 0, .int .i64 0, .nils] [(0, 1, (.c (.int .i64 5)))], none⟩, ⟨some 72, .callr 24 [(.t 70), (.t 71)], none⟩]
def lc66 : LC := (.seq (.reg false c66_0) (.seq (.seq (.reg true c66_1) (.cond (.t 13) .ret .skip)) (.seq (.reg false c66_2) (.seq (.reg true c66_3) (.seq (.reg false c66_4) (.seq (.seq (.reg false c66_5) (.cond (.t 46) (.reg true c66_6) .skip)) (.seq (.reg false c66_7) (.seq (.seq (.reg false c66_8) (.cond (.t 56) (.reg false c66_9) .skip)) (.seq (.reg true c66_10) (.seq (.reg false c66_11) (.cond (.t 67) (.reg false c66_12) .skip)))))))))))
def lf66 : X5 := ⟨2, [], false, lc66⟩
def hi66 : Yk := ⟨[(20, .q), (61, .r), (66, .r), (72, .r)], [none, none, none, none, none, none, none, none, none, none, none, none, none, none], [], []⟩
theorem lf66_ok : Ym Try.prog hi66 false Try.f66 = some ⟨lf66.np, lf66.res.map RV.base, lf66.pm, lf66.body⟩ := by kernel_rfl

/-! (*additive/toolpath.builder).speed -/
def c67_0 : List LOper := [⟨some 4, .mov (.c (.int .i64 0)), none⟩]
def c67_1 : List LOper := [⟨some 5, .mov (.t 1), none⟩, ⟨some 6, .mov (.t 0), none⟩, ⟨some 7, .nilck (.t 6), none⟩, ⟨some 8, .faddr 2 (.t 7), none⟩, ⟨some 9, .faddr 0 (.t 8), none⟩, ⟨some 10, .load false 1 (.t 9), none⟩, ⟨some 11, .ibin .quo (.t 5) (.t 10), none⟩, ⟨some 12, .mm true (.t 11) (.c (.int .i64 1)), none⟩, ⟨some 4, .mov (.t 12), none⟩]
def lc67 : LC := (.seq (.reg false c67_0) (.seq (.reg false c67_1) .ret))
def lf67 : X5 := ⟨2, [.tmp 4], true, lc67⟩
def hi67 : Yk := ⟨[], [none, none, none], [], []⟩
theorem lf67_ok : Ym Try.prog hi67 true Try.f67 = some ⟨lf67.np, lf67.res.map RV.base, lf67.pm, lf67.body⟩ := by kernel_rfl

/-! slices.Clone[[]additive/api.Op,additive/api.Op] -/
def c68_0 : List LOper := [⟨some 2, .mov (.c (.nils)), none⟩]
def c68_1 : List LOper := [⟨some 3, .mov (.t 0), none⟩, ⟨some 4, .isnil false (.t 3), none⟩]
def c68_2 : List LOper := [⟨some 2, .mov (.c (.nils)), none⟩]
def c68_3 : List LOper := [⟨some 5, .bslice 0 6 40 [.int .i64 0, .int .i64 0, .int .i64 0, .int .i64 0, .int .i64 0, .nils] [], none⟩, ⟨some 6, .mov (.t 0), none⟩, ⟨some 7, .app 6 64 40 [.int .i64 0, .int .i64 0, .int .i64 0, .int .i64 0, .int .i64 0, .nils] (.t 5) (.t 6), none⟩, ⟨some 2, .mov (.t 7), none⟩]
def lc68 : LC := (.seq (.reg false c68_0) (.seq (.seq (.reg false c68_1) (.cond (.t 4) (.seq (.reg false c68_2) .ret) .skip)) (.seq (.reg false c68_3) .ret)))
def lf68 : X5 := ⟨1, [.own 2], false, lc68⟩
def hi68 : Yk := ⟨[], [none, none, none, none, none, none, none], [], []⟩
theorem lf68_ok : Ym Try.prog hi68 false Try.f68 = some ⟨lf68.np, lf68.res.map RV.base, lf68.pm, lf68.body⟩ := by kernel_rfl

/-! slices.Clone[[]additive/api.Cell,additive/api.Cell] -/
def c69_0 : List LOper := [⟨some 2, .mov (.c (.nils)), none⟩]
def c69_1 : List LOper := [⟨some 3, .mov (.t 0), none⟩, ⟨some 4, .isnil false (.t 3), none⟩]
def c69_2 : List LOper := [⟨some 2, .mov (.c (.nils)), none⟩]
def c69_3 : List LOper := [⟨some 5, .bslice 0 2 27 [.int .i64 0, .int .i64 0] [], none⟩, ⟨some 6, .mov (.t 0), none⟩, ⟨some 7, .app 2 16 27 [.int .i64 0, .int .i64 0] (.t 5) (.t 6), none⟩, ⟨some 2, .mov (.t 7), none⟩]
def lc69 : LC := (.seq (.reg false c69_0) (.seq (.seq (.reg false c69_1) (.cond (.t 4) (.seq (.reg false c69_2) .ret) .skip)) (.seq (.reg false c69_3) .ret)))
def lf69 : X5 := ⟨1, [.tmp 2], true, lc69⟩
def hi69 : Yk := ⟨[], [none, none, none, none, none, none, none], [], []⟩
theorem lf69_ok : Ym Try.prog hi69 true Try.f69 = some ⟨lf69.np, lf69.res.map RV.base, lf69.pm, lf69.body⟩ := by kernel_rfl

/-! additive/cool.duration -/
def c70_0 : List LOper := [⟨some 1, .box (.t 0), none⟩, ⟨some 2, .mov (.c (.int .i64 0)), none⟩]
def c70_1 : List LOper := [⟨some 4, .faddr 0 (.t 1), none⟩, ⟨some 5, .load false 1 (.t 4), none⟩, ⟨some 6, .ibin .neq (.t 5) (.c (.int .i64 2)), none⟩, ⟨some 7, .mov (.t 6), none⟩, ⟨some 8, .faddr 0 (.t 1), some (7, true)⟩, ⟨some 9, .load false 1 (.t 8), some (7, true)⟩, ⟨some 10, .ibin .neq (.t 9) (.c (.int .i64 3)), some (7, true)⟩, ⟨some 11, .pick (.t 7) (.t 10) (.c (.bool false)), none⟩, ⟨some 12, .mov (.t 11), none⟩, ⟨some 13, .faddr 4 (.t 1), some (12, false)⟩, ⟨some 14, .load false 1 (.t 13), some (12, false)⟩, ⟨some 15, .ibin .leq (.t 14) (.c (.int .i64 0)), some (12, false)⟩, ⟨some 16, .pick (.t 12) (.c (.bool true)) (.t 15), none⟩]
def c70_2 : List LOper := [⟨some 2, .mov (.c (.int .i64 0)), none⟩]
def c70_3 : List LOper := [⟨some 17, .faddr 5 (.t 1), none⟩, ⟨some 18, .load false 1 (.t 17), none⟩, ⟨some 19, .len (.t 18), none⟩, ⟨some 20, .ibin .mul (.t 19) (.c (.int .i64 1000)), none⟩, ⟨some 3, .mov (.t 20), none⟩]
def c70_4 : List LOper := [⟨some 21, .mov (.t 3), none⟩, ⟨some 22, .faddr 4 (.t 1), none⟩, ⟨some 23, .load false 1 (.t 22), none⟩, ⟨some 24, .ibin .rem (.t 21) (.t 23), none⟩, ⟨some 25, .ibin .gtr (.t 24) (.c (.int .i64 0)), none⟩]
def c70_5 : List LOper := [⟨some 26, .mov (.t 3), none⟩, ⟨some 27, .faddr 4 (.t 1), none⟩, ⟨some 28, .load false 1 (.t 27), none⟩, ⟨some 29, .ibin .quo (.t 26) (.t 28), none⟩, ⟨some 30, .ibin .add (.t 29) (.c (.int .i64 1)), none⟩, ⟨some 2, .mov (.t 30), none⟩]
def c70_6 : List LOper := [⟨some 31, .mov (.t 3), none⟩, ⟨some 32, .faddr 4 (.t 1), none⟩, ⟨some 33, .load false 1 (.t 32), none⟩, ⟨some 34, .ibin .quo (.t 31) (.t 33), none⟩, ⟨some 2, .mov (.t 34), none⟩]
def lc70 : LC := (.seq (.reg false c70_0) (.seq (.seq (.reg false c70_1) (.cond (.t 16) (.seq (.reg false c70_2) .ret) .skip)) (.seq (.reg false c70_3) (.seq (.seq (.reg false c70_4) (.cond (.t 25) (.seq (.reg false c70_5) .ret) .skip)) (.seq (.reg false c70_6) .ret)))))
def lf70 : X5 := ⟨1, [.tmp 2], true, lc70⟩
def hi70 : Yk := ⟨[], [none, none, none, none, none, none, none, none, none, none, none, none], [], []⟩
theorem lf70_ok : Ym Try.prog hi70 true Try.f70 = some ⟨lf70.np, lf70.res.map RV.base, lf70.pm, lf70.body⟩ := by kernel_rfl

/-! additive/order.copied -/
def c73_0 : List LOper := [⟨some 1, .box (.t 0), none⟩, ⟨some 2, .alloc [.int .i64 0, .bool false, .nils], none⟩]
def c73_1 : List LOper := [⟨some 3, .msk [7, 10] (.faddr 0 (.t 1)), none⟩, ⟨some 4, .msk [7, 10] (.load false 1 (.t 3)), none⟩, ⟨some 5, .msk [7, 10] (.faddr 1 (.t 1)), none⟩, ⟨some 6, .msk [7, 10] (.load false 1 (.t 5)), none⟩, ⟨some 8, .faddr 2 (.t 1), none⟩, ⟨some 9, .load false 1 (.t 8), none⟩, ⟨some 7, .bslice 0 2 27 [.int .i64 0, .int .i64 0] [], none⟩, ⟨some 10, .appn true [7, 10] 2 16 27 [.int .i64 0, .int .i64 0] (.t 7) (.t 9), none⟩, ⟨some 11, .build [.int .i64 0, .bool false, .nils] [(0, 1, (.t 4)), (1, 1, (.t 6)), (2, 1, (.t 10))], none⟩, ⟨none, .store 3 (.t 2) (.t 11), none⟩]
def lc73 : LC := (.seq (.reg false c73_0) (.seq (.reg true c73_1) .ret))
def lf73 : X5 := ⟨1, [.cell 2 true 3], true, lc73⟩
def hi73 : Yk := ⟨[(10, .z)], [none, none, none], [(1, [0, 1, 2, 3, 5, 6, 4, 7, 8, 9])], [(1, [7, 10], [3, 4, 5, 6])]⟩
theorem lf73_ok : Ym Try.prog hi73 true Try.f73 = some ⟨lf73.np, lf73.res.map RV.base, lf73.pm, lf73.body⟩ := by kernel_rfl

/-! additive/order.turnedEnds -/
def c74_0 : List LOper := [⟨some 1, .box (.t 0), none⟩, ⟨some 2, .alloc [.int .i64 0, .int .i64 0, .int .i64 0, .int .i64 0], none⟩]
def c74_1 : List LOper := [⟨some 4, .load true 3 (.t 1), none⟩, ⟨some 5, .callp 65 [(.t 4)], none⟩, ⟨some 3, .alloc [.int .i64 0, .int .i64 0, .int .i64 0, .int .i64 0], none⟩, ⟨none, .store 4 (.t 3) (.t 5), none⟩]
def c74_2 : List LOper := [⟨some 6, .faddr 1 (.t 1), none⟩, ⟨some 7, .load false 1 (.t 6), none⟩, ⟨some 8, .un .not (.t 7), none⟩]
def c74_3 : List LOper := [⟨some 9, .iaddrA 2 2 (.t 3) (.c (.int .i64 1)), none⟩, ⟨some 10, .load true 2 (.t 9), none⟩, ⟨some 11, .iaddrA 2 2 (.t 3) (.c (.int .i64 0)), none⟩, ⟨some 12, .load true 2 (.t 11), none⟩, ⟨some 13, .iaddrA 2 2 (.t 3) (.c (.int .i64 0)), none⟩, ⟨none, .store 2 (.t 13) (.t 10), none⟩, ⟨some 14, .iaddrA 2 2 (.t 3) (.c (.int .i64 1)), none⟩, ⟨none, .store 2 (.t 14) (.t 12), none⟩]
def c74_4 : List LOper := [⟨some 15, .load true 4 (.t 3), none⟩, ⟨none, .store 4 (.t 2) (.t 15), none⟩]
def lc74 : LC := (.seq (.reg false c74_0) (.seq (.reg false c74_1) (.seq (.seq (.reg false c74_2) (.cond (.t 8) (.reg false c74_3) .skip)) (.seq (.reg false c74_4) .ret))))
def lf74 : X5 := ⟨1, [.cell 2 true 4], true, lc74⟩
def hi74 : Yk := ⟨[], [none, none, none, none, none, none], [], []⟩
theorem lf74_ok : Ym Try.prog hi74 true Try.f74 = some ⟨lf74.np, lf74.res.map RV.base, lf74.pm, lf74.body⟩ := by kernel_rfl

/-! additive/order.far -/
def c75_0 : List LOper := [⟨some 2, .box (.t 0), none⟩, ⟨some 3, .box (.t 1), none⟩, ⟨some 4, .mov (.c (.int .i64 0)), none⟩]
def c75_1 : List LOper := [⟨some 5, .faddr 0 (.t 2), none⟩, ⟨some 6, .load false 1 (.t 5), none⟩, ⟨some 7, .faddr 0 (.t 3), none⟩, ⟨some 8, .load false 1 (.t 7), none⟩, ⟨some 9, .ibin .sub (.t 6) (.t 8), none⟩, ⟨some 10, .faddr 0 (.t 3), none⟩, ⟨some 11, .load false 1 (.t 10), none⟩, ⟨some 12, .faddr 0 (.t 2), none⟩, ⟨some 13, .load false 1 (.t 12), none⟩, ⟨some 14, .ibin .sub (.t 11) (.t 13), none⟩, ⟨some 15, .mm true (.t 9) (.t 14), none⟩, ⟨some 16, .faddr 1 (.t 2), none⟩, ⟨some 17, .load false 1 (.t 16), none⟩, ⟨some 18, .faddr 1 (.t 3), none⟩, ⟨some 19, .load false 1 (.t 18), none⟩, ⟨some 20, .ibin .sub (.t 17) (.t 19), none⟩, ⟨some 21, .faddr 1 (.t 3), none⟩, ⟨some 22, .load false 1 (.t 21), none⟩, ⟨some 23, .faddr 1 (.t 2), none⟩, ⟨some 24, .load false 1 (.t 23), none⟩, ⟨some 25, .ibin .sub (.t 22) (.t 24), none⟩, ⟨some 26, .mm true (.t 20) (.t 25), none⟩, ⟨some 27, .ibin .add (.t 15) (.t 26), none⟩, ⟨some 4, .mov (.t 27), none⟩]
def lc75 : LC := (.seq (.reg false c75_0) (.seq (.reg false c75_1) .ret))
def lf75 : X5 := ⟨2, [.tmp 4], true, lc75⟩
def hi75 : Yk := ⟨[], [none, none, none], [], []⟩
theorem lf75_ok : Ym Try.prog hi75 true Try.f75 = some ⟨lf75.np, lf75.res.map RV.base, lf75.pm, lf75.body⟩ := by kernel_rfl

/-! (additive/order.plan).gains -/
def c76_0 : List LOper := [⟨some 3, .box (.t 0), none⟩, ⟨some 6, .mov (.c (.bool false)), none⟩]
def c76_1 : List LOper := [⟨some 10, .faddr 0 (.t 3), none⟩, ⟨some 11, .load true 2 (.t 10), none⟩, ⟨some 7, .alloc [.int .i64 0, .int .i64 0], none⟩, ⟨none, .store 2 (.t 7) (.t 11), none⟩]
def c76_2 : List LOper := [⟨some 12, .mov (.t 1), none⟩, ⟨some 13, .ibin .gtr (.t 12) (.c (.int .i64 0)), none⟩]
def c76_3 : List LOper := [⟨some 14, .faddr 2 (.t 3), none⟩, ⟨some 15, .load false 1 (.t 14), none⟩, ⟨some 16, .mov (.t 1), none⟩, ⟨some 17, .ibin .sub (.t 16) (.c (.int .i64 1)), none⟩, ⟨some 18, .iaddr 4 (.t 15) (.t 17), none⟩, ⟨some 19, .iaddrA 2 2 (.t 18) (.c (.int .i64 1)), none⟩, ⟨some 20, .load true 2 (.t 19), none⟩, ⟨none, .store 2 (.t 7) (.t 20), none⟩]
def c76_4 : List LOper := [⟨some 21, .load true 2 (.t 7), none⟩, ⟨some 22, .faddr 2 (.t 3), none⟩, ⟨some 23, .load false 1 (.t 22), none⟩, ⟨some 24, .mov (.t 1), none⟩, ⟨some 25, .iaddr 4 (.t 23) (.t 24), none⟩, ⟨some 26, .iaddrA 2 2 (.t 25) (.c (.int .i64 0)), none⟩, ⟨some 27, .load true 2 (.t 26), none⟩, ⟨some 28, .callp 75 [(.t 21), (.t 27)], none⟩, ⟨some 29, .faddr 4 (.t 3), none⟩, ⟨some 30, .load false 1 (.t 29), none⟩, ⟨some 31, .mov (.t 2), none⟩, ⟨some 32, .iaddr 1 (.t 30) (.t 31), none⟩, ⟨some 33, .load false 1 (.t 32), none⟩, ⟨some 34, .ibin .add (.t 28) (.t 33), none⟩, ⟨some 35, .faddr 4 (.t 3), none⟩, ⟨some 36, .load false 1 (.t 35), none⟩, ⟨some 37, .mov (.t 1), none⟩, ⟨some 38, .iaddr 1 (.t 36) (.t 37), none⟩, ⟨some 39, .load false 1 (.t 38), none⟩, ⟨some 40, .ibin .sub (.t 34) (.t 39), none⟩, ⟨some 8, .mov (.t 40), none⟩]
def c76_5 : List LOper := [⟨some 41, .load true 2 (.t 7), none⟩, ⟨some 42, .faddr 3 (.t 3), none⟩, ⟨some 43, .load false 1 (.t 42), none⟩, ⟨some 44, .mov (.t 2), none⟩, ⟨some 45, .iaddr 4 (.t 43) (.t 44), none⟩, ⟨some 46, .iaddrA 2 2 (.t 45) (.c (.int .i64 0)), none⟩, ⟨some 47, .load true 2 (.t 46), none⟩, ⟨some 48, .callp 75 [(.t 41), (.t 47)], none⟩, ⟨some 49, .faddr 5 (.t 3), none⟩, ⟨some 50, .load false 1 (.t 49), none⟩, ⟨some 51, .mov (.t 2), none⟩, ⟨some 52, .iaddr 1 (.t 50) (.t 51), none⟩, ⟨some 53, .load false 1 (.t 52), none⟩, ⟨some 54, .ibin .add (.t 48) (.t 53), none⟩, ⟨some 55, .faddr 5 (.t 3), none⟩, ⟨some 56, .load false 1 (.t 55), none⟩, ⟨some 57, .mov (.t 1), none⟩, ⟨some 58, .iaddr 1 (.t 56) (.t 57), none⟩, ⟨some 59, .load false 1 (.t 58), none⟩, ⟨some 60, .ibin .sub (.t 54) (.t 59), none⟩, ⟨some 9, .mov (.t 60), none⟩]
def c76_6 : List LOper := [⟨some 61, .mov (.t 2), none⟩, ⟨some 62, .ibin .add (.t 61) (.c (.int .i64 1)), none⟩, ⟨some 63, .faddr 2 (.t 3), none⟩, ⟨some 64, .load false 1 (.t 63), none⟩, ⟨some 65, .len (.t 64), none⟩, ⟨some 66, .ibin .lss (.t 62) (.t 65), none⟩]
def c76_7 : List LOper := [⟨some 67, .mov (.t 8), none⟩, ⟨some 68, .faddr 2 (.t 3), none⟩, ⟨some 69, .load false 1 (.t 68), none⟩, ⟨some 70, .mov (.t 2), none⟩, ⟨some 71, .iaddr 4 (.t 69) (.t 70), none⟩, ⟨some 72, .iaddrA 2 2 (.t 71) (.c (.int .i64 1)), none⟩, ⟨some 73, .load true 2 (.t 72), none⟩, ⟨some 74, .faddr 2 (.t 3), none⟩, ⟨some 75, .load false 1 (.t 74), none⟩, ⟨some 76, .mov (.t 2), none⟩, ⟨some 77, .ibin .add (.t 76) (.c (.int .i64 1)), none⟩, ⟨some 78, .iaddr 4 (.t 75) (.t 77), none⟩, ⟨some 79, .iaddrA 2 2 (.t 78) (.c (.int .i64 0)), none⟩, ⟨some 80, .load true 2 (.t 79), none⟩, ⟨some 81, .callp 75 [(.t 73), (.t 80)], none⟩, ⟨some 82, .ibin .add (.t 67) (.t 81), none⟩, ⟨some 8, .mov (.t 82), none⟩]
def c76_8 : List LOper := [⟨some 83, .mov (.t 9), none⟩, ⟨some 84, .faddr 3 (.t 3), none⟩, ⟨some 85, .load false 1 (.t 84), none⟩, ⟨some 86, .mov (.t 1), none⟩, ⟨some 87, .iaddr 4 (.t 85) (.t 86), none⟩, ⟨some 88, .iaddrA 2 2 (.t 87) (.c (.int .i64 1)), none⟩, ⟨some 89, .load true 2 (.t 88), none⟩, ⟨some 90, .faddr 2 (.t 3), none⟩, ⟨some 91, .load false 1 (.t 90), none⟩, ⟨some 92, .mov (.t 2), none⟩, ⟨some 93, .ibin .add (.t 92) (.c (.int .i64 1)), none⟩, ⟨some 94, .iaddr 4 (.t 91) (.t 93), none⟩, ⟨some 95, .iaddrA 2 2 (.t 94) (.c (.int .i64 0)), none⟩, ⟨some 96, .load true 2 (.t 95), none⟩, ⟨some 97, .callp 75 [(.t 89), (.t 96)], none⟩, ⟨some 98, .ibin .add (.t 83) (.t 97), none⟩, ⟨some 9, .mov (.t 98), none⟩]
def c76_9 : List LOper := [⟨some 99, .mov (.t 9), none⟩, ⟨some 100, .mov (.t 8), none⟩, ⟨some 101, .ibin .lss (.t 99) (.t 100), none⟩, ⟨some 6, .mov (.t 101), none⟩]
def lc76 : LC := (.seq (.reg false c76_0) (.seq (.reg false c76_1) (.seq (.seq (.reg false c76_2) (.cond (.t 13) (.reg false c76_3) .skip)) (.seq (.reg true c76_4) (.seq (.reg true c76_5) (.seq (.seq (.reg false c76_6) (.cond (.t 66) (.seq (.reg true c76_7) (.reg true c76_8)) .skip)) (.seq (.reg false c76_9) .ret)))))))
def lf76 : X5 := ⟨3, [.tmp 6], true, lc76⟩
def hi76 : Yk := ⟨[], [none, none, none, none, none, none, none, none, none, none, none], [], []⟩
theorem lf76_ok : Ym Try.prog hi76 true Try.f76 = some ⟨lf76.np, lf76.res.map RV.base, lf76.pm, lf76.body⟩ := by kernel_rfl

/-! additive/track.reversed[additive/api.Cell] -/
def c77_0 : List LOper := [⟨some 2, .mov (.c (.nils)), none⟩]
def c77_1 : List LOper := [⟨some 5, .mov (.t 0), none⟩, ⟨some 6, .len (.t 5), none⟩, ⟨some 7, .mkS 2 16 27 [.int .i64 0, .int .i64 0] (.c (.int .i64 0)) (.t 6), none⟩, ⟨some 3, .mov (.t 7), none⟩]
def c77_2 : List LOper := [⟨some 8, .mov (.t 0), none⟩, ⟨some 9, .len (.t 8), none⟩, ⟨some 10, .ibin .sub (.t 9) (.c (.int .i64 1)), none⟩, ⟨some 4, .mov (.t 10), none⟩]
def c77_3 : List LOper := [⟨some 11, .mov (.t 4), none⟩, ⟨some 12, .ibin .geq (.t 11) (.c (.int .i64 0)), none⟩]
def c77_4 : List LOper := [⟨some 15, .mov (.t 3), none⟩, ⟨some 16, .mov (.t 0), none⟩, ⟨some 17, .mov (.t 4), none⟩, ⟨some 18, .iaddr 2 (.t 16) (.t 17), none⟩, ⟨some 19, .load true 2 (.t 18), none⟩, ⟨some 20, .bslice 1 2 27 [.int .i64 0, .int .i64 0] [(0, 2, (.t 19))], none⟩, ⟨some 21, .app 2 16 27 [.int .i64 0, .int .i64 0] (.t 15) (.t 20), none⟩, ⟨some 3, .mov (.t 21), none⟩]
def c77_5 : List LOper := [⟨some 13, .mov (.t 4), none⟩, ⟨some 14, .ibin .sub (.t 13) (.c (.int .i64 1)), none⟩, ⟨some 4, .mov (.t 14), none⟩]
def Jlq : LC := (.seq (.seq (.reg false c77_3) (.cond (.t 12) .skip (.seq (.trim [3]) (.exit 0)))) (.seq (.blk 1 (.reg false c77_4)) (.reg false c77_5)))
def c77_7 : List LOper := [⟨some 22, .mov (.t 3), none⟩, ⟨some 2, .mov (.t 22), none⟩]
def lc77 : LC := (.seq (.reg false c77_0) (.seq (.reg false c77_1) (.seq (.seq (.reg false c77_2) (.blk 0 (.loop [0, 3, 4] Jlq))) (.seq (.reg false c77_7) .ret))))
def lf77 : X5 := ⟨1, [.tmp 2], true, lc77⟩
def hi77 : Yk := ⟨[], [none, none, none, some [0, 3, 4], none, some [3], none, none, none, none, none], [], []⟩
theorem lf77_ok : Ym Try.prog hi77 true Try.f77 = some ⟨lf77.np, lf77.res.map RV.base, lf77.pm, lf77.body⟩ := by kernel_rfl

/-! additive/track.Turned -/
def c78_0 : List LOper := [⟨some 2, .box (.t 0), none⟩, ⟨some 4, .alloc [.int .i64 0, .bool false, .nils], none⟩]
def c78_1 : List LOper := [⟨some 7, .load true 3 (.t 2), none⟩, ⟨some 8, .callp 23 [(.t 7)], none⟩, ⟨some 9, .un .not (.t 8), none⟩]
def c78_2 : List LOper := [⟨some 10, .build [.int .i64 0, .bool false, .nils] [], none⟩, ⟨none, .store 3 (.t 4) (.t 10), none⟩]
def c78_3 : List LOper := [⟨some 5, .mov (.c (.int .i64 0)), none⟩]
def c78_4 : List LOper := [⟨some 11, .faddr 2 (.t 2), none⟩, ⟨some 12, .load false 1 (.t 11), none⟩, ⟨some 13, .len (.t 12), none⟩, ⟨some 6, .mov (.t 13), none⟩]
def c78_5 : List LOper := [⟨some 14, .faddr 1 (.t 2), none⟩, ⟨some 15, .load false 1 (.t 14), none⟩]
def c78_6 : List LOper := [⟨some 16, .mov (.t 1), none⟩, ⟨some 17, .mov (.t 6), none⟩, ⟨some 18, .ibin .rem (.t 16) (.t 17), none⟩, ⟨some 19, .mov (.t 6), none⟩, ⟨some 20, .ibin .add (.t 18) (.t 19), none⟩, ⟨some 21, .mov (.t 6), none⟩, ⟨some 22, .ibin .rem (.t 20) (.t 21), none⟩, ⟨some 5, .mov (.t 22), none⟩]
def c78_7 : List LOper := [⟨some 23, .faddr 0 (.t 2), none⟩, ⟨some 24, .load false 1 (.t 23), none⟩, ⟨some 25, .faddr 1 (.t 2), none⟩, ⟨some 26, .load false 1 (.t 25), none⟩, ⟨some 27, .faddr 2 (.t 2), none⟩, ⟨some 28, .load false 1 (.t 27), none⟩, ⟨some 29, .mov (.t 5), none⟩, ⟨some 30, .callz 84 [(.t 28), (.t 29)], none⟩, ⟨some 31, .build [.int .i64 0, .bool false, .nils] [(0, 1, (.t 24)), (1, 1, (.t 26)), (2, 1, (.t 30))], none⟩, ⟨none, .store 3 (.t 4) (.t 31), none⟩]
def lc78 : LC := (.seq (.reg false c78_0) (.seq (.seq (.reg false c78_1) (.cond (.t 9) (.seq (.reg false c78_2) .ret) .skip)) (.seq (.reg false c78_3) (.seq (.seq (.reg false c78_4) (.seq (.reg false c78_5) (.cond (.t 15) (.reg false c78_6) .skip))) (.seq (.reg true c78_7) .ret)))))
def lf78 : X5 := ⟨2, [.cell 4 true 3], true, lc78⟩
def hi78 : Yk := ⟨[(30, .z)], [none, none, none, none, none, none, none, none, none, none, none], [], []⟩
theorem lf78_ok : Ym Try.prog hi78 true Try.f78 = some ⟨lf78.np, lf78.res.map RV.base, lf78.pm, lf78.body⟩ := by kernel_rfl

/-! additive/comb.Path -/
def c79_0 : List LOper := [⟨some 3, .box (.t 0), none⟩, ⟨some 4, .box (.t 1), none⟩, ⟨some 5, .box (.t 2), none⟩, ⟨some 6, .mov (.c (.nils)), none⟩, ⟨some 7, .mov (.c (.bool false)), none⟩]
def c79_1 : List LOper := [⟨some 13, .load true 1 (.t 3), none⟩, ⟨some 14, .load true 2 (.t 4), none⟩, ⟨some 15, .callp 85 [(.t 13), (.t 14)], none⟩, ⟨some 16, .un .not (.t 15), none⟩, ⟨some 17, .mov (.t 16), none⟩, ⟨some 18, .load true 1 (.t 3), some (17, false)⟩, ⟨some 19, .load true 2 (.t 5), some (17, false)⟩, ⟨some 20, .callp 85 [(.t 18), (.t 19)], some (17, false)⟩, ⟨some 21, .un .not (.t 20), some (17, false)⟩, ⟨some 22, .pick (.t 17) (.c (.bool true)) (.t 21), none⟩]
def c79_2 : List LOper := [⟨some 6, .mov (.c (.nils)), none⟩, ⟨some 7, .mov (.c (.bool false)), none⟩]
def c79_3 : List LOper := [⟨some 23, .load true 1 (.t 3), none⟩, ⟨some 24, .load true 2 (.t 4), none⟩, ⟨some 25, .load true 2 (.t 5), none⟩, ⟨some 26, .callz 86 [(.t 23), (.t 24), (.t 25)], none⟩, ⟨some 8, .mov (.t 26), none⟩]
def c79_4 : List LOper := [⟨some 28, .mov (.t 8), none⟩, ⟨some 29, .load true 2 (.t 5), none⟩, ⟨some 30, .look true true [false, false] (.agg [.int .i64 0, .int .i64 0]) (.t 28) (.t 29), none⟩, ⟨some 27, .mov (.t 30), none⟩, ⟨some 31, .ext (.t 27) 0, none⟩, ⟨some 32, .ext (.t 27) 1, none⟩, ⟨some 9, .alloc [.int .i64 0, .int .i64 0], none⟩, ⟨none, .store 2 (.t 9) (.t 31), none⟩, ⟨some 10, .mov (.t 32), none⟩]
def c79_5 : List LOper := [⟨some 33, .mov (.t 10), none⟩, ⟨some 34, .un .not (.t 33), none⟩]
def c79_6 : List LOper := [⟨some 6, .mov (.c (.nils)), none⟩, ⟨some 7, .mov (.c (.bool false)), none⟩]
def c79_7 : List LOper := [⟨some 35, .load true 2 (.t 5), none⟩, ⟨some 36, .bslice 1 2 27 [.int .i64 0, .int .i64 0] [(0, 2, (.t 35))], none⟩, ⟨some 11, .mov (.t 36), none⟩]
def c79_8 : List LOper := [⟨some 37, .load true 2 (.t 5), none⟩, ⟨some 12, .alloc [.int .i64 0, .int .i64 0], none⟩, ⟨none, .store 2 (.t 12) (.t 37), none⟩]
def c79_9 : List LOper := [⟨some 38, .load true 2 (.t 12), none⟩, ⟨some 39, .load true 2 (.t 4), none⟩, ⟨some 40, .eqv true true [false, false] (.t 38) (.t 39), none⟩]
def Jv4 : List LOper := [⟨some 41, .mov (.t 8), none⟩, ⟨some 42, .load true 2 (.t 12), none⟩, ⟨some 43, .look false true [false, false] (.agg [.int .i64 0, .int .i64 0]) (.t 41) (.t 42), none⟩, ⟨none, .store 2 (.t 12) (.t 43), none⟩]
def Jvc : List LOper := [⟨some 44, .mov (.t 11), none⟩, ⟨some 45, .load true 2 (.t 12), none⟩, ⟨some 46, .bslice 1 2 27 [.int .i64 0, .int .i64 0] [(0, 2, (.t 45))], none⟩, ⟨some 47, .app 2 16 27 [.int .i64 0, .int .i64 0] (.t 44) (.t 46), none⟩, ⟨some 11, .mov (.t 47), none⟩]
def Jve : List LOper := [⟨some 48, .load true 2 (.t 12), none⟩]
def Jxq : List LOper := [⟨some 12, .alloc [.int .i64 0, .int .i64 0], none⟩, ⟨none, .store 2 (.t 12) (.t 48), none⟩]
def Jmf : LC := (.seq (.seq (.reg false c79_9) (.cond (.t 40) .skip (.seq (.trim [11]) (.exit 0)))) (.seq (.blk 1 (.seq (.reg false Jv4) (.reg false Jvc))) (.seq (.reg false Jve) (.reg false Jxq))))
def c79_15 : List LOper := [⟨some 49, .mov (.t 11), none⟩, ⟨some 50, .callr 87 [(.t 49)], none⟩]
def c79_16 : List LOper := [⟨some 51, .mov (.t 11), none⟩, ⟨some 6, .mov (.t 51), none⟩, ⟨some 7, .mov (.c (.bool true)), none⟩]
def lc79 : LC := (.seq (.reg false c79_0) (.seq (.seq (.reg false c79_1) (.cond (.t 22) (.seq (.reg false c79_2) .ret) .skip)) (.seq (.reg false c79_3) (.seq (.seq (.reg false c79_4) (.seq (.reg false c79_5) (.cond (.t 34) (.seq (.reg false c79_6) .ret) .skip))) (.seq (.reg false c79_7) (.seq (.seq (.reg false c79_8) (.blk 0 (.loop [4, 8, 11, 12] Jmf))) (.seq (.reg false c79_15) (.seq (.reg false c79_16) .ret))))))))
def lf79 : X5 := ⟨3, [.tmp 6, .tmp 7], true, lc79⟩
def hi79 : Yk := ⟨[(26, .z), (50, .r)], [none, none, none, none, none, none, none, none, none, none, none, none, none, some [4, 8, 11, 12], none, some [11], none, none, none, none, none, none, none, none], [], []⟩
theorem lf79_ok : Ym Try.prog hi79 true Try.f79 = some ⟨lf79.np, lf79.res.map RV.base, lf79.pm, lf79.body⟩ := by kernel_rfl

/-! additive/comb.Straight -/
def c80_0 : List LOper := [⟨some 2, .box (.t 0), none⟩, ⟨some 3, .box (.t 1), none⟩, ⟨some 4, .mov (.c (.nils)), none⟩]
def c80_1 : List LOper := [⟨some 6, .load true 2 (.t 2), none⟩, ⟨some 7, .callp 88 [(.t 6)], none⟩, ⟨some 8, .un .not (.t 7), none⟩, ⟨some 9, .mov (.t 8), none⟩, ⟨some 10, .load true 2 (.t 3), some (9, false)⟩, ⟨some 11, .callp 88 [(.t 10)], some (9, false)⟩, ⟨some 12, .un .not (.t 11), some (9, false)⟩, ⟨some 13, .pick (.t 9) (.c (.bool true)) (.t 12), none⟩]
def c80_2 : List LOper := [⟨some 4, .mov (.c (.nils)), none⟩]
def c80_3 : List LOper := [⟨some 14, .load true 2 (.t 2), none⟩, ⟨some 15, .bslice 1 2 27 [.int .i64 0, .int .i64 0] [(0, 2, (.t 14))], none⟩, ⟨some 5, .mov (.t 15), none⟩]
def c80_4 : List LOper := [⟨some 16, .load true 2 (.t 2), none⟩, ⟨some 17, .load true 2 (.t 3), none⟩, ⟨some 18, .eqv true true [false, false] (.t 16) (.t 17), none⟩]
def c80_5 : List LOper := [⟨some 24, .faddr 0 (.t 2), none⟩, ⟨some 25, .load false 1 (.t 24), none⟩, ⟨some 26, .faddr 0 (.t 3), none⟩, ⟨some 27, .load false 1 (.t 26), none⟩, ⟨some 28, .ibin .lss (.t 25) (.t 27), none⟩, ⟨some 23, .mov (.t 28), none⟩]
def c80_6 : List LOper := [⟨some 29, .faddr 0 (.t 2), none⟩, ⟨some 30, .load false 1 (.t 29), none⟩, ⟨some 31, .ibin .add (.t 30) (.c (.int .i64 1)), none⟩, ⟨some 32, .faddr 0 (.t 2), none⟩, ⟨none, .store 1 (.t 32) (.t 31), none⟩]
def c80_7 : List LOper := [⟨some 34, .faddr 0 (.t 2), none⟩, ⟨some 35, .load false 1 (.t 34), none⟩, ⟨some 36, .faddr 0 (.t 3), none⟩, ⟨some 37, .load false 1 (.t 36), none⟩, ⟨some 38, .ibin .gtr (.t 35) (.t 37), none⟩, ⟨some 33, .mov (.t 38), none⟩]
def c80_8 : List LOper := [⟨some 39, .faddr 0 (.t 2), none⟩, ⟨some 40, .load false 1 (.t 39), none⟩, ⟨some 41, .ibin .sub (.t 40) (.c (.int .i64 1)), none⟩, ⟨some 42, .faddr 0 (.t 2), none⟩, ⟨none, .store 1 (.t 42) (.t 41), none⟩]
def c80_9 : List LOper := [⟨some 44, .faddr 1 (.t 2), none⟩, ⟨some 45, .load false 1 (.t 44), none⟩, ⟨some 46, .faddr 1 (.t 3), none⟩, ⟨some 47, .load false 1 (.t 46), none⟩, ⟨some 48, .ibin .lss (.t 45) (.t 47), none⟩, ⟨some 43, .mov (.t 48), none⟩]
def Jvm : List LOper := [⟨some 49, .faddr 1 (.t 2), none⟩, ⟨some 50, .load false 1 (.t 49), none⟩, ⟨some 51, .ibin .add (.t 50) (.c (.int .i64 1)), none⟩, ⟨some 52, .faddr 1 (.t 2), none⟩, ⟨none, .store 1 (.t 52) (.t 51), none⟩]
def Jzf : List LOper := [⟨some 19, .faddr 1 (.t 2), none⟩, ⟨some 20, .load false 1 (.t 19), none⟩, ⟨some 21, .ibin .sub (.t 20) (.c (.int .i64 1)), none⟩, ⟨some 22, .faddr 1 (.t 2), none⟩, ⟨none, .store 1 (.t 22) (.t 21), none⟩]
def Jzq : List LOper := [⟨some 53, .mov (.t 5), none⟩, ⟨some 54, .load true 2 (.t 2), none⟩, ⟨some 55, .bslice 1 2 27 [.int .i64 0, .int .i64 0] [(0, 2, (.t 54))], none⟩, ⟨some 56, .app 2 16 27 [.int .i64 0, .int .i64 0] (.t 53) (.t 55), none⟩, ⟨some 5, .mov (.t 56), none⟩]
def Je1 : LC := (.seq (.seq (.reg false c80_4) (.cond (.t 18) .skip (.seq (.trim [5]) (.exit 0)))) (.blk 1 (.seq (.blk 2 (.seq (.reg false c80_5) (.cond (.t 23) (.reg false c80_6) (.seq (.reg false c80_7) (.cond (.t 33) (.reg false c80_8) (.seq (.reg false c80_9) (.cond (.t 43) (.reg false Jvm) (.reg false Jzf)))))))) (.reg false Jzq))))
def c80_14 : List LOper := [⟨some 57, .mov (.t 5), none⟩, ⟨some 4, .mov (.t 57), none⟩]
def lc80 : LC := (.seq (.reg false c80_0) (.seq (.seq (.reg false c80_1) (.cond (.t 13) (.seq (.reg false c80_2) .ret) .skip)) (.seq (.reg false c80_3) (.seq (.blk 0 (.loop [2, 3, 5] Je1)) (.seq (.reg false c80_14) .ret)))))
def lf80 : X5 := ⟨2, [.tmp 4], true, lc80⟩
def hi80 : Yk := ⟨[], [none, none, none, none, none, none, some [2, 3, 5], none, some [5], none, none, none, none, none, none, none, none], [], []⟩
theorem lf80_ok : Ym Try.prog hi80 true Try.f80 = some ⟨lf80.np, lf80.res.map RV.base, lf80.pm, lf80.body⟩ := by kernel_rfl

/-! additive/track.rotated[additive/api.Cell] -/
def c84_0 : List LOper := [⟨some 4, .mov (.c (.nils)), none⟩]
def c84_1 : List LOper := [⟨some 5, .mov (.t 0), none⟩, ⟨some 6, .len (.t 5), none⟩, ⟨some 8, .mov (.t 0), none⟩, ⟨some 9, .mov (.t 1), none⟩, ⟨some 10, .slc 2 (.t 8) (some (.t 9)) none, none⟩, ⟨some 12, .mov (.t 0), none⟩, ⟨some 13, .mov (.t 1), none⟩, ⟨some 14, .msk [7, 11, 15] (.slc 2 (.t 12) none (some (.t 13))), none⟩, ⟨some 7, .mkS 2 16 27 [.int .i64 0, .int .i64 0] (.c (.int .i64 0)) (.t 6), none⟩, ⟨some 11, .appn false [7, 11, 15] 2 16 27 [.int .i64 0, .int .i64 0] (.t 7) (.t 10), none⟩, ⟨some 15, .appn false [7, 11, 15] 2 16 27 [.int .i64 0, .int .i64 0] (.t 11) (.t 14), none⟩, ⟨some 4, .mov (.t 15), none⟩]
def lc84 : LC := (.seq (.reg false c84_0) (.seq (.reg true c84_1) .ret))
def lf84 : X5 := ⟨2, [.tmp 4], true, lc84⟩
def hi84 : Yk := ⟨[], [none, none, none], [(1, [0, 1, 3, 4, 5, 7, 8, 9, 2, 6, 10, 11])], [(1, [7, 11, 15], [14])]⟩
theorem lf84_ok : Ym Try.prog hi84 true Try.f84 = some ⟨lf84.np, lf84.res.map RV.base, lf84.pm, lf84.body⟩ := by kernel_rfl

/-! additive/region.Contains -/
def c85_0 : List LOper := [⟨some 2, .box (.t 0), none⟩, ⟨some 3, .box (.t 1), none⟩, ⟨some 4, .mov (.c (.bool false)), none⟩]
def c85_1 : List LOper := [⟨some 5, .load true 1 (.t 2), none⟩, ⟨some 6, .callp 21 [(.t 5)], none⟩, ⟨some 7, .mov (.t 6), none⟩, ⟨some 8, .load true 1 (.t 2), some (7, true)⟩, ⟨some 9, .faddr 1 (.t 3), some (7, true)⟩, ⟨some 10, .load false 1 (.t 9), some (7, true)⟩, ⟨some 11, .callp 90 [(.t 8), (.t 10)], some (7, true)⟩, ⟨some 12, .faddr 0 (.t 3), some (7, true)⟩, ⟨some 13, .load false 1 (.t 12), some (7, true)⟩, ⟨some 14, .callp 89 [(.t 11), (.t 13)], some (7, true)⟩, ⟨some 15, .pick (.t 7) (.t 14) (.c (.bool false)), none⟩, ⟨some 4, .mov (.t 15), none⟩]
def lc85 : LC := (.seq (.reg false c85_0) (.seq (.reg true c85_1) .ret))
def lf85 : X5 := ⟨2, [.tmp 4], true, lc85⟩
def hi85 : Yk := ⟨[], [none, none, none], [], []⟩
theorem lf85_ok : Ym Try.prog hi85 true Try.f85 = some ⟨lf85.np, lf85.res.map RV.base, lf85.pm, lf85.body⟩ := by kernel_rfl

/-! additive/comb.search -/
def c86_0 : List LOper := [⟨some 3, .box (.t 0), none⟩, ⟨some 4, .box (.t 1), none⟩, ⟨some 5, .box (.t 2), none⟩, ⟨some 6, .mov (.c (.nilm)), none⟩]
def c86_1 : List LOper := [⟨some 14, .mkM, none⟩, ⟨some 15, .load true 2 (.t 4), none⟩, ⟨some 16, .load true 2 (.t 4), none⟩, ⟨none, .setM true [false, false] (.t 14) (.t 15) (.t 16), none⟩, ⟨some 17, .mov (.t 14), none⟩, ⟨some 7, .mov (.t 17), none⟩]
def c86_2 : List LOper := [⟨some 18, .load true 2 (.t 4), none⟩, ⟨some 19, .bslice 1 2 27 [.int .i64 0, .int .i64 0] [(0, 2, (.t 18))], none⟩, ⟨some 8, .mov (.t 19), none⟩]
def c86_3 : List LOper := [⟨some 20, .mov (.t 8), none⟩, ⟨some 21, .len (.t 20), none⟩, ⟨some 22, .ibin .gtr (.t 21) (.c (.int .i64 0)), none⟩]
def c86_4 : List LOper := [⟨some 23, .mov (.t 8), none⟩, ⟨some 24, .iaddr 2 (.t 23) (.c (.int .i64 0)), none⟩, ⟨some 25, .load true 2 (.t 24), none⟩, ⟨some 9, .alloc [.int .i64 0, .int .i64 0], none⟩, ⟨none, .store 2 (.t 9) (.t 25), none⟩]
def c86_5 : List LOper := [⟨some 26, .mov (.t 8), none⟩, ⟨some 27, .slc 2 (.t 26) (some (.c (.int .i64 1))) none, none⟩, ⟨some 8, .mov (.t 27), none⟩]
def c86_6 : List LOper := [⟨some 28, .load true 2 (.t 9), none⟩, ⟨some 29, .load true 2 (.t 5), none⟩, ⟨some 30, .eqv false true [false, false] (.t 28) (.t 29), none⟩]
def c86_7 : List LOper := [⟨some 31, .faddr 0 (.t 9), none⟩, ⟨some 32, .load false 1 (.t 31), none⟩, ⟨some 33, .ibin .add (.t 32) (.c (.int .i64 1)), none⟩, ⟨some 34, .faddr 1 (.t 9), none⟩, ⟨some 35, .load false 1 (.t 34), none⟩, ⟨some 36, .build [.int .i64 0, .int .i64 0] [(0, 1, (.t 33)), (1, 1, (.t 35))], none⟩, ⟨some 37, .faddr 0 (.t 9), none⟩, ⟨some 38, .load false 1 (.t 37), none⟩, ⟨some 39, .ibin .sub (.t 38) (.c (.int .i64 1)), none⟩, ⟨some 40, .faddr 1 (.t 9), none⟩, ⟨some 41, .load false 1 (.t 40), none⟩, ⟨some 42, .build [.int .i64 0, .int .i64 0] [(0, 1, (.t 39)), (1, 1, (.t 41))], none⟩, ⟨some 43, .faddr 0 (.t 9), none⟩, ⟨some 44, .load false 1 (.t 43), none⟩, ⟨some 45, .faddr 1 (.t 9), none⟩, ⟨some 46, .load false 1 (.t 45), none⟩, ⟨some 47, .ibin .add (.t 46) (.c (.int .i64 1)), none⟩, ⟨some 48, .build [.int .i64 0, .int .i64 0] [(0, 1, (.t 44)), (1, 1, (.t 47))], none⟩, ⟨some 49, .faddr 0 (.t 9), none⟩, ⟨some 50, .load false 1 (.t 49), none⟩, ⟨some 51, .faddr 1 (.t 9), none⟩, ⟨some 52, .load false 1 (.t 51), none⟩, ⟨some 53, .ibin .sub (.t 52) (.c (.int .i64 1)), none⟩, ⟨some 54, .build [.int .i64 0, .int .i64 0] [(0, 1, (.t 50)), (1, 1, (.t 53))], none⟩, ⟨some 55, .build [.int .i64 0, .int .i64 0, .int .i64 0, .int .i64 0, .int .i64 0, .int .i64 0, .int .i64 0, .int .i64 0] [(0, 2, (.t 36)), (2, 2, (.t 42)), (4, 2, (.t 48)), (6, 2, (.t 54))], none⟩, ⟨some 56, .mov (.c (.int .i64 0)), none⟩]
def c86_8 : List LOper := [⟨some 57, .ibin .lss (.t 56) (.c (.int .i64 4)), none⟩]
def c86_9 : List LOper := [⟨some 58, .idx 4 2 true (.t 55) (.t 56), none⟩, ⟨some 11, .alloc [.int .i64 0, .int .i64 0], none⟩, ⟨none, .store 2 (.t 11) (.t 58), none⟩]
def Jza : List LOper := [⟨some 60, .mov (.t 7), none⟩, ⟨some 61, .load true 2 (.t 11), none⟩, ⟨some 62, .look true true [false, false] (.agg [.int .i64 0, .int .i64 0]) (.t 60) (.t 61), none⟩, ⟨some 59, .mov (.t 62), none⟩, ⟨some 63, .ext (.t 59) 0, none⟩, ⟨some 64, .ext (.t 59) 1, none⟩, ⟨some 12, .alloc [.int .i64 0, .int .i64 0], none⟩, ⟨none, .store 2 (.t 12) (.t 63), none⟩, ⟨some 13, .mov (.t 64), none⟩]
def Jyv : List LOper := [⟨some 65, .mov (.t 13), none⟩, ⟨some 66, .un .not (.t 65), none⟩, ⟨some 67, .mov (.t 66), none⟩, ⟨some 68, .load true 1 (.t 3), some (67, true)⟩, ⟨some 69, .load true 2 (.t 11), some (67, true)⟩, ⟨some 70, .callp 85 [(.t 68), (.t 69)], some (67, true)⟩, ⟨some 71, .pick (.t 67) (.t 70) (.c (.bool false)), none⟩]
def Jxe : List LOper := [⟨some 72, .mov (.t 7), none⟩, ⟨some 73, .load true 2 (.t 11), none⟩, ⟨some 74, .load true 2 (.t 9), none⟩, ⟨none, .setM true [false, false] (.t 72) (.t 73) (.t 74), none⟩]
def Jvx : List LOper := [⟨some 75, .mov (.t 8), none⟩, ⟨some 76, .load true 2 (.t 11), none⟩, ⟨some 77, .bslice 1 2 27 [.int .i64 0, .int .i64 0] [(0, 2, (.t 76))], none⟩, ⟨some 78, .app 2 16 27 [.int .i64 0, .int .i64 0] (.t 75) (.t 77), none⟩, ⟨some 8, .mov (.t 78), none⟩]
def Jxh : List LOper := [⟨some 79, .ibin .add (.t 56) (.c (.int .i64 1)), none⟩, ⟨some 56, .mov (.t 79), none⟩]
def Jhx : LC := (.seq (.reg false c86_8) (.seq (.cond (.t 57) .skip (.seq (.trim [3, 5, 7, 8]) (.exit 2))) (.seq (.blk 3 (.seq (.reg false c86_9) (.seq (.reg false Jza) (.seq (.reg false Jyv) (.cond (.t 71) (.seq (.reg false Jxe) (.reg false Jvx)) .skip))))) (.reg false Jxh))))
def Jkd : LC := (.seq (.seq (.reg false c86_3) (.cond (.t 22) .skip (.seq (.trim [7]) (.exit 0)))) (.blk 1 (.seq (.reg false c86_4) (.seq (.reg false c86_5) (.seq (.seq (.reg false c86_6) (.cond (.t 30) (.seq (.trim [7]) (.exit 0)) .skip)) (.seq (.reg false c86_7) (.blk 2 (.loop [3, 5, 7, 8, 9, 55, 56] Jhx))))))))
def c86_17 : List LOper := [⟨some 80, .mov (.t 7), none⟩, ⟨some 6, .mov (.t 80), none⟩]
def lc86 : LC := (.seq (.reg false c86_0) (.seq (.reg false c86_1) (.seq (.seq (.reg false c86_2) (.blk 0 (.loop [3, 5, 7, 8] Jkd))) (.seq (.reg false c86_17) .ret))))
def lf86 : X5 := ⟨3, [.tmp 6], true, lc86⟩
def hi86 : Yk := ⟨[], [none, none, none, some [3, 5, 7, 8], none, some [7], none, none, none, none, some [7], none, none, some [3, 5, 7, 8, 9, 55, 56], none, some [3, 5, 7, 8], none, none, none, none, none, none, none, none, none], [], []⟩
theorem lf86_ok : Ym Try.prog hi86 true Try.f86 = some ⟨lf86.np, lf86.res.map RV.base, lf86.pm, lf86.body⟩ := by kernel_rfl

/-! slices.Reverse[[]additive/api.Cell,additive/api.Cell] -/
def c87_0 : List LOper := [⟨some 4, .mov (.t 0), none⟩, ⟨some 5, .len (.t 4), none⟩, ⟨some 6, .ibin .sub (.t 5) (.c (.int .i64 1)), none⟩, ⟨some 2, .mov (.c (.int .i64 0)), none⟩, ⟨some 3, .mov (.t 6), none⟩]
def c87_1 : List LOper := [⟨some 7, .mov (.t 2), none⟩, ⟨some 8, .mov (.t 3), none⟩, ⟨some 9, .ibin .lss (.t 7) (.t 8), none⟩]
def c87_2 : List LOper := [⟨some 14, .mov (.t 0), none⟩, ⟨some 15, .mov (.t 2), none⟩, ⟨some 16, .mov (.t 0), none⟩, ⟨some 17, .mov (.t 3), none⟩, ⟨some 18, .mov (.t 0), none⟩, ⟨some 19, .mov (.t 3), none⟩, ⟨some 20, .iaddr 2 (.t 18) (.t 19), none⟩, ⟨some 21, .load true 2 (.t 20), none⟩, ⟨some 22, .mov (.t 0), none⟩, ⟨some 23, .mov (.t 2), none⟩, ⟨some 24, .iaddr 2 (.t 22) (.t 23), none⟩, ⟨some 25, .load true 2 (.t 24), none⟩, ⟨some 26, .iaddr 2 (.t 14) (.t 15), none⟩, ⟨none, .store 2 (.t 26) (.t 21), none⟩, ⟨some 27, .iaddr 2 (.t 16) (.t 17), none⟩, ⟨none, .store 2 (.t 27) (.t 25), none⟩]
def c87_3 : List LOper := [⟨some 10, .mov (.t 2), none⟩, ⟨some 11, .ibin .add (.t 10) (.c (.int .i64 1)), none⟩, ⟨some 12, .mov (.t 3), none⟩, ⟨some 13, .ibin .sub (.t 12) (.c (.int .i64 1)), none⟩, ⟨some 2, .mov (.t 11), none⟩, ⟨some 3, .mov (.t 13), none⟩]
def Jly : LC := (.seq (.seq (.reg false c87_1) (.cond (.t 9) .skip (.seq (.trim []) (.exit 0)))) (.seq (.blk 1 (.reg true c87_2)) (.reg false c87_3)))
def lc87 : LC := (.seq (.reg false c87_0) (.blk 0 (.loop [0, 2, 3] Jly)))
def lf87 : X5 := ⟨1, [], false, lc87⟩
def hi87 : Yk := ⟨[], [none, some [0, 2, 3], none, some [], none, none], [], []⟩
theorem lf87_ok : Ym Try.prog hi87 false Try.f87 = some ⟨lf87.np, lf87.res.map RV.base, lf87.pm, lf87.body⟩ := by kernel_rfl

/-! additive/comb.ok -/
def c88_0 : List LOper := [⟨some 1, .box (.t 0), none⟩, ⟨some 2, .mov (.c (.bool false)), none⟩]
def c88_1 : List LOper := [⟨some 3, .faddr 0 (.t 1), none⟩, ⟨some 4, .load false 1 (.t 3), none⟩, ⟨some 5, .ibin .geq (.t 4) (.c (.int .i64 (-4096))), none⟩, ⟨some 6, .mov (.t 5), none⟩, ⟨some 7, .faddr 0 (.t 1), some (6, true)⟩, ⟨some 8, .load false 1 (.t 7), some (6, true)⟩, ⟨some 9, .ibin .lss (.t 8) (.c (.int .i64 4096)), some (6, true)⟩, ⟨some 10, .pick (.t 6) (.t 9) (.c (.bool false)), none⟩, ⟨some 11, .mov (.t 10), none⟩, ⟨some 12, .faddr 1 (.t 1), some (11, true)⟩, ⟨some 13, .load false 1 (.t 12), some (11, true)⟩, ⟨some 14, .ibin .geq (.t 13) (.c (.int .i64 (-4096))), some (11, true)⟩, ⟨some 15, .pick (.t 11) (.t 14) (.c (.bool false)), none⟩, ⟨some 16, .mov (.t 15), none⟩, ⟨some 17, .faddr 1 (.t 1), some (16, true)⟩, ⟨some 18, .load false 1 (.t 17), some (16, true)⟩, ⟨some 19, .ibin .lss (.t 18) (.c (.int .i64 4096)), some (16, true)⟩, ⟨some 20, .pick (.t 16) (.t 19) (.c (.bool false)), none⟩, ⟨some 2, .mov (.t 20), none⟩]
def lc88 : LC := (.seq (.reg false c88_0) (.seq (.reg false c88_1) .ret))
def lf88 : X5 := ⟨1, [.tmp 2], true, lc88⟩
def hi88 : Yk := ⟨[], [none, none, none], [], []⟩
theorem lf88_ok : Ym Try.prog hi88 true Try.f88 = some ⟨lf88.np, lf88.res.map RV.base, lf88.pm, lf88.body⟩ := by kernel_rfl

/-! additive/runs.Contains -/
def c89_0 : List LOper := [⟨some 3, .box (.t 1), none⟩, ⟨some 4, .mov (.c (.bool false)), none⟩]
def c89_1 : List LOper := [⟨some 5, .mov (.t 0), none⟩, ⟨some 6, .callp 39 [(.t 5)], none⟩, ⟨some 7, .un .not (.t 6), none⟩]
def c89_2 : List LOper := [⟨some 4, .mov (.c (.bool false)), none⟩]
def c89_3 : List LOper := [⟨some 8, .mov (.t 0), none⟩, ⟨some 9, .mkfn 92 [(.t 3)], none⟩, ⟨some 10, .callq 91 [(.t 8), (.t 9)], none⟩, ⟨some 4, .mov (.t 10), none⟩]
def lc89 : LC := (.seq (.reg false c89_0) (.seq (.seq (.reg false c89_1) (.cond (.t 7) (.seq (.reg false c89_2) .ret) .skip)) (.seq (.reg false c89_3) .ret)))
def lf89 : X5 := ⟨2, [.tmp 4], true, lc89⟩
def hi89 : Yk := ⟨[(10, .q)], [none, none, none, none, none, none, none], [], []⟩
theorem lf89_ok : Ym Try.prog hi89 true Try.f89 = some ⟨lf89.np, lf89.res.map RV.base, lf89.pm, lf89.body⟩ := by kernel_rfl

/-! additive/region.row -/
def c90_0 : List LOper := [⟨some 2, .box (.t 0), none⟩, ⟨some 4, .mov (.c (.nils)), none⟩]
def c90_1 : List LOper := [⟨some 8, .faddr 0 (.t 2), none⟩, ⟨some 9, .load false 1 (.t 8), none⟩, ⟨some 10, .mov (.t 1), none⟩, ⟨some 11, .callq 93 [(.t 9), (.t 10), (.c (.fn 94 []))], none⟩, ⟨some 7, .mov (.t 11), none⟩, ⟨some 12, .ext (.t 7) 0, none⟩, ⟨some 13, .ext (.t 7) 1, none⟩, ⟨some 5, .mov (.t 12), none⟩, ⟨some 6, .mov (.t 13), none⟩]
def c90_2 : List LOper := [⟨some 14, .mov (.t 6), none⟩, ⟨some 15, .un .not (.t 14), none⟩]
def c90_3 : List LOper := [⟨some 4, .mov (.c (.nils)), none⟩]
def c90_4 : List LOper := [⟨some 16, .faddr 0 (.t 2), none⟩, ⟨some 17, .load false 1 (.t 16), none⟩, ⟨some 18, .mov (.t 5), none⟩, ⟨some 19, .iaddr 2 (.t 17) (.t 18), none⟩, ⟨some 20, .faddr 1 (.t 19), none⟩, ⟨some 21, .load false 1 (.t 20), none⟩, ⟨some 4, .mov (.t 21), none⟩]
def lc90 : LC := (.seq (.reg false c90_0) (.seq (.reg false c90_1) (.seq (.seq (.reg false c90_2) (.cond (.t 15) (.seq (.reg false c90_3) .ret) .skip)) (.seq (.reg false c90_4) .ret))))
def lf90 : X5 := ⟨2, [.tmp 4], true, lc90⟩
def hi90 : Yk := ⟨[(11, .q)], [none, none, none, none, none, none, none, none], [], []⟩
theorem lf90_ok : Ym Try.prog hi90 true Try.f90 = some ⟨lf90.np, lf90.res.map RV.base, lf90.pm, lf90.body⟩ := by kernel_rfl

/-! slices.ContainsFunc[[]additive/api.Run,additive/api.Run] -/
def c91_0 : List LOper := [⟨some 4, .mov (.c (.bool false)), none⟩]
def c91_1 : List LOper := [⟨some 5, .mov (.t 0), none⟩, ⟨some 6, .mov (.t 1), none⟩, ⟨some 7, .callq 96 [(.t 5), (.t 6)], none⟩, ⟨some 8, .ibin .geq (.t 7) (.c (.int .i64 0)), none⟩, ⟨some 4, .mov (.t 8), none⟩]
def lc91 : LC := (.seq (.reg false c91_0) (.seq (.reg false c91_1) .ret))
def lf91 : X5 := ⟨2, [.tmp 4], true, lc91⟩
def hi91 : Yk := ⟨[(7, .q)], [none, none, none], [], []⟩
theorem lf91_ok : Ym Try.prog hi91 true Try.f91 = some ⟨lf91.np, lf91.res.map RV.base, lf91.pm, lf91.body⟩ := by kernel_rfl

/-! additive/runs.Contains$1 -/
def c92_0 : List LOper := [⟨some 2, .box (.t 0), none⟩, ⟨some 3, .mov (.c (.bool false)), none⟩]
def c92_1 : List LOper := [⟨some 4, .faddr 0 (.t 2), none⟩, ⟨some 5, .load false 1 (.t 4), none⟩, ⟨some 6, .load false 1 (.t 1), none⟩, ⟨some 7, .ibin .leq (.t 5) (.t 6), none⟩, ⟨some 8, .mov (.t 7), none⟩, ⟨some 9, .load false 1 (.t 1), some (8, true)⟩, ⟨some 10, .faddr 1 (.t 2), some (8, true)⟩, ⟨some 11, .load false 1 (.t 10), some (8, true)⟩, ⟨some 12, .ibin .lss (.t 9) (.t 11), some (8, true)⟩, ⟨some 13, .pick (.t 8) (.t 12) (.c (.bool false)), none⟩, ⟨some 3, .mov (.t 13), none⟩]
def lc92 : LC := (.seq (.reg false c92_0) (.seq (.reg false c92_1) .ret))
def lf92 : X5 := ⟨2, [.tmp 3], true, lc92⟩
def hi92 : Yk := ⟨[], [none, none, none], [], []⟩
theorem lf92_ok : Ym Try.prog hi92 true Try.f92 = some ⟨lf92.np, lf92.res.map RV.base, lf92.pm, lf92.body⟩ := by kernel_rfl

/-! slices.BinarySearchFunc[[]additive/api.Row,additive/api.Row,int] -/
def c93_0 : List LOper := [⟨some 6, .mov (.c (.int .i64 0)), none⟩, ⟨some 7, .mov (.c (.bool false)), none⟩]
def c93_1 : List LOper := [⟨some 12, .mov (.t 0), none⟩, ⟨some 13, .len (.t 12), none⟩, ⟨some 8, .mov (.t 13), none⟩]
def c93_2 : List LOper := [⟨some 14, .mov (.t 8), none⟩, ⟨some 9, .mov (.c (.int .i64 0)), none⟩, ⟨some 10, .mov (.t 14), none⟩]
def c93_3 : List LOper := [⟨some 15, .mov (.t 9), none⟩, ⟨some 16, .mov (.t 10), none⟩, ⟨some 17, .ibin .lss (.t 15) (.t 16), none⟩]
def c93_4 : List LOper := [⟨some 18, .mov (.t 9), none⟩, ⟨some 19, .mov (.t 10), none⟩, ⟨some 20, .ibin .add (.t 18) (.t 19), none⟩, ⟨some 21, .conv .u64 (.t 20), none⟩, ⟨some 22, .shf .shr (.t 21) (.c (.int .u64 1)), none⟩, ⟨some 23, .conv .i64 (.t 22), none⟩, ⟨some 11, .mov (.t 23), none⟩]
def c93_5 : List LOper := [⟨some 24, .mov (.t 2), none⟩, ⟨some 25, .mov (.t 0), none⟩, ⟨some 26, .mov (.t 11), none⟩, ⟨some 27, .iaddr 2 (.t 25) (.t 26), none⟩, ⟨some 28, .load true 2 (.t 27), none⟩, ⟨some 29, .mov (.t 1), none⟩, ⟨some 30, .callv (.t 24) [(.t 28), (.t 29)], none⟩, ⟨some 31, .ibin .lss (.t 30) (.c (.int .i64 0)), none⟩]
def c93_6 : List LOper := [⟨some 32, .mov (.t 11), none⟩, ⟨some 33, .ibin .add (.t 32) (.c (.int .i64 1)), none⟩, ⟨some 9, .mov (.t 33), none⟩]
def c93_7 : List LOper := [⟨some 34, .mov (.t 11), none⟩, ⟨some 10, .mov (.t 34), none⟩]
def Ji7 : LC := (.seq (.seq (.reg false c93_3) (.cond (.t 17) .skip (.seq (.trim [0, 1, 2, 8, 9]) (.exit 0)))) (.blk 1 (.seq (.reg false c93_4) (.seq (.reg false c93_5) (.cond (.t 31) (.reg false c93_6) (.reg false c93_7))))))
def c93_9 : List LOper := [⟨some 35, .mov (.t 9), none⟩, ⟨some 36, .mov (.t 9), none⟩, ⟨some 37, .mov (.t 8), none⟩, ⟨some 38, .ibin .lss (.t 36) (.t 37), none⟩, ⟨some 39, .mov (.t 38), none⟩, ⟨some 40, .mov (.t 2), some (39, true)⟩, ⟨some 41, .mov (.t 0), some (39, true)⟩, ⟨some 42, .mov (.t 9), some (39, true)⟩, ⟨some 43, .iaddr 2 (.t 41) (.t 42), some (39, true)⟩, ⟨some 44, .load true 2 (.t 43), some (39, true)⟩, ⟨some 45, .mov (.t 1), some (39, true)⟩, ⟨some 46, .callv (.t 40) [(.t 44), (.t 45)], some (39, true)⟩, ⟨some 47, .ibin .eql (.t 46) (.c (.int .i64 0)), some (39, true)⟩, ⟨some 48, .pick (.t 39) (.t 47) (.c (.bool false)), none⟩, ⟨some 6, .mov (.t 35), none⟩, ⟨some 7, .mov (.t 48), none⟩]
def lc93 : LC := (.seq (.reg false c93_0) (.seq (.reg false c93_1) (.seq (.reg false c93_2) (.seq (.blk 0 (.loop [0, 1, 2, 8, 9, 10] Ji7)) (.seq (.reg false c93_9) .ret)))))
def lf93 : X5 := ⟨3, [.tmp 6, .tmp 7], true, lc93⟩
def hi93 : Yk := ⟨[], [none, none, none, some [0, 1, 2, 8, 9, 10], none, some [0, 1, 2, 8, 9], none, none, none, none, none, none], [], []⟩
theorem lf93_ok : Ym Try.prog hi93 true Try.f93 = some ⟨lf93.np, lf93.res.map RV.base, lf93.pm, lf93.body⟩ := by kernel_rfl

/-! additive/region.row$1 -/
def c94_0 : List LOper := [⟨some 2, .box (.t 0), none⟩, ⟨some 4, .mov (.c (.int .i64 0)), none⟩]
def c94_1 : List LOper := [⟨some 5, .faddr 0 (.t 2), none⟩, ⟨some 6, .load false 1 (.t 5), none⟩, ⟨some 7, .mov (.t 1), none⟩, ⟨some 8, .callp 95 [(.t 6), (.t 7)], none⟩, ⟨some 4, .mov (.t 8), none⟩]
def lc94 : LC := (.seq (.reg false c94_0) (.seq (.reg false c94_1) .ret))
def lf94 : X5 := ⟨2, [.tmp 4], true, lc94⟩
def hi94 : Yk := ⟨[], [none, none, none], [], []⟩
theorem lf94_ok : Ym Try.prog hi94 true Try.f94 = some ⟨lf94.np, lf94.res.map RV.base, lf94.pm, lf94.body⟩ := by kernel_rfl

/-! cmp.Compare[int] -/
def c95_0 : List LOper := [⟨some 4, .mov (.c (.int .i64 0)), none⟩]
def c95_1 : List LOper := [⟨some 7, .mov (.t 0), none⟩, ⟨some 8, .callp 97 [(.t 7)], none⟩, ⟨some 5, .mov (.t 8), none⟩]
def c95_2 : List LOper := [⟨some 9, .mov (.t 1), none⟩, ⟨some 10, .callp 97 [(.t 9)], none⟩, ⟨some 6, .mov (.t 10), none⟩]
def c95_3 : List LOper := [⟨some 11, .mov (.t 5), none⟩]
def c95_4 : List LOper := [⟨some 12, .mov (.t 6), none⟩]
def c95_5 : List LOper := [⟨some 4, .mov (.c (.int .i64 0)), none⟩]
def c95_6 : List LOper := [⟨some 4, .mov (.c (.int .i64 (-1))), none⟩]
def c95_7 : List LOper := [⟨some 13, .mov (.t 6), none⟩]
def c95_8 : List LOper := [⟨some 4, .mov (.c (.int .i64 1)), none⟩]
def c95_9 : List LOper := [⟨some 14, .mov (.t 0), none⟩, ⟨some 15, .mov (.t 1), none⟩, ⟨some 16, .ibin .lss (.t 14) (.t 15), none⟩]
def c95_10 : List LOper := [⟨some 4, .mov (.c (.int .i64 (-1))), none⟩]
def c95_11 : List LOper := [⟨some 17, .mov (.t 0), none⟩, ⟨some 18, .mov (.t 1), none⟩, ⟨some 19, .ibin .gtr (.t 17) (.t 18), none⟩]
def c95_12 : List LOper := [⟨some 4, .mov (.c (.int .i64 1)), none⟩]
def c95_13 : List LOper := [⟨some 4, .mov (.c (.int .i64 0)), none⟩]
def lc95 : LC := (.seq (.reg false c95_0) (.seq (.reg false c95_1) (.seq (.reg false c95_2) (.seq (.seq (.reg false c95_3) (.cond (.t 11) (.seq (.seq (.reg false c95_4) (.cond (.t 12) (.seq (.reg false c95_5) .ret) .skip)) (.seq (.reg false c95_6) .ret)) .skip)) (.seq (.seq (.reg false c95_7) (.cond (.t 13) (.seq (.reg false c95_8) .ret) .skip)) (.seq (.seq (.reg false c95_9) (.cond (.t 16) (.seq (.reg false c95_10) .ret) .skip)) (.seq (.seq (.reg false c95_11) (.cond (.t 19) (.seq (.reg false c95_12) .ret) .skip)) (.seq (.reg false c95_13) .ret))))))))
def lf95 : X5 := ⟨2, [.tmp 4], true, lc95⟩
def hi95 : Yk := ⟨[], [none, none, none, none, none, none, none, none, none, none, none, none, none, none, none, none, none, none, none, none, none, none, none, none, none], [], []⟩
theorem lf95_ok : Ym Try.prog hi95 true Try.f95 = some ⟨lf95.np, lf95.res.map RV.base, lf95.pm, lf95.body⟩ := by kernel_rfl

/-! slices.IndexFunc[[]additive/api.Run,additive/api.Run] -/
def c96_0 : List LOper := [⟨some 4, .mov (.c (.int .i64 0)), none⟩]
def c96_1 : List LOper := [⟨some 6, .mov (.t 0), none⟩, ⟨some 7, .len (.t 6), none⟩, ⟨some 8, .mov (.c (.int .i64 0)), none⟩]
def c96_2 : List LOper := [⟨some 9, .ibin .lss (.t 8) (.t 7), none⟩]
def c96_3 : List LOper := [⟨some 10, .mov (.t 8), none⟩, ⟨some 5, .mov (.t 10), none⟩]
def c96_4 : List LOper := [⟨some 11, .mov (.t 1), none⟩, ⟨some 12, .mov (.t 0), none⟩, ⟨some 13, .mov (.t 5), none⟩, ⟨some 14, .iaddr 2 (.t 12) (.t 13), none⟩, ⟨some 15, .load true 2 (.t 14), none⟩, ⟨some 16, .callv (.t 11) [(.t 15)], none⟩]
def c96_5 : List LOper := [⟨some 17, .mov (.t 5), none⟩, ⟨some 4, .mov (.t 17), none⟩]
def c96_6 : List LOper := [⟨some 18, .ibin .add (.t 8) (.c (.int .i64 1)), none⟩, ⟨some 8, .mov (.t 18), none⟩]
def Jk0 : LC := (.seq (.reg false c96_2) (.seq (.cond (.t 9) .skip (.seq (.trim []) (.exit 0))) (.seq (.blk 1 (.seq (.reg false c96_3) (.seq (.reg false c96_4) (.cond (.t 16) (.seq (.reg false c96_5) (.seq (.trim [4]) .ret)) .skip)))) (.reg false c96_6))))
def c96_8 : List LOper := [⟨some 4, .mov (.c (.int .i64 (-1))), none⟩]
def lc96 : LC := (.seq (.reg false c96_0) (.seq (.seq (.reg false c96_1) (.blk 0 (.loop [0, 1, 7, 8] Jk0))) (.seq (.reg false c96_8) .ret)))
def lf96 : X5 := ⟨2, [.tmp 4], true, lc96⟩
def hi96 : Yk := ⟨[], [none, none, some [0, 1, 7, 8], none, some [], none, none, none, none, some [4], none, none, none, none], [], []⟩
theorem lf96_ok : Ym Try.prog hi96 true Try.f96 = some ⟨lf96.np, lf96.res.map RV.base, lf96.pm, lf96.body⟩ := by kernel_rfl

/-! cmp.isNaN[int] -/
def c97_0 : List LOper := [⟨some 2, .mov (.c (.bool false)), none⟩]
def c97_1 : List LOper := [⟨some 3, .mov (.t 0), none⟩, ⟨some 4, .mov (.t 0), none⟩, ⟨some 5, .ibin .neq (.t 3) (.t 4), none⟩, ⟨some 2, .mov (.t 5), none⟩]
def lc97 : LC := (.seq (.reg false c97_0) (.seq (.reg false c97_1) .ret))
def lf97 : X5 := ⟨1, [.tmp 2], true, lc97⟩
def hi97 : Yk := ⟨[], [none, none, none], [], []⟩
theorem lf97_ok : Ym Try.prog hi97 true Try.f97 = some ⟨lf97.np, lf97.res.map RV.base, lf97.pm, lf97.body⟩ := by kernel_rfl

def env : Env where
  code := fun f => match f with
    | 4 => some lf4
    | 5 => some lf5
    | 6 => some lf6
    | 7 => some lf7
    | 13 => some lf13
    | 14 => some lf14
    | 15 => some lf15
    | 16 => some lf16
    | 17 => some lf17
    | 18 => some lf18
    | 19 => some lf19
    | 20 => some lf20
    | 21 => some lf21
    | 22 => some lf22
    | 23 => some lf23
    | 24 => some lf24
    | 25 => some lf25
    | 26 => some lf26
    | 30 => some lf30
    | 34 => some lf34
    | 35 => some lf35
    | 36 => some lf36
    | 37 => some lf37
    | 38 => some lf38
    | 39 => some lf39
    | 40 => some lf40
    | 41 => some lf41
    | 42 => some lf42
    | 43 => some lf43
    | 44 => some lf44
    | 45 => some lf45
    | 46 => some lf46
    | 47 => some lf47
    | 48 => some lf48
    | 50 => some lf50
    | 54 => some lf54
    | 55 => some lf55
    | 56 => some lf56
    | 57 => some lf57
    | 58 => some lf58
    | 59 => some lf59
    | 60 => some lf60
    | 61 => some lf61
    | 62 => some lf62
    | 63 => some lf63
    | 64 => some lf64
    | 65 => some lf65
    | 66 => some lf66
    | 67 => some lf67
    | 68 => some lf68
    | 69 => some lf69
    | 70 => some lf70
    | 73 => some lf73
    | 74 => some lf74
    | 75 => some lf75
    | 76 => some lf76
    | 77 => some lf77
    | 78 => some lf78
    | 79 => some lf79
    | 80 => some lf80
    | 84 => some lf84
    | 85 => some lf85
    | 86 => some lf86
    | 87 => some lf87
    | 88 => some lf88
    | 89 => some lf89
    | 90 => some lf90
    | 91 => some lf91
    | 92 => some lf92
    | 93 => some lf93
    | 94 => some lf94
    | 95 => some lf95
    | 96 => some lf96
    | 97 => some lf97
    | _ => none
  ext := fun _ _ _ => none
theorem env_ok : Jwv Try.prog env where
  mixed := by kernel_rfl
  code := fun f lf h => by
    simp only [env] at h
    split at h
    · injection h with h; subst h; exact ⟨Try.f4, hi4, Try.func4, lf4_ok⟩
    · injection h with h; subst h; exact ⟨Try.f5, hi5, Try.func5, lf5_ok⟩
    · injection h with h; subst h; exact ⟨Try.f6, hi6, Try.func6, lf6_ok⟩
    · injection h with h; subst h; exact ⟨Try.f7, hi7, Try.func7, lf7_ok⟩
    · injection h with h; subst h; exact ⟨Try.f13, hi13, Try.func13, lf13_ok⟩
    · injection h with h; subst h; exact ⟨Try.f14, hi14, Try.func14, lf14_ok⟩
    · injection h with h; subst h; exact ⟨Try.f15, hi15, Try.func15, lf15_ok⟩
    · injection h with h; subst h; exact ⟨Try.f16, hi16, Try.func16, lf16_ok⟩
    · injection h with h; subst h; exact ⟨Try.f17, hi17, Try.func17, lf17_ok⟩
    · injection h with h; subst h; exact ⟨Try.f18, hi18, Try.func18, lf18_ok⟩
    · injection h with h; subst h; exact ⟨Try.f19, hi19, Try.func19, lf19_ok⟩
    · injection h with h; subst h; exact ⟨Try.f20, hi20, Try.func20, lf20_ok⟩
    · injection h with h; subst h; exact ⟨Try.f21, hi21, Try.func21, lf21_ok⟩
    · injection h with h; subst h; exact ⟨Try.f22, hi22, Try.func22, lf22_ok⟩
    · injection h with h; subst h; exact ⟨Try.f23, hi23, Try.func23, lf23_ok⟩
    · injection h with h; subst h; exact ⟨Try.f24, hi24, Try.func24, lf24_ok⟩
    · injection h with h; subst h; exact ⟨Try.f25, hi25, Try.func25, lf25_ok⟩
    · injection h with h; subst h; exact ⟨Try.f26, hi26, Try.func26, lf26_ok⟩
    · injection h with h; subst h; exact ⟨Try.f30, hi30, Try.func30, lf30_ok⟩
    · injection h with h; subst h; exact ⟨Try.f34, hi34, Try.func34, lf34_ok⟩
    · injection h with h; subst h; exact ⟨Try.f35, hi35, Try.func35, lf35_ok⟩
    · injection h with h; subst h; exact ⟨Try.f36, hi36, Try.func36, lf36_ok⟩
    · injection h with h; subst h; exact ⟨Try.f37, hi37, Try.func37, lf37_ok⟩
    · injection h with h; subst h; exact ⟨Try.f38, hi38, Try.func38, lf38_ok⟩
    · injection h with h; subst h; exact ⟨Try.f39, hi39, Try.func39, lf39_ok⟩
    · injection h with h; subst h; exact ⟨Try.f40, hi40, Try.func40, lf40_ok⟩
    · injection h with h; subst h; exact ⟨Try.f41, hi41, Try.func41, lf41_ok⟩
    · injection h with h; subst h; exact ⟨Try.f42, hi42, Try.func42, lf42_ok⟩
    · injection h with h; subst h; exact ⟨Try.f43, hi43, Try.func43, lf43_ok⟩
    · injection h with h; subst h; exact ⟨Try.f44, hi44, Try.func44, lf44_ok⟩
    · injection h with h; subst h; exact ⟨Try.f45, hi45, Try.func45, lf45_ok⟩
    · injection h with h; subst h; exact ⟨Try.f46, hi46, Try.func46, lf46_ok⟩
    · injection h with h; subst h; exact ⟨Try.f47, hi47, Try.func47, lf47_ok⟩
    · injection h with h; subst h; exact ⟨Try.f48, hi48, Try.func48, lf48_ok⟩
    · injection h with h; subst h; exact ⟨Try.f50, hi50, Try.func50, lf50_ok⟩
    · injection h with h; subst h; exact ⟨Try.f54, hi54, Try.func54, lf54_ok⟩
    · injection h with h; subst h; exact ⟨Try.f55, hi55, Try.func55, lf55_ok⟩
    · injection h with h; subst h; exact ⟨Try.f56, hi56, Try.func56, lf56_ok⟩
    · injection h with h; subst h; exact ⟨Try.f57, hi57, Try.func57, lf57_ok⟩
    · injection h with h; subst h; exact ⟨Try.f58, hi58, Try.func58, lf58_ok⟩
    · injection h with h; subst h; exact ⟨Try.f59, hi59, Try.func59, lf59_ok⟩
    · injection h with h; subst h; exact ⟨Try.f60, hi60, Try.func60, lf60_ok⟩
    · injection h with h; subst h; exact ⟨Try.f61, hi61, Try.func61, lf61_ok⟩
    · injection h with h; subst h; exact ⟨Try.f62, hi62, Try.func62, lf62_ok⟩
    · injection h with h; subst h; exact ⟨Try.f63, hi63, Try.func63, lf63_ok⟩
    · injection h with h; subst h; exact ⟨Try.f64, hi64, Try.func64, lf64_ok⟩
    · injection h with h; subst h; exact ⟨Try.f65, hi65, Try.func65, lf65_ok⟩
    · injection h with h; subst h; exact ⟨Try.f66, hi66, Try.func66, lf66_ok⟩
    · injection h with h; subst h; exact ⟨Try.f67, hi67, Try.func67, lf67_ok⟩
    · injection h with h; subst h; exact ⟨Try.f68, hi68, Try.func68, lf68_ok⟩
    · injection h with h; subst h; exact ⟨Try.f69, hi69, Try.func69, lf69_ok⟩
    · injection h with h; subst h; exact ⟨Try.f70, hi70, Try.func70, lf70_ok⟩
    · injection h with h; subst h; exact ⟨Try.f73, hi73, Try.func73, lf73_ok⟩
    · injection h with h; subst h; exact ⟨Try.f74, hi74, Try.func74, lf74_ok⟩
    · injection h with h; subst h; exact ⟨Try.f75, hi75, Try.func75, lf75_ok⟩
    · injection h with h; subst h; exact ⟨Try.f76, hi76, Try.func76, lf76_ok⟩
    · injection h with h; subst h; exact ⟨Try.f77, hi77, Try.func77, lf77_ok⟩
    · injection h with h; subst h; exact ⟨Try.f78, hi78, Try.func78, lf78_ok⟩
    · injection h with h; subst h; exact ⟨Try.f79, hi79, Try.func79, lf79_ok⟩
    · injection h with h; subst h; exact ⟨Try.f80, hi80, Try.func80, lf80_ok⟩
    · injection h with h; subst h; exact ⟨Try.f84, hi84, Try.func84, lf84_ok⟩
    · injection h with h; subst h; exact ⟨Try.f85, hi85, Try.func85, lf85_ok⟩
    · injection h with h; subst h; exact ⟨Try.f86, hi86, Try.func86, lf86_ok⟩
    · injection h with h; subst h; exact ⟨Try.f87, hi87, Try.func87, lf87_ok⟩
    · injection h with h; subst h; exact ⟨Try.f88, hi88, Try.func88, lf88_ok⟩
    · injection h with h; subst h; exact ⟨Try.f89, hi89, Try.func89, lf89_ok⟩
    · injection h with h; subst h; exact ⟨Try.f90, hi90, Try.func90, lf90_ok⟩
    · injection h with h; subst h; exact ⟨Try.f91, hi91, Try.func91, lf91_ok⟩
    · injection h with h; subst h; exact ⟨Try.f92, hi92, Try.func92, lf92_ok⟩
    · injection h with h; subst h; exact ⟨Try.f93, hi93, Try.func93, lf93_ok⟩
    · injection h with h; subst h; exact ⟨Try.f94, hi94, Try.func94, lf94_ok⟩
    · injection h with h; subst h; exact ⟨Try.f95, hi95, Try.func95, lf95_ok⟩
    · injection h with h; subst h; exact ⟨Try.f96, hi96, Try.func96, lf96_ok⟩
    · injection h with h; subst h; exact ⟨Try.f97, hi97, Try.func97, lf97_ok⟩
    · cases h
  ext := ⟨fun _ _ _ _ h => (by cases h), fun _ _ _ _ h => (by cases h), fun _ _ _ _ _ _ h => (by cases h)⟩
end Go.Proofs.Ytemehoioeoohmaa
