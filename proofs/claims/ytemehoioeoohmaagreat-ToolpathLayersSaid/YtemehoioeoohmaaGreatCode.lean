/- The code of the functions of this seat, as the evaluator has it; by program (gen.py). Each is the compilation of the loaded function. -/
import Derived.Test.YtemehoioeoohmaaGreatVn
import Derived.Test.YtemehoioeoohmaaGreatProg
import Derived.KernelRfl
namespace Go.Proofs.YtemehoioeoohmaaGreat
open Go Go.Vv Go.Proofs
open AV renaming int → I
open Go.IntKind renaming i64 → L
set_option maxRecDepth 100000
def c3_0 : OL := [⟨some 2, .box (.t 0), none⟩, ⟨some 3, .box (.t 1), none⟩, ⟨some 4, .mov (.c (.bool false)), none⟩]
def c3_1 : OL := [oA 11 5 2, ⟨some 12, .callp 4 [(.t 11)], none⟩, oU 13 12]
def c3_2 : OL := [⟨some 14, .callp 5 [], none⟩, oM 4 14]
def c3_3 : OL := [oF 16 0 2, oL 17 16, oF 18 1 2, oA 19 1 18, oF 20 2 2, oL 21 20, oF 22 3 2, oA 23 2 22, oA 24 20 3, ⟨some 25, .callz 6 [(.t 17), (.t 19), (.t 21), (.t 23), (.t 24)], none⟩, oM 15 25, ⟨some 26, .ext (.t 15) 0, none⟩, ⟨some 27, .ext (.t 15) 1, none⟩, ⟨some 28, .ext (.t 15) 2, none⟩, ⟨some 6, .alloc [I L 0, I L 0], none⟩, oM 5 26, oT 2 6 27, oM 7 28]
def c3_4 : OL := [oF 30 0 2, oL 31 30, oF 32 1 2, oA 33 1 32, oF 34 2 2, oL 35 34, oF 36 3 2, oA 37 2 36, oA 38 20 3, ⟨some 39, .callz 7 [(.t 31), (.t 33), (.t 35), (.t 37), (.t 38)], none⟩, oM 29 39, ⟨some 40, .ext (.t 29) 0, none⟩, ⟨some 41, .ext (.t 29) 1, none⟩, ⟨some 42, .ext (.t 29) 2, none⟩, ⟨some 9, .alloc [I L 0, I L 0], none⟩, oM 8 40, oT 2 9 41, oM 10 42]
def c3_5 : OL := [oM 43 5, oM 44 8, ⟨some 45, .callp 8 [(.t 43), (.t 44)], none⟩, oM 46 45, oAg 47 2 6 46 true, oAg 48 2 9 46 true, ⟨some 49, .eqv false true [false, false] (.t 47) (.t 48), some (46, true)⟩, oP 50 46 49, oM 51 50, oMg 52 7 51 true, oMg 53 10 51 true, oBg 54 .eql 52 53 51 true, oP 55 51 54, oM 56 55, ⟨some 57, .callp 5 [], some (56, true)⟩, oP 58 56 57, oM 4 58]
def lc3 : LC := (.seq (.reg false c3_0) (.seq (.seq (.reg false c3_1) (.cond (.t 13) (.seq (.reg false c3_2) .ret) .skip)) (.seq (.reg false c3_3) (.seq (.reg false c3_4) (.seq (.reg false c3_5) .ret)))))
def lf3 : LFunc := ⟨2, [.tmp 4], true, lc3⟩
def hi3 : Qt := ⟨[(25, .z), (39, .z)], [none, none, none, none, none, none, none, none, none], [], []⟩
theorem lf3_ok : Qw Tryz.prog hi3 true Tryz.f3 = lf3.o := by kernel_rfl
def c4_0 : OL := [⟨some 1, .box (.t 0), none⟩, ⟨some 2, .mov (.c (.bool false)), none⟩]
def c4_1 : OL := [oC 3 0]
def c4_2 : OL := [oM 4 3, oF 5 0 1, oL 6 5, oE 7 6, oB 8 .lss 4 7, oM 9 8, oMg 10 3 9 true, oNg 11 .lss 10 9 9 true, oP 12 9 11]
def c4_3 : OL := [oF 15 0 1, oL 16 15, oM 17 3, oI 18 3 16 17, oF 19 2 18, oL 20 19, oE 21 20, oN 22 .gtr 21 40, oM 23 22, oFg 24 0 1 23 false, oLg 25 24 23 false, oMg 26 3 23 false, oIg 27 3 25 26 23 false, oFg 28 2 27 23 false, oLg 29 28 23 false, ⟨some 30, .callp 9 [(.t 29)], some (23, false)⟩, oUg 31 30 23 false, oO 32 23 31]
def c4_4 : OL := [⟨some 2, .mov (.c (.bool false)), none⟩]
def c4_5 : OL := [oM 13 3, oN 14 .add 13 1, oM 3 14]
def c4_L0 : LC := (.seq (.seq (.reg false c4_2) (.cond (.t 12) .skip (.seq (.trim [1]) (.exit 0)))) (.seq (.blk 1 (.seq (.reg false c4_3) (.cond (.t 32) (.seq (.reg false c4_4) (.seq (.trim [2]) .ret)) .skip))) (.reg false c4_5)))
def c4_7 : OL := [oF 33 0 1, oL 34 33, oE 35 34, oN 36 .leq 35 8, oM 37 36, oFg 38 3 1 37 true, oAg 39 2 38 37 true, ⟨some 40, .bslz 1 2 27 [I L 0, I L 0] [(0, 2, (.t 39))], some (37, true)⟩, ⟨some 41, .callp 9 [(.t 40)], some (37, true)⟩, oP 42 37 41, oM 43 42, oFg 44 1 1 43 true, oAg 45 1 44 43 true, ⟨some 46, .callp 10 [(.t 45)], some (43, true)⟩, oNg 47 .leq 46 150 43 true, oP 48 43 47, oM 2 48]
def lc4 : LC := (.seq (.reg false c4_0) (.seq (.seq (.reg false c4_1) (.blk 0 (.loop [1, 3] c4_L0))) (.seq (.reg false c4_7) .ret)))
def lf4 : LFunc := ⟨1, [.tmp 2], true, lc4⟩
def hi4 : Qt := ⟨[(40, .z)], [none, none, some [1, 3], none, some [1], none, none, none, some [2], none, none, none, none], [], []⟩
theorem lf4_ok : Qw Tryz.prog hi4 true Tryz.f4 = lf4.o := by kernel_rfl
def c5_0 : OL := [⟨some 0, .mov (.c (.bool false)), none⟩]
def c5_1 : OL := [⟨some 7, .build [I L 0, I L 0] [(0, 1, (.c (I L 0))), (1, 1, (.c (I L 3)))], none⟩, ⟨some 8, .bslz 1 2 46 [I L 0, I L 0] [(0, 2, (.t 7))], none⟩, ⟨some 9, .build [I L 0, .nils] [(1, 1, (.t 8))], none⟩, ⟨some 10, .bslice 1 2 49 [I L 0, .nils] [(0, 2, (.t 9))], none⟩, ⟨some 11, .build [.nils] [(0, 1, (.t 10))], none⟩, ⟨some 1, .alloc [.nils], none⟩, oT 1 1 11]
def c5_2 : OL := [⟨some 12, .build [I L 0, I L 0] [(0, 1, (.c (I L 1)))], none⟩, ⟨some 13, .build [I L 0, I L 0] [(0, 1, (.c (I L 2)))], none⟩, ⟨some 14, .bslice 2 2 27 [I L 0, I L 0] [(0, 2, (.t 12)), (2, 2, (.t 13))], none⟩, oM 2 14]
def c5_3 : OL := [oA 19 1 1, ⟨some 20, .build [I L 0, I L 0] [], none⟩, ⟨some 21, .callp 11 [], none⟩, ⟨some 16, .frz (.t 2), none⟩, ⟨some 17, .build [I L 0, .bool false, .nils] [(0, 1, (.c (I L 3))), (2, 1, (.t 16))], none⟩, ⟨some 18, .bslice 1 3 42 [I L 0, .bool false, .nils] [(0, 3, (.t 17))], none⟩, ⟨some 22, .callz 6 [(.t 18), (.t 19), (.c (I L 0)), (.t 20), (.t 21)], none⟩, oM 15 22, ⟨some 23, .ext (.t 15) 0, none⟩, ⟨some 24, .ext (.t 15) 1, none⟩, ⟨some 25, .ext (.t 15) 2, none⟩, ⟨some 4, .alloc [I L 0, I L 0], none⟩, oM 3 23, oT 2 4 24, oM 5 25]
def c5_4 : OL := [⟨some 26, .build [I L 0, I L 0, I L 0, I L 0, I L 0, .nils] [(0, 1, (.c (I L 1))), (3, 1, (.c (I L 20)))], none⟩, ⟨some 27, .build [I L 0, I L 0, I L 0, I L 0, I L 0, .nils] [(0, 1, (.c (I L 6)))], none⟩, oM 28 2, ⟨some 29, .slc 2 (.t 28) none (some (.c (I L 1))), none⟩, ⟨some 30, .build [I L 0, I L 0, I L 0, I L 0, I L 0, .nils] [(0, 1, (.c (I L 2))), (4, 1, (.c (I L 200))), (5, 1, (.t 29))], none⟩, ⟨some 31, .frz (.t 2), none⟩, ⟨some 32, .build [I L 0, I L 0, I L 0, I L 0, I L 0, .nils] [(0, 1, (.c (I L 3))), (1, 1, (.c (I L 3))), (4, 1, (.c (I L 100))), (5, 1, (.t 31))], none⟩, ⟨some 33, .bslice 4 6 52 [I L 0, I L 0, I L 0, I L 0, I L 0, .nils] [(0, 6, (.t 26)), (6, 6, (.t 27)), (12, 6, (.t 30)), (18, 6, (.t 32))], none⟩, oM 6 33]
def c5_5 : OL := [oM 34 5, oN 35 .eql 34 0, oM 36 35, oAg 37 2 4 36 true, ⟨some 38, .build [I L 0, I L 0] [(0, 1, (.c (I L 2)))], some (36, true)⟩, ⟨some 39, .eqv false true [false, false] (.t 37) (.t 38), some (36, true)⟩, oP 40 36 39, oM 41 40, oMg 42 3 41 true, oMg 43 6 41 true, ⟨some 44, .callp 8 [(.t 42), (.t 43)], some (41, true)⟩, oP 45 41 44, oM 46 45, oMg 47 3 46 true, ⟨some 48, .callp 12 [(.t 47)], some (46, true)⟩, oNg 49 .eql 48 0 46 true, oP 50 46 49, oM 51 50, oMg 52 3 51 true, ⟨some 53, .callz 13 [(.t 52), (.c (I L 0))], some (51, true)⟩, oEg 54 53 51 true, oNg 55 .eql 54 2 51 true, oP 56 51 55, oM 57 56, oMg 58 3 57 true, ⟨some 59, .callz 13 [(.t 58), (.c (I L 1))], some (57, true)⟩, oEg 60 59 57 true, oNg 61 .eql 60 0 57 true, oP 62 57 61, oM 0 62]
def lc5 : LC := (.seq (.reg false c5_0) (.seq (.reg false c5_1) (.seq (.reg false c5_2) (.seq (.reg true c5_3) (.seq (.reg false c5_4) (.seq (.reg false c5_5) .ret))))))
def lf5 : LFunc := ⟨0, [.tmp 0], true, lc5⟩
def hi5 : Qt := ⟨[(8, .z), (16, .z), (22, .z), (31, .z), (53, .z), (59, .z)], [none, none, none, none, none, none, none], [(3, [3, 4, 5, 0, 1, 2, 6, 7, 8, 9, 10, 11, 12, 13, 14])], []⟩
theorem lf5_ok : Qw Tryz.prog hi5 true Tryz.f5 = lf5.o := by kernel_rfl
def c6_0 : OL := [⟨some 6, .box (.t 1), none⟩, ⟨some 8, .box (.t 3), none⟩, ⟨some 9, .box (.t 4), none⟩, ⟨some 10, .mov (.c (.nils)), none⟩, ⟨some 11, .alloc [I L 0, I L 0], none⟩, oC 12 0]
def c6_1 : OL := [oA 19 20 9, ⟨some 20, .callp 14 [(.t 19)], none⟩, oU 21 20, oM 22 21, oAg 23 1 6 22 false, ⟨some 24, .callp 15 [(.t 23)], some (22, false)⟩, oUg 25 24 22 false, oO 26 22 25, oM 27 26, oMg 28 2 27 false, oNg 29 .lss 28 0 27 false, oO 30 27 29, oM 31 30, oMg 32 2 31 false, oNg 33 .geq 32 256 31 false, oO 34 31 33, oM 35 34, oAg 36 2 8 35 false, ⟨some 37, .callp 16 [(.t 36)], some (35, false)⟩, oUg 38 37 35 false, oO 39 35 38]
def c6_2 : OL := [⟨some 40, .build [I L 0, I L 0] [], none⟩, ⟨some 10, .mov (.c (.nils)), none⟩, oT 2 11 40, oC 12 1]
def c6_3 : OL := [oM 41 0, oE 42 41, oC 43 0]
def c6_4 : OL := [oB 44 .lss 43 42]
def c6_5 : OL := [oI 45 3 41 43, oA 46 3 45, ⟨some 14, .alloc [I L 0, .bool false, .nils], none⟩, oT 3 14 46]
def c6_6 : OL := [oA 47 3 14, ⟨some 48, .callp 17 [(.t 47)], none⟩, oU 49 48]
def c6_7 : OL := [⟨some 50, .build [I L 0, I L 0] [], none⟩, ⟨some 10, .mov (.c (.nils)), none⟩, oT 2 11 50, oC 12 1]
def c6_8 : OL := [oN 51 .add 43 1, oM 43 51]
def c6_L0 : LC := (.seq (.reg false c6_4) (.seq (.cond (.t 44) .skip (.seq (.trim [0, 2, 6, 8, 9, 11]) (.exit 0))) (.seq (.blk 1 (.seq (.reg false c6_5) (.seq (.reg false c6_6) (.cond (.t 49) (.seq (.reg false c6_7) (.seq (.trim [10, 11, 12]) .ret)) .skip)))) (.reg false c6_8))))
def c6_10 : OL := [oA 52 1 6, oA 53 20 9, oA 54 2 8, ⟨some 55, .build [.nils, .nils, I L 0, I L 0, I L 0, I L 0, I L 0, I L 0, I L 0, .bool false, I L 0, I L 0, I L 0, I L 0, I L 0, I L 0, I L 0, I L 0, I L 0, I L 0, I L 0, I L 0, I L 0, I L 0] [(1, 1, (.t 52)), (2, 20, (.t 53)), (22, 2, (.t 54))], none⟩, ⟨some 56, .box (.t 55), none⟩, oM 15 56]
def c6_11 : OL := [oM 57 15, ⟨some 58, .nilck (.t 57), none⟩, oF 59 0 58, oM 60 2, oM 61 2, oN 62 .add 61 1, oF 63 1 9, oL 64 63, oB 65 .mul 62 64, ⟨some 66, .build [I L 0, I L 0, I L 0, I L 0, I L 0, .nils] [(0, 1, (.c (I L 1))), (2, 1, (.t 60)), (3, 1, (.t 65))], none⟩, ⟨some 67, .callr 18 [(.t 59), (.t 66)], none⟩]
def c6_12 : OL := [⟨some 68, .build [I L 0, I L 0, I L 0, I L 0, I L 0, .nils] [(0, 1, (.c (I L 6)))], none⟩, ⟨some 16, .alloc [I L 0, I L 0, I L 0, I L 0, I L 0, .nils], none⟩, oT 6 16 68]
def c6_13 : OL := [oM 69 2, oN 70 .gtr 69 0]
def c6_14 : OL := [oF 71 4 16, ⟨none, .store 1 (.t 71) (.c (I L 255)), none⟩]
def c6_15 : OL := [oM 72 15, ⟨some 73, .nilck (.t 72), none⟩, oF 74 0 73, oA 75 6 16, ⟨some 76, .callr 18 [(.t 74), (.t 75)], none⟩]
def c6_16 : OL := [oC 17 0]
def c6_17 : OL := [oM 77 17, oM 78 0, oE 79 78, oB 80 .lss 77 79]
def c6_18 : OL := [oM 81 17, oN 82 .add 81 1, oM 18 82]
def c6_19 : OL := [oM 83 18, oM 84 0, oE 85 84, oB 86 .lss 83 85, oM 87 86, oMg 88 0 87 true, oMg 89 18 87 true, oIg 90 3 88 89 87 true, oFg 91 0 90 87 true, oLg 92 91 87 true, oMg 93 0 87 true, oMg 94 17 87 true, oIg 95 3 93 94 87 true, oFg 96 0 95 87 true, oLg 97 96 87 true, oBg 98 .eql 92 97 87 true, oP 99 87 98]
def c6_20 : OL := [oM 100 18, oN 101 .add 100 1, oM 18 101]
def c6_L1 : LC := (.seq (.seq (.reg true c6_19) (.cond (.t 99) .skip (.seq (.trim [0, 9, 11, 15, 17, 18]) (.exit 4)))) (.blk 5 (.reg false c6_20)))
def c6_22 : OL := [oM 102 15, oM 103 0, oM 104 17, oM 105 18, ⟨some 106, .slc 3 (.t 103) (some (.t 104)) (some (.t 105)), none⟩, ⟨some 107, .callr 19 [(.t 102), (.t 106)], none⟩]
def c6_23 : OL := [oM 108 18, oM 17 108]
def c6_L2 : LC := (.seq (.seq (.reg false c6_17) (.cond (.t 80) .skip (.seq (.trim [9, 11, 15]) (.exit 2)))) (.blk 3 (.seq (.reg false c6_18) (.seq (.blk 4 (.loop [0, 9, 11, 15, 17, 18] c6_L1)) (.seq (.reg false c6_22) (.reg false c6_23))))))
def c6_25 : OL := [oM 109 15, ⟨some 110, .nilck (.t 109), none⟩, oF 111 0 110, oF 112 0 111, oL 113 112, oA 114 20 9, oM 116 15, ⟨some 117, .nilck (.t 116), none⟩, oF 118 22 117, oA 119 2 118, ⟨some 115, .callz 20 [(.t 113), (.t 114)], none⟩, oM 10 115, oT 2 11 119, oC 12 0]
def lc6 : LC := (.seq (.reg false c6_0) (.seq (.seq (.reg false c6_1) (.cond (.t 39) (.seq (.reg false c6_2) .ret) .skip)) (.seq (.seq (.reg false c6_3) (.blk 0 (.loop [0, 2, 6, 8, 9, 11, 41, 42, 43] c6_L0))) (.seq (.reg false c6_10) (.seq (.reg true c6_11) (.seq (.reg false c6_12) (.seq (.seq (.reg false c6_13) (.cond (.t 70) (.reg false c6_14) .skip)) (.seq (.reg true c6_15) (.seq (.seq (.reg false c6_16) (.blk 2 (.loop [0, 9, 11, 15, 17] c6_L2))) (.seq (.reg true c6_25) .ret))))))))))
def lf6 : LFunc := ⟨5, [.tmp 10, .cell 11 true 2, .tmp 12], true, lc6⟩
def hi6 : Qt := ⟨[(67, .r), (76, .r), (107, .r), (115, .z)], [none, none, none, none, none, none, some [0, 2, 6, 8, 9, 11, 41, 42, 43], none, some [0, 2, 6, 8, 9, 11], none, none, none, none, some [10, 11, 12], none, none, none, none, none, none, none, none, none, some [0, 9, 11, 15, 17], none, some [9, 11, 15], none, none, some [0, 9, 11, 15, 17, 18], none, some [0, 9, 11, 15, 17, 18], none, none, none, none, none, none], [(22, [0, 1, 2, 3, 4, 5, 7, 8, 9, 10, 6, 11, 12, 13])], []⟩
theorem lf6_ok : Qw Tryz.prog hi6 true Tryz.f6 = lf6.o := by kernel_rfl
def c7_0 : OL := [⟨some 6, .box (.t 1), none⟩, ⟨some 8, .box (.t 3), none⟩, ⟨some 9, .box (.t 4), none⟩, ⟨some 10, .mov (.c (.nils)), none⟩, ⟨some 11, .alloc [I L 0, I L 0], none⟩, oC 12 0]
def c7_1 : OL := [oA 20 20 9, ⟨some 21, .callp 21 [(.t 20)], none⟩, oU 22 21, oM 23 22, oAg 24 1 6 23 false, ⟨some 25, .callp 22 [(.t 24)], some (23, false)⟩, oUg 26 25 23 false, oO 27 23 26, oM 28 27, oMg 29 2 28 false, oNg 30 .lss 29 0 28 false, oO 31 28 30, oM 32 31, oMg 33 2 32 false, oNg 34 .geq 33 256 32 false, oO 35 32 34, oM 36 35, oAg 37 2 8 36 false, ⟨some 38, .callp 23 [(.t 37)], some (36, false)⟩, oUg 39 38 36 false, oO 40 36 39]
def c7_2 : OL := [⟨some 41, .build [I L 0, I L 0] [], none⟩, ⟨some 10, .mov (.c (.nils)), none⟩, oT 2 11 41, oC 12 1]
def c7_3 : OL := [oC 13 0]
def c7_4 : OL := [oM 42 13, oM 43 0, oE 44 43, oB 45 .lss 42 44]
def c7_5 : OL := [oM 48 0, oM 49 13, oI 50 3 48 49, oA 51 3 50, ⟨some 52, .callp 24 [(.t 51)], none⟩, oU 53 52]
def c7_6 : OL := [⟨some 54, .build [I L 0, I L 0] [], none⟩, ⟨some 10, .mov (.c (.nils)), none⟩, oT 2 11 54, oC 12 1]
def c7_7 : OL := [oM 46 13, oN 47 .add 46 1, oM 13 47]
def c7_L0 : LC := (.seq (.seq (.reg false c7_4) (.cond (.t 45) .skip (.seq (.trim [0, 2, 6, 8, 9, 11]) (.exit 0)))) (.seq (.blk 1 (.seq (.reg false c7_5) (.cond (.t 53) (.seq (.reg false c7_6) (.seq (.trim [10, 11, 12]) .ret)) .skip))) (.reg false c7_7)))
def c7_9 : OL := [oC 14 255]
def c7_10 : OL := [oM 55 2, oN 56 .eql 55 0]
def c7_11 : OL := [oC 14 0]
def c7_12 : OL := [oM 57 2, oM 58 2, oN 59 .add 58 1, oF 60 1 9, oL 61 60, oB 62 .mul 59 61, ⟨some 63, .build [I L 0, I L 0, I L 0, I L 0, I L 0, .nils] [(0, 1, (.c (I L 1))), (2, 1, (.t 57)), (3, 1, (.t 62))], none⟩, oM 64 14, ⟨some 65, .build [I L 0, I L 0, I L 0, I L 0, I L 0, .nils] [(0, 1, (.c (I L 6))), (4, 1, (.t 64))], none⟩, ⟨some 66, .bslice 2 6 52 [I L 0, I L 0, I L 0, I L 0, I L 0, .nils] [(0, 6, (.t 63)), (6, 6, (.t 65))], none⟩, oM 15 66]
def c7_13 : OL := [oA 67 2 8, ⟨some 16, .alloc [I L 0, I L 0], none⟩, oT 2 16 67]
def c7_14 : OL := [oC 17 0]
def c7_15 : OL := [oM 68 17, oM 69 0, oE 70 69, oB 71 .lss 68 70]
def c7_16 : OL := [oA 75 2 16, oA 76 2 16, oM 77 0, oM 78 17, oM 79 0, oM 80 17, ⟨some 81, .callp 25 [(.t 79), (.t 80)], none⟩, ⟨some 82, .slc 3 (.t 77) (some (.t 78)) (some (.t 81)), none⟩, ⟨some 83, .callz 27 [(.t 76), (.t 82)], none⟩, ⟨some 84, .callz 26 [(.t 75), (.t 83), (.c (I L 8))], none⟩, oM 18 84]
def c7_17 : OL := [oC 19 0]
def c7_18 : OL := [oM 85 19, oM 86 18, oE 87 86, oB 88 .lss 85 87]
def c7_19 : OL := [oM 91 15, oA 92 1 6, oA 93 2 16, oM 94 18, oM 95 19, oI 96 3 94 95, oF 97 2 96, oL 98 97, ⟨some 99, .iaddr 2 (.t 98) (.c (I L 0)), none⟩, oA 100 2 99, oA 101 20 9, ⟨some 102, .callz 28 [(.t 92), (.t 93), (.t 100), (.t 101)], none⟩, ⟨some 103, .app 6 64 52 [I L 0, I L 0, I L 0, I L 0, I L 0, .nils] (.t 91) (.t 102), none⟩, oM 15 103]
def c7_20 : OL := [oM 104 15, oM 105 18, oM 106 19, oI 107 3 105 106, oF 108 0 107, oL 109 108, oF 110 13 9, oL 111 110, oF 112 0 9, oL 113 112, oB 114 .quo 111 113, ⟨some 115, .mm true (.c (I L 1)) (.t 114), none⟩, oM 116 18, oM 117 19, oI 118 3 116 117, oF 119 2 118, oL 120 119, ⟨some 121, .build [I L 0, I L 0, I L 0, I L 0, I L 0, .nils] [(0, 1, (.c (I L 3))), (1, 1, (.t 109)), (4, 1, (.t 115)), (5, 1, (.t 120))], none⟩, ⟨some 122, .bslice 1 6 52 [I L 0, I L 0, I L 0, I L 0, I L 0, .nils] [(0, 6, (.t 121))], none⟩, ⟨some 123, .app 6 64 52 [I L 0, I L 0, I L 0, I L 0, I L 0, .nils] (.t 104) (.t 122), none⟩, oM 15 123]
def c7_21 : OL := [oM 124 18, oM 125 19, oI 126 3 124 125, oF 127 2 126, oL 128 127, oM 129 18, oM 130 19, oI 131 3 129 130, oF 132 2 131, oL 133 132, oE 134 133, oN 135 .sub 134 1, oI 136 2 128 135, oA 137 2 136, oT 2 16 137]
def c7_22 : OL := [oM 89 19, oN 90 .add 89 1, oM 19 90]
def c7_L1 : LC := (.seq (.seq (.reg false c7_18) (.cond (.t 88) .skip (.seq (.trim [0, 6, 9, 11, 15, 16, 17]) (.exit 4)))) (.seq (.blk 5 (.seq (.reg true c7_19) (.seq (.reg true c7_20) (.reg true c7_21)))) (.reg false c7_22)))
def c7_24 : OL := [oM 72 0, oM 73 17, ⟨some 74, .callp 25 [(.t 72), (.t 73)], none⟩, oM 17 74]
def c7_L2 : LC := (.seq (.seq (.reg false c7_15) (.cond (.t 71) .skip (.seq (.trim [9, 11, 15, 16]) (.exit 2)))) (.seq (.blk 3 (.seq (.reg true c7_16) (.seq (.reg false c7_17) (.blk 4 (.loop [0, 6, 9, 11, 15, 16, 17, 18, 19] c7_L1))))) (.reg false c7_24)))
def c7_26 : OL := [oM 138 15, oA 139 20 9, oA 141 2 16, ⟨some 140, .callz 29 [(.t 138), (.t 139)], none⟩, oM 10 140, oT 2 11 141, oC 12 0]
def lc7 : LC := (.seq (.reg false c7_0) (.seq (.seq (.reg false c7_1) (.cond (.t 40) (.seq (.reg false c7_2) .ret) .skip)) (.seq (.seq (.reg false c7_3) (.blk 0 (.loop [0, 2, 6, 8, 9, 11, 13] c7_L0))) (.seq (.reg false c7_9) (.seq (.seq (.reg false c7_10) (.cond (.t 56) (.reg false c7_11) .skip)) (.seq (.reg false c7_12) (.seq (.reg false c7_13) (.seq (.seq (.reg false c7_14) (.blk 2 (.loop [0, 6, 9, 11, 15, 16, 17] c7_L2))) (.seq (.reg true c7_26) .ret)))))))))
def lf7 : LFunc := ⟨5, [.tmp 10, .cell 11 true 2, .tmp 12], true, lc7⟩
def hi7 : Qt := ⟨[(83, .z), (84, .z), (102, .z), (140, .z)], [none, none, none, none, none, none, some [0, 2, 6, 8, 9, 11, 13], none, some [0, 2, 6, 8, 9, 11], none, none, none, some [10, 11, 12], none, none, none, none, none, none, none, none, some [0, 6, 9, 11, 15, 16, 17], none, some [9, 11, 15, 16], none, none, none, some [0, 6, 9, 11, 15, 16, 17, 18, 19], none, some [0, 6, 9, 11, 15, 16, 17], none, none, none, none, none, none, none, none], [(23, [0, 1, 3, 2, 4, 5, 6])], []⟩
theorem lf7_ok : Qw Tryz.prog hi7 true Tryz.f7 = lf7.o := by kernel_rfl
def c8_0 : OL := [⟨some 4, .mov (.c (.bool false)), none⟩]
def c8_1 : OL := [oM 9 0, oE 10 9, oM 11 1, oE 12 11, oB 13 .neq 10 12]
def c8_2 : OL := [⟨some 4, .mov (.c (.bool false)), none⟩]
def c8_3 : OL := [oC 5 0]
def c8_4 : OL := [oM 14 5, oM 15 0, oE 16 15, oB 17 .lss 14 16]
def c8_5 : OL := [oM 20 0, oM 21 5, oI 22 6 20 21, oA 23 6 22, oM 24 1, oM 25 5, ⟨some 26, .msk [6, 7] (.iaddr 6 (.t 24) (.t 25)), none⟩, ⟨some 27, .msk [6, 7] (.load true 6 (.t 26)), none⟩, ⟨some 6, .alloc [I L 0, I L 0, I L 0, I L 0, I L 0, .nils], none⟩, ⟨some 7, .alloc [I L 0, I L 0, I L 0, I L 0, I L 0, .nils], none⟩, ⟨none, .ston [6, 7] 6 (.t 6) (.t 23), none⟩, ⟨none, .ston [6, 7] 6 (.t 7) (.t 27), none⟩]
def c8_6 : OL := [oF 28 0 6, oL 29 28, oF 30 0 7, oL 31 30, oB 32 .neq 29 31, oM 33 32, oFg 34 1 6 33 false, oLg 35 34 33 false, oFg 36 1 7 33 false, oLg 37 36 33 false, oBg 38 .neq 35 37 33 false, oO 39 33 38, oM 40 39, oFg 41 2 6 40 false, oLg 42 41 40 false, oFg 43 2 7 40 false, oLg 44 43 40 false, oBg 45 .neq 42 44 40 false, oO 46 40 45, oM 47 46, oFg 48 3 6 47 false, oLg 49 48 47 false, oFg 50 3 7 47 false, oLg 51 50 47 false, oBg 52 .neq 49 51 47 false, oO 53 47 52, oM 54 53, oFg 55 4 6 54 false, oLg 56 55 54 false, oFg 57 4 7 54 false, oLg 58 57 54 false, oBg 59 .neq 56 58 54 false, oO 60 54 59, oM 61 60, oFg 62 5 6 61 false, oLg 63 62 61 false, oEg 64 63 61 false, oFg 65 5 7 61 false, oLg 66 65 61 false, oEg 67 66 61 false, oBg 68 .neq 64 67 61 false, oO 69 61 68]
def c8_7 : OL := [⟨some 4, .mov (.c (.bool false)), none⟩]
def c8_8 : OL := [oC 8 0]
def c8_9 : OL := [oM 70 8, oF 71 5 6, oL 72 71, oE 73 72, oB 74 .lss 70 73]
def c8_10 : OL := [oF 77 5 6, oL 78 77, oM 79 8, oI 80 2 78 79, oA 81 2 80, oF 82 5 7, oL 83 82, oM 84 8, oI 85 2 83 84, oA 86 2 85, ⟨some 87, .eqv true true [false, false] (.t 81) (.t 86), none⟩]
def c8_11 : OL := [⟨some 4, .mov (.c (.bool false)), none⟩]
def c8_12 : OL := [oM 75 8, oN 76 .add 75 1, oM 8 76]
def c8_L0 : LC := (.seq (.seq (.reg false c8_9) (.cond (.t 74) .skip (.seq (.trim [0, 1, 5]) (.exit 2)))) (.seq (.blk 3 (.seq (.reg true c8_10) (.cond (.t 87) (.seq (.reg false c8_11) (.seq (.trim [4]) .ret)) .skip))) (.reg false c8_12)))
def c8_14 : OL := [oM 18 5, oN 19 .add 18 1, oM 5 19]
def c8_L1 : LC := (.seq (.seq (.reg false c8_4) (.cond (.t 17) .skip (.seq (.trim []) (.exit 0)))) (.seq (.blk 1 (.seq (.reg true c8_5) (.seq (.seq (.reg false c8_6) (.cond (.t 69) (.seq (.reg false c8_7) (.seq (.trim [4]) .ret)) .skip)) (.seq (.reg false c8_8) (.blk 2 (.loop [0, 1, 5, 6, 7, 8] c8_L0)))))) (.reg false c8_14)))
def c8_16 : OL := [⟨some 4, .mov (.c (.bool true)), none⟩]
def lc8 : LC := (.seq (.reg false c8_0) (.seq (.seq (.reg false c8_1) (.cond (.t 13) (.seq (.reg false c8_2) .ret) .skip)) (.seq (.seq (.reg false c8_3) (.blk 0 (.loop [0, 1, 5] c8_L1))) (.seq (.reg false c8_16) .ret))))
def lf8 : LFunc := ⟨2, [.tmp 4], true, lc8⟩
def hi8 : Qt := ⟨[], [none, none, none, none, none, none, some [0, 1, 5], none, some [], none, none, none, none, some [4], none, none, some [0, 1, 5, 6, 7, 8], none, some [0, 1, 5], none, none, none, some [4], none, none, none, none, none], [], [(6, [6, 7], [26, 27])]⟩
theorem lf8_ok : Qw Tryz.prog hi8 true Tryz.f8 = lf8.o := by kernel_rfl
def c9_0 : OL := [⟨some 2, .mov (.c (.bool false)), none⟩]
def c9_1 : OL := [oC 3 0]
def c9_2 : OL := [oM 5 3, oM 6 0, oE 7 6, oB 8 .lss 5 7]
def c9_3 : OL := [oM 11 0, oM 12 3, oI 13 2 11 12, oA 14 2 13, ⟨some 4, .alloc [I L 0, I L 0], none⟩, oT 2 4 14]
def c9_4 : OL := [oF 15 0 4, oL 16 15, oN 17 .gtr 16 60, oM 18 17, oFg 19 0 4 18 true, oLg 20 19 18 true, oNg 21 .lss 20 4096 18 true, oP 22 18 21, oM 23 22, oFg 24 1 4 23 false, oLg 25 24 23 false, oNg 26 .gtr 25 60 23 false, oMg 27 26 23 false, oFg 28 1 4 27 true, oLg 29 28 27 true, oNg 30 .lss 29 4096 27 true, oPg 31 27 30 23 false, oO 32 23 31, oM 33 32, oFg 34 0 4 33 false, oLg 35 34 33 false, oNg 36 .lss 35 (-60) 33 false, oMg 37 36 33 false, oFg 38 0 4 37 true, oLg 39 38 37 true, oNg 40 .geq 39 (-4096) 37 true, oPg 41 37 40 33 false, oO 42 33 41, oM 43 42, oFg 44 1 4 43 false, oLg 45 44 43 false, oNg 46 .lss 45 (-60) 43 false, oMg 47 46 43 false, oFg 48 1 4 47 true, oLg 49 48 47 true, oNg 50 .geq 49 (-4096) 47 true, oPg 51 47 50 43 false, oO 52 43 51]
def c9_5 : OL := [⟨some 2, .mov (.c (.bool false)), none⟩]
def c9_6 : OL := [oM 9 3, oN 10 .add 9 1, oM 3 10]
def c9_L0 : LC := (.seq (.seq (.reg false c9_2) (.cond (.t 8) .skip (.seq (.trim []) (.exit 0)))) (.seq (.blk 1 (.seq (.reg false c9_3) (.seq (.reg false c9_4) (.cond (.t 52) (.seq (.reg false c9_5) (.seq (.trim [2]) .ret)) .skip)))) (.reg false c9_6)))
def c9_8 : OL := [⟨some 2, .mov (.c (.bool true)), none⟩]
def lc9 : LC := (.seq (.reg false c9_0) (.seq (.seq (.reg false c9_1) (.blk 0 (.loop [0, 3] c9_L0))) (.seq (.reg false c9_8) .ret)))
def lf9 : LFunc := ⟨1, [.tmp 2], true, lc9⟩
def hi9 : Qt := ⟨[], [none, none, some [0, 3], none, some [], none, none, none, none, some [2], none, none, none, none], [], []⟩
theorem lf9_ok : Qw Tryz.prog hi9 true Tryz.f9 = lf9.o := by kernel_rfl
def c10_0 : OL := [⟨some 1, .box (.t 0), none⟩, oC 2 0]
def c10_1 : OL := [oC 3 0]
def c10_2 : OL := [oA 6 1 1, ⟨some 7, .callp 22 [(.t 6)], none⟩, oU 8 7]
def c10_3 : OL := [oM 9 3, oM 2 9]
def c10_4 : OL := [oC 4 0]
def c10_5 : OL := [oM 10 4, oF 11 0 1, oL 12 11, oE 13 12, oB 14 .lss 10 13]
def c10_6 : OL := [oC 5 0]
def c10_7 : OL := [oM 17 5, oF 18 0 1, oL 19 18, oM 20 4, oI 21 2 19 20, oF 22 1 21, oL 23 22, oE 24 23, oB 25 .lss 17 24]
def c10_8 : OL := [oM 28 3, oF 29 0 1, oL 30 29, oM 31 4, oI 32 2 30 31, oF 33 1 32, oL 34 33, oM 35 5, oI 36 2 34 35, oF 37 1 36, oL 38 37, oF 39 0 1, oL 40 39, oM 41 4, oI 42 2 40 41, oF 43 1 42, oL 44 43, oM 45 5, oI 46 2 44 45, oF 47 0 46, oL 48 47, oB 49 .sub 38 48, oB 50 .add 28 49, oM 3 50]
def c10_9 : OL := [oM 26 5, oN 27 .add 26 1, oM 5 27]
def Jxr : LC := (.seq (.seq (.reg false c10_7) (.cond (.t 25) .skip (.seq (.trim [1, 3, 4]) (.exit 2)))) (.seq (.blk 3 (.reg true c10_8)) (.reg false c10_9)))
def J8e : OL := [oM 15 4, oN 16 .add 15 1, oM 4 16]
def J6o : LC := (.seq (.seq (.reg false c10_5) (.cond (.t 14) .skip (.seq (.trim [3]) (.exit 0)))) (.seq (.blk 1 (.seq (.reg false c10_6) (.blk 2 (.loop [1, 3, 4, 5] Jxr)))) (.reg false J8e)))
def c10_13 : OL := [oM 51 3, oM 2 51]
def lc10 : LC := (.seq (.reg false c10_0) (.seq (.reg false c10_1) (.seq (.seq (.reg false c10_2) (.cond (.t 8) (.seq (.reg false c10_3) .ret) .skip)) (.seq (.seq (.reg false c10_4) (.blk 0 (.loop [1, 3, 4] J6o))) (.seq (.reg false c10_13) .ret)))))
def lf10 : LFunc := ⟨1, [.tmp 2], true, lc10⟩
def hi10 : Qt := ⟨[], [none, none, none, none, none, none, none, some [1, 3, 4], none, some [3], none, none, some [1, 3, 4, 5], none, some [1, 3, 4], none, none, none, none, none, none], [], []⟩
theorem lf10_ok : Qw Tryz.prog hi10 true Tryz.f10 = lf10.o := by kernel_rfl
def c11_0 : OL := [⟨some 0, .alloc [I L 0, I L 0, I L 0, I L 0, I L 0, I L 0, I L 0, .bool false, I L 0, I L 0, I L 0, I L 0, I L 0, I L 0, I L 0, I L 0, I L 0, I L 0, I L 0, I L 0], none⟩]
def c11_1 : OL := [⟨some 1, .build [I L 0, I L 0, I L 0, I L 0, I L 0, I L 0, I L 0, .bool false, I L 0, I L 0, I L 0, I L 0, I L 0, I L 0, I L 0, I L 0, I L 0, I L 0, I L 0, I L 0] [(0, 1, (.c (I L 40))), (1, 1, (.c (I L 20))), (6, 1, (.c (I L 1))), (12, 1, (.c (I L 8000))), (13, 1, (.c (I L 4000))), (14, 1, (.c (I L 8000))), (17, 1, (.c (I L 40)))], none⟩, oT 20 0 1]
def lc11 : LC := (.seq (.reg false c11_0) (.seq (.reg false c11_1) .ret))
def lf11 : LFunc := ⟨0, [.cell 0 true 20], true, lc11⟩
def hi11 : Qt := ⟨[], [none, none, none], [], []⟩
theorem lf11_ok : Qw Tryz.prog hi11 true Tryz.f11 = lf11.o := by kernel_rfl
def c12_0 : OL := [oC 2 0]
def c12_1 : OL := [oM 9 0, oE 10 9, oC 11 0]
def c12_2 : OL := [oB 12 .lss 11 10]
def c12_3 : OL := [oI 13 6 9 11, oA 14 6 13, ⟨some 4, .alloc [I L 0, I L 0, I L 0, I L 0, I L 0, .nils], none⟩, oT 6 4 14]
def c12_4 : OL := [oA 15 6 4, ⟨some 16, .callp 30 [(.t 15)], none⟩, oU 17 16]
def c12_5 : OL := [oC 2 1]
def c12_6 : OL := [oN 18 .add 11 1, oM 11 18]
def c12_L0 : LC := (.seq (.reg false c12_2) (.seq (.cond (.t 12) .skip (.seq (.trim [0]) (.exit 0))) (.seq (.blk 1 (.seq (.reg false c12_3) (.seq (.reg false c12_4) (.cond (.t 17) (.seq (.reg false c12_5) (.seq (.trim [2]) .ret)) .skip)))) (.reg false c12_6))))
def c12_8 : OL := [⟨some 19, .build [I L 0, I L 0] [], none⟩, ⟨some 5, .alloc [I L 0, I L 0], none⟩, oT 2 5 19, ⟨some 6, .mov (.c (.bool false)), none⟩]
def c12_9 : OL := [oM 20 0, oE 21 20, oC 22 0]
def c12_10 : OL := [oB 23 .lss 22 21]
def c12_11 : OL := [oM 24 22, oI 25 6 20 22, oA 26 6 25, ⟨some 8, .alloc [I L 0, I L 0, I L 0, I L 0, I L 0, .nils], none⟩, oM 7 24, oT 6 8 26]
def c12_12 : OL := [oM 27 7, oN 28 .eql 27 0, oM 29 28, oFg 30 0 8 29 true, oLg 31 30 29 true, oNg 32 .neq 31 1 29 true, oP 33 29 32]
def c12_13 : OL := [oC 2 11]
def c12_14 : OL := [oF 34 0 8, oL 35 34]
def c12_15 : OL := [oN 37 .eql 35 2, oM 36 37]
def c12_16 : OL := [oN 38 .eql 35 3, oM 36 38]
def c12_17 : OL := [oA 39 6 8, oA 40 2 5, ⟨some 41, .callp 31 [(.t 39), (.t 40)], none⟩, oU 42 41, oM 43 42, oMg 44 6 43 false, oMg 45 44 43 false, oFg 46 0 8 45 true, oLg 47 46 45 true, oNg 48 .eql 47 3 45 true, oPg 49 45 48 43 false, oO 50 43 49]
def c12_18 : OL := [oC 2 11]
def c12_19 : OL := [oF 51 5 8, oL 52 51, oF 53 5 8, oL 54 53, oE 55 54, oN 56 .sub 55 1, oI 57 2 52 56, oA 58 2 57, oT 2 5 58]
def c12_20 : OL := [oN 60 .eql 35 4, oM 59 60]
def c12_21 : OL := [oN 61 .eql 35 5, oM 59 61]
def c12_22 : OL := [oM 62 6, oF 63 0 8, oL 64 63, oN 65 .eql 64 4, ⟨some 66, .eqv false false [true] (.t 62) (.t 65), none⟩]
def c12_23 : OL := [oC 2 11]
def c12_24 : OL := [oM 67 6, oU 68 67, oM 6 68]
def c12_25 : OL := [oN 69 .add 22 1, oM 22 69]
def c12_L1 : LC := (.seq (.reg false c12_10) (.seq (.cond (.t 23) .skip (.seq (.trim []) (.exit 2))) (.seq (.blk 3 (.seq (.reg false c12_11) (.seq (.seq (.reg false c12_12) (.cond (.t 33) (.seq (.reg false c12_13) (.seq (.trim [2]) .ret)) .skip)) (.seq (.reg false c12_14) (.blk 4 (.seq (.seq (.reg false c12_15) (.cond (.t 36) .skip (.reg false c12_16))) (.cond (.t 36) (.seq (.seq (.reg false c12_17) (.cond (.t 50) (.seq (.reg false c12_18) (.seq (.trim [2]) .ret)) .skip)) (.reg false c12_19)) (.seq (.seq (.reg false c12_20) (.cond (.t 59) .skip (.reg false c12_21))) (.cond (.t 59) (.seq (.seq (.reg false c12_22) (.cond (.t 66) (.seq (.reg false c12_23) (.seq (.trim [2]) .ret)) .skip)) (.reg false c12_24)) .skip))))))))) (.reg false c12_25))))
def c12_27 : OL := [oC 2 0]
def lc12 : LC := (.seq (.reg false c12_0) (.seq (.seq (.reg false c12_1) (.blk 0 (.loop [0, 9, 10, 11] c12_L0))) (.seq (.reg false c12_8) (.seq (.seq (.reg false c12_9) (.blk 2 (.loop [5, 6, 20, 21, 22] c12_L1))) (.seq (.reg false c12_27) .ret)))))
def lf12 : LFunc := ⟨1, [.tmp 2], true, lc12⟩
def hi12 : Qt := ⟨[], [none, none, some [0, 9, 10, 11], none, some [0], none, none, none, none, some [2], none, none, none, none, some [5, 6, 20, 21, 22], none, some [], none, none, none, none, some [2], none, none, none, none, none, none, some [2], none, none, none, none, none, some [2], none, none, none, none, none], [], []⟩
theorem lf12_ok : Qw Tryz.prog hi12 true Tryz.f12 = lf12.o := by kernel_rfl
def c13_0 : OL := [⟨some 4, .mov (.c (.nils)), none⟩]
def c13_1 : OL := [⟨some 5, .mov (.c (.nils)), none⟩]
def c13_2 : OL := [⟨some 6, .mov (.c (.bool false)), none⟩]
def c13_3 : OL := [oM 9 0, oE 10 9, oC 11 0]
def c13_4 : OL := [oB 12 .lss 11 10]
def c13_5 : OL := [oI 13 6 9 11, oA 14 6 13, ⟨some 8, .alloc [I L 0, I L 0, I L 0, I L 0, I L 0, .nils], none⟩, oT 6 8 14]
def c13_6 : OL := [oF 16 0 8, oL 17 16, oN 18 .eql 17 1, oM 15 18]
def c13_7 : OL := [oF 19 2 8, oL 20 19, oM 21 1, oB 22 .eql 20 21, oM 6 22]
def c13_8 : OL := [oF 24 0 8, oL 25 24, oN 26 .eql 25 3, oM 27 26, oMg 28 6 27 true, oP 29 27 28, oM 23 29]
def c13_9 : OL := [oM 30 5, oF 31 5 8, oL 32 31, ⟨some 33, .app 2 16 27 [I L 0, I L 0] (.t 30) (.t 32), none⟩, oM 5 33]
def c13_10 : OL := [oN 34 .add 11 1, oM 11 34]
def c13_L0 : LC := (.seq (.reg false c13_4) (.seq (.cond (.t 12) .skip (.seq (.trim [5]) (.exit 0))) (.seq (.blk 1 (.seq (.reg false c13_5) (.blk 2 (.seq (.reg false c13_6) (.cond (.t 15) (.reg false c13_7) (.seq (.reg false c13_8) (.cond (.t 23) (.reg false c13_9) .skip))))))) (.reg false c13_10))))
def c13_12 : OL := [oM 35 5, oM 4 35]
def lc13 : LC := (.seq (.reg false c13_0) (.seq (.reg false c13_1) (.seq (.reg false c13_2) (.seq (.seq (.reg false c13_3) (.blk 0 (.loop [1, 5, 6, 9, 10, 11] c13_L0))) (.seq (.reg false c13_12) .ret)))))
def lf13 : LFunc := ⟨2, [.tmp 4], true, lc13⟩
def hi13 : Qt := ⟨[], [none, none, none, none, some [1, 5, 6, 9, 10, 11], none, some [5], none, none, none, none, none, none, none, none], [], []⟩
theorem lf13_ok : Qw Tryz.prog hi13 true Tryz.f13 = lf13.o := by kernel_rfl
def c14_0 : OL := [⟨some 1, .box (.t 0), none⟩, ⟨some 2, .mov (.c (.bool false)), none⟩]
def c14_1 : OL := [oA 3 20 1, ⟨some 4, .callp 32 [(.t 3)], none⟩, ⟨some 5, .build [.bool false, .bool false, .bool false, .bool false, .bool false, .bool false, .bool false] [], none⟩, ⟨some 6, .eqv false true [true, true, true, true, true, true, true] (.t 4) (.t 5), none⟩, oM 2 6]
def lc14 : LC := (.seq (.reg false c14_0) (.seq (.reg false c14_1) .ret))
def lf14 : LFunc := ⟨1, [.tmp 2], true, lc14⟩
def hi14 : Qt := ⟨[], [none, none, none], [], []⟩
theorem lf14_ok : Qw Tryz.prog hi14 true Tryz.f14 = lf14.o := by kernel_rfl
def c15_0 : OL := [⟨some 1, .box (.t 0), none⟩, ⟨some 2, .mov (.c (.bool false)), none⟩]
def c15_1 : OL := [oF 5 0 1, oL 6 5, oE 7 6, oC 8 0]
def c15_2 : OL := [oB 9 .lss 8 7]
def c15_3 : OL := [oM 10 8, oI 11 2 6 8, oA 12 2 11, ⟨some 4, .alloc [I L 0, .nils], none⟩, oM 3 10, oT 2 4 12]
def c15_4 : OL := [oF 13 0 4, oL 14 13, ⟨some 15, .callp 33 [(.t 14)], none⟩, oU 16 15, oM 17 16, oMg 18 3 17 false, oNg 19 .gtr 18 0 17 false, oMg 20 19 17 false, oFg 21 0 4 20 true, oLg 22 21 20 true, oFg 23 0 1 20 true, oLg 24 23 20 true, oMg 25 3 20 true, oNg 26 .sub 25 1 20 true, oIg 27 2 24 26 20 true, oFg 28 0 27 20 true, oLg 29 28 20 true, oBg 30 .leq 22 29 20 true, oPg 31 20 30 17 false, oO 32 17 31, oM 33 32, oFg 34 1 4 33 false, oLg 35 34 33 false, oEg 36 35 33 false, oNg 37 .eql 36 0 33 false, oO 38 33 37, oM 39 38, oFg 40 1 4 39 false, oLg 41 40 39 false, ⟨some 42, .callp 34 [(.t 41)], some (39, false)⟩, oUg 43 42 39 false, oO 44 39 43]
def c15_5 : OL := [⟨some 2, .mov (.c (.bool false)), none⟩]
def c15_6 : OL := [oF 45 1 4, oL 46 45, ⟨some 47, .iaddr 2 (.t 46) (.c (I L 0)), none⟩, oF 48 0 47, oL 49 48, ⟨some 50, .callp 33 [(.t 49)], none⟩, oU 51 50, oM 52 51, oFg 53 1 4 52 false, oLg 54 53 52 false, oFg 55 1 4 52 false, oLg 56 55 52 false, oEg 57 56 52 false, oNg 58 .sub 57 1 52 false, oIg 59 2 54 58 52 false, oFg 60 1 59 52 false, oLg 61 60 52 false, oNg 62 .sub 61 1 52 false, ⟨some 63, .callp 33 [(.t 62)], some (52, false)⟩, oUg 64 63 52 false, oO 65 52 64]
def c15_7 : OL := [⟨some 2, .mov (.c (.bool false)), none⟩]
def c15_8 : OL := [oN 66 .add 8 1, oM 8 66]
def J24 : LC := (.seq (.reg false c15_2) (.seq (.cond (.t 9) .skip (.seq (.trim []) (.exit 0))) (.seq (.blk 1 (.seq (.reg false c15_3) (.seq (.seq (.reg true c15_4) (.cond (.t 44) (.seq (.reg false c15_5) (.seq (.trim [2]) .ret)) .skip)) (.seq (.reg false c15_6) (.cond (.t 65) (.seq (.reg false c15_7) (.seq (.trim [2]) .ret)) .skip))))) (.reg false c15_8))))
def c15_10 : OL := [⟨some 2, .mov (.c (.bool true)), none⟩]
def lc15 : LC := (.seq (.reg false c15_0) (.seq (.seq (.reg false c15_1) (.blk 0 (.loop [1, 6, 7, 8] J24))) (.seq (.reg false c15_10) .ret)))
def lf15 : LFunc := ⟨1, [.tmp 2], true, lc15⟩
def hi15 : Qt := ⟨[], [none, none, some [1, 6, 7, 8], none, some [], none, none, none, none, some [2], none, none, none, some [2], none, none, none, none], [], []⟩
theorem lf15_ok : Qw Tryz.prog hi15 true Tryz.f15 = lf15.o := by kernel_rfl
def c16_0 : OL := [⟨some 1, .box (.t 0), none⟩, ⟨some 2, .mov (.c (.bool false)), none⟩]
def c16_1 : OL := [oF 3 0 1, oL 4 3, oN 5 .geq 4 (-4096), oM 6 5, oFg 7 0 1 6 true, oLg 8 7 6 true, oNg 9 .lss 8 4096 6 true, oP 10 6 9, oM 11 10, oFg 12 1 1 11 true, oLg 13 12 11 true, oNg 14 .geq 13 (-4096) 11 true, oP 15 11 14, oM 16 15, oFg 17 1 1 16 true, oLg 18 17 16 true, oNg 19 .lss 18 4096 16 true, oP 20 16 19, oM 2 20]
def lc16 : LC := (.seq (.reg false c16_0) (.seq (.reg false c16_1) .ret))
def lf16 : LFunc := ⟨1, [.tmp 2], true, lc16⟩
def hi16 : Qt := ⟨[], [none, none, none], [], []⟩
theorem lf16_ok : Qw Tryz.prog hi16 true Tryz.f16 = lf16.o := by kernel_rfl
def c17_0 : OL := [⟨some 1, .box (.t 0), none⟩, ⟨some 2, .mov (.c (.bool false)), none⟩]
def c17_1 : OL := [oF 6 2 1, oL 7 6, oE 8 7, oM 3 8]
def c17_2 : OL := [oF 9 0 1, oL 10 9, oN 11 .lss 10 1, oM 12 11, oFg 13 0 1 12 false, oLg 14 13 12 false, oNg 15 .gtr 14 7 12 false, oO 16 12 15, oM 17 16, oMg 18 3 17 false, oNg 19 .lss 18 1 17 false, oO 20 17 19, oM 21 20, oMg 22 3 21 false, oNg 23 .gtr 22 65536 21 false, oO 24 21 23]
def c17_3 : OL := [⟨some 2, .mov (.c (.bool false)), none⟩]
def c17_4 : OL := [oF 25 2 1, oL 26 25, oE 27 26, oC 28 0]
def c17_5 : OL := [oB 29 .lss 28 27]
def c17_6 : OL := [oM 30 28, oI 31 2 26 28, oA 32 2 31, ⟨some 5, .alloc [I L 0, I L 0], none⟩, oM 4 30, oT 2 5 32]
def c17_7 : OL := [oA 33 2 5, ⟨some 34, .callp 35 [(.t 33)], none⟩, oU 35 34, oM 36 35, oMg 37 4 36 false, oNg 38 .gtr 37 0 36 false, oMg 39 38 36 false, oFg 40 2 1 39 true, oLg 41 40 39 true, oMg 42 4 39 true, oNg 43 .sub 42 1 39 true, oIg 44 2 41 43 39 true, oAg 45 2 44 39 true, oAg 46 2 5 39 true, ⟨some 47, .callp 36 [(.t 45), (.t 46)], some (39, true)⟩, oUg 48 47 39 true, oPg 49 39 48 36 false, oO 50 36 49]
def c17_8 : OL := [⟨some 2, .mov (.c (.bool false)), none⟩]
def c17_9 : OL := [oN 51 .add 28 1, oM 28 51]
def J3l : LC := (.seq (.reg false c17_5) (.seq (.cond (.t 29) .skip (.seq (.trim [1, 3]) (.exit 0))) (.seq (.blk 1 (.seq (.reg false c17_6) (.seq (.reg true c17_7) (.cond (.t 50) (.seq (.reg false c17_8) (.seq (.trim [2]) .ret)) .skip)))) (.reg false c17_9))))
def c17_11 : OL := [oF 52 1 1, oL 53 52, oU 54 53, oM 55 54, oMg 56 3 55 false, oNg 57 .eql 56 1 55 false, oO 58 55 57, oM 59 58, oFg 60 2 1 59 false, oLg 61 60 59 false, oMg 62 3 59 false, oNg 63 .sub 62 1 59 false, oIg 64 2 61 63 59 false, oAg 65 2 64 59 false, oFg 66 2 1 59 false, oLg 67 66 59 false, ⟨some 68, .iaddr 2 (.t 67) (.c (I L 0)), some (59, false)⟩, oAg 69 2 68 59 false, ⟨some 70, .callp 36 [(.t 65), (.t 69)], some (59, false)⟩, oO 71 59 70, oM 2 71]
def lc17 : LC := (.seq (.reg false c17_0) (.seq (.reg false c17_1) (.seq (.seq (.reg false c17_2) (.cond (.t 24) (.seq (.reg false c17_3) .ret) .skip)) (.seq (.seq (.reg false c17_4) (.blk 0 (.loop [1, 3, 26, 27, 28] J3l))) (.seq (.reg true c17_11) .ret)))))
def lf17 : LFunc := ⟨1, [.tmp 2], true, lc17⟩
def hi17 : Qt := ⟨[], [none, none, none, none, none, none, none, some [1, 3, 26, 27, 28], none, some [1, 3], none, none, none, none, some [2], none, none, none, none], [], []⟩
theorem lf17_ok : Qw Tryz.prog hi17 true Tryz.f17 = lf17.o := by kernel_rfl
def c18_0 : OL := [⟨some 3, .box (.t 1), none⟩]
def c18_1 : OL := [oM 4 0, oM 5 0, ⟨some 6, .nilck (.t 5), none⟩, oF 7 0 6, oL 8 7, oA 9 6 3, ⟨some 10, .bslice 1 6 52 [I L 0, I L 0, I L 0, I L 0, I L 0, .nils] [(0, 6, (.t 9))], none⟩, ⟨some 11, .app 6 64 52 [I L 0, I L 0, I L 0, I L 0, I L 0, .nils] (.t 8) (.t 10), none⟩, ⟨some 12, .nilck (.t 4), none⟩, oF 13 0 12, oT 1 13 11]
def lc18 : LC := (.seq (.reg false c18_0) (.reg true c18_1))
def lf18 : LFunc := ⟨2, [], false, lc18⟩
def hi18 : Qt := ⟨[], [none], [], []⟩
theorem lf18_ok : Qw Tryz.prog hi18 false Tryz.f18 = lf18.o := by kernel_rfl
def c19_0 : OL := [oM 7 0, ⟨some 8, .nilck (.t 7), none⟩, oF 9 22 8, oA 10 2 9, ⟨some 4, .alloc [I L 0, I L 0], none⟩, oT 2 4 10]
def c19_1 : OL := [oA 11 2 4, oA 12 2 4, oM 13 1, oC 17 0, ⟨some 14, .callz 38 [(.t 12), (.t 13)], none⟩, ⟨some 15, .callz 37 [(.t 11), (.t 14), (.c (I L 8))], none⟩, oE 16 15]
def c19_2 : OL := [oB 18 .lss 17 16]
def c19_3 : OL := [oI 19 3 15 17, oA 20 3 19, ⟨some 6, .alloc [I L 0, .bool false, .nils], none⟩, oT 3 6 20]
def c19_4 : OL := [oM 21 0, oA 22 3 6, ⟨some 23, .callr 39 [(.t 21), (.t 22)], none⟩]
def c19_5 : OL := [oN 24 .add 17 1, oM 17 24]
def J9j : LC := (.seq (.reg false c19_2) (.seq (.cond (.t 18) .skip (.seq (.trim []) (.exit 0))) (.seq (.blk 1 (.seq (.reg false c19_3) (.reg false c19_4))) (.reg false c19_5))))
def lc19 : LC := (.seq (.reg false c19_0) (.seq (.reg true c19_1) (.blk 0 (.loop [0, 15, 16, 17] J9j))))
def lf19 : LFunc := ⟨2, [], false, lc19⟩
def hi19 : Qt := ⟨[(14, .z), (15, .z), (23, .r)], [none, none, some [0, 15, 16, 17], none, some [], none, none, none], [(1, [0, 1, 2, 6, 3, 4, 5])], []⟩
theorem lf19_ok : Qw Tryz.prog hi19 false Tryz.f19 = lf19.o := by kernel_rfl
def c20_0 : OL := [⟨some 2, .box (.t 0), none⟩, ⟨some 3, .box (.t 1), none⟩, ⟨some 4, .mov (.c (.nils)), none⟩]
def c20_1 : OL := [oL 9 2, ⟨some 10, .callz 40 [(.t 9)], none⟩, oT 1 2 10]
def c20_2 : OL := [oA 11 20 3, ⟨some 12, .callp 14 [(.t 11)], none⟩, oU 13 12]
def c20_3 : OL := [oL 14 2, oM 4 14]
def c20_4 : OL := [⟨some 15, .mkfn 41 [(.t 2), (.t 3)], none⟩, oM 5 15]
def c20_5 : OL := [oF 16 17 3, oL 17 16, oF 18 0 3, oL 19 18, oB 20 .quo 17 19, ⟨some 21, .mm true (.t 20) (.c (I L 1)), none⟩, oF 22 13 3, oL 23 22, oF 24 0 3, oL 25 24, oB 26 .quo 23 25, ⟨some 27, .mm true (.t 26) (.c (I L 1)), none⟩, oM 6 21, oM 7 27]
def c20_6 : OL := [oM 28 6, oM 29 7, oB 30 .lss 28 29]
def c20_7 : OL := [oM 31 6, oM 32 7, oB 33 .add 31 32, oN 34 .add 33 1, oN 35 .quo 34 2, oM 8 35]
def c20_8 : OL := [oM 36 5, oM 37 8, ⟨some 38, .callu (.t 36) [(.t 37)], none⟩]
def c20_9 : OL := [oM 39 8, oM 6 39]
def J7g : OL := [oM 40 8, oN 41 .sub 40 1, oM 7 41]
def J1x : LC := (.seq (.seq (.reg false c20_6) (.cond (.t 30) .skip (.seq (.trim [2, 6]) (.exit 0)))) (.blk 1 (.seq (.reg false c20_7) (.seq (.reg false c20_8) (.cond (.t 38) (.reg false c20_9) (.reg false J7g))))))
def c20_12 : OL := [oL 42 2, oM 43 6, ⟨some 44, .callz 43 [(.t 42), (.t 43)], none⟩, oM 4 44]
def lc20 : LC := (.seq (.reg false c20_0) (.seq (.reg false c20_1) (.seq (.seq (.reg false c20_2) (.cond (.t 13) (.seq (.reg false c20_3) .ret) .skip)) (.seq (.reg false c20_4) (.seq (.reg true c20_5) (.seq (.blk 0 (.loop [2, 5, 6, 7] J1x)) (.seq (.reg false c20_12) .ret)))))))
def lf20 : LFunc := ⟨2, [.tmp 4], true, lc20⟩
def hi20 : Qt := ⟨[(10, .z), (38, .q), (44, .z)], [none, none, none, none, none, none, none, none, some [2, 5, 6, 7], none, some [2, 6], none, none, none, none, none, none], [], []⟩
theorem lf20_ok : Qw Tryz.prog hi20 true Tryz.f20 = lf20.o := by kernel_rfl
def c21_0 : OL := [⟨some 1, .box (.t 0), none⟩, ⟨some 2, .mov (.c (.bool false)), none⟩]
def c21_1 : OL := [oF 3 0 1, oL 4 3, ⟨some 5, .callp 44 [(.t 4), (.c (I L 32)), (.c (I L 1024))], none⟩, oU 6 5, oM 7 6, oFg 8 0 1 7 false, oLg 9 8 7 false, oNg 10 .rem 9 2 7 false, oNg 11 .neq 10 0 7 false, oO 12 7 11, oM 13 12, oFg 14 1 1 13 false, oLg 15 14 13 false, ⟨some 16, .callp 44 [(.t 15), (.c (I L 4)), (.c (I L 1024))], some (13, false)⟩, oUg 17 16 13 false, oO 18 13 17, oM 19 18, oFg 20 1 1 19 false, oLg 21 20 19 false, oNg 22 .rem 21 2 19 false, oNg 23 .neq 22 0 19 false, oO 24 19 23]
def c21_2 : OL := [⟨some 2, .mov (.c (.bool false)), none⟩]
def c21_3 : OL := [oF 25 2 1, oL 26 25, ⟨some 27, .callp 44 [(.t 26), (.c (I L 0)), (.c (I L 8))], none⟩, oU 28 27, oM 29 28, oFg 30 3 1 29 false, oLg 31 30 29 false, ⟨some 32, .callp 44 [(.t 31), (.c (I L 0)), (.c (I L 16))], some (29, false)⟩, oUg 33 32 29 false, oO 34 29 33, oM 35 34, oFg 36 4 1 35 false, oLg 37 36 35 false, ⟨some 38, .callp 44 [(.t 37), (.c (I L 0)), (.c (I L 16))], some (35, false)⟩, oUg 39 38 35 false, oO 40 35 39, oM 41 40, oFg 42 5 1 41 false, oLg 43 42 41 false, ⟨some 44, .callp 44 [(.t 43), (.c (I L 0)), (.c (I L 3))], some (41, false)⟩, oUg 45 44 41 false, oO 46 41 45, oM 47 46, oFg 48 6 1 47 false, oLg 49 48 47 false, ⟨some 50, .callp 44 [(.t 49), (.c (I L 1)), (.c (I L 64))], some (47, false)⟩, oUg 51 50 47 false, oO 52 47 51]
def c21_4 : OL := [⟨some 2, .mov (.c (.bool false)), none⟩]
def c21_5 : OL := [oF 53 8 1, oL 54 53, ⟨some 55, .callp 44 [(.t 54), (.c (I L 0)), (.c (I L 64))], none⟩, oU 56 55, oM 57 56, oFg 58 9 1 57 false, oLg 59 58 57 false, ⟨some 60, .callp 44 [(.t 59), (.c (I L 0)), (.c (I L 64))], some (57, false)⟩, oUg 61 60 57 false, oO 62 57 61, oM 63 62, oFg 64 10 1 63 false, oLg 65 64 63 false, ⟨some 66, .callp 44 [(.t 65), (.c (I L 0)), (.c (I L 64))], some (63, false)⟩, oUg 67 66 63 false, oO 68 63 67, oM 69 68, oFg 70 11 1 69 false, oLg 71 70 69 false, ⟨some 72, .callp 44 [(.t 71), (.c (I L 0)), (.c (I L 63))], some (69, false)⟩, oUg 73 72 69 false, oO 74 69 73]
def c21_6 : OL := [⟨some 2, .mov (.c (.bool false)), none⟩]
def c21_7 : OL := [oF 75 12 1, oL 76 75, ⟨some 77, .callp 44 [(.t 76), (.c (I L 1)), (.c (I L 1073741824))], none⟩, oU 78 77, oM 79 78, oFg 80 13 1 79 false, oLg 81 80 79 false, ⟨some 82, .callp 44 [(.t 81), (.c (I L 1)), (.c (I L 1048576))], some (79, false)⟩, oUg 83 82 79 false, oO 84 79 83, oM 85 84, oFg 86 14 1 85 false, oLg 87 86 85 false, ⟨some 88, .callp 44 [(.t 87), (.c (I L 1)), (.c (I L 1048576))], some (85, false)⟩, oUg 89 88 85 false, oO 90 85 89, oM 91 90, oFg 92 15 1 91 false, oLg 93 92 91 false, ⟨some 94, .callp 44 [(.t 93), (.c (I L 0)), (.c (I L 65536))], some (91, false)⟩, oUg 95 94 91 false, oO 96 91 95]
def c21_8 : OL := [⟨some 2, .mov (.c (.bool false)), none⟩]
def c21_9 : OL := [oF 97 16 1, oL 98 97, ⟨some 99, .callp 44 [(.t 98), (.c (I L 0)), (.c (I L 1048576))], none⟩, oM 100 99, oFg 101 17 1 100 true, oLg 102 101 100 true, oFg 103 13 1 100 true, oLg 104 103 100 true, ⟨some 105, .callp 44 [(.t 102), (.c (I L 1)), (.t 104)], some (100, true)⟩, oP 106 100 105, oM 107 106, oFg 108 18 1 107 true, oLg 109 108 107 true, ⟨some 110, .callp 44 [(.t 109), (.c (I L 0)), (.c (I L 400000))], some (107, true)⟩, oP 111 107 110, oM 112 111, oFg 113 19 1 112 true, oLg 114 113 112 true, ⟨some 115, .callp 44 [(.t 114), (.c (I L 0)), (.c (I L 400000))], some (112, true)⟩, oP 116 112 115, oM 2 116]
def lc21 : LC := (.seq (.reg false c21_0) (.seq (.seq (.reg false c21_1) (.cond (.t 24) (.seq (.reg false c21_2) .ret) .skip)) (.seq (.seq (.reg false c21_3) (.cond (.t 52) (.seq (.reg false c21_4) .ret) .skip)) (.seq (.seq (.reg false c21_5) (.cond (.t 74) (.seq (.reg false c21_6) .ret) .skip)) (.seq (.seq (.reg false c21_7) (.cond (.t 96) (.seq (.reg false c21_8) .ret) .skip)) (.seq (.reg false c21_9) .ret))))))
def lf21 : LFunc := ⟨1, [.tmp 2], true, lc21⟩
def hi21 : Qt := ⟨[], [none, none, none, none, none, none, none, none, none, none, none, none, none, none, none, none, none, none, none], [], []⟩
theorem lf21_ok : Qw Tryz.prog hi21 true Tryz.f21 = lf21.o := by kernel_rfl
def c22_0 : OL := [⟨some 1, .box (.t 0), none⟩, ⟨some 2, .mov (.c (.bool false)), none⟩]
def c22_1 : OL := [oC 3 0]
def c22_2 : OL := [oM 5 3, oF 6 0 1, oL 7 6, oE 8 7, oB 9 .lss 5 8]
def c22_3 : OL := [oF 12 0 1, oL 13 12, oM 14 3, oI 15 2 13 14, oF 16 0 15, oL 17 16, oM 4 17]
def c22_4 : OL := [oM 18 4, oN 19 .lss 18 (-4096), oM 20 19, oMg 21 4 20 false, oNg 22 .geq 21 4096 20 false, oO 23 20 22, oM 24 23, oMg 25 3 24 false, oNg 26 .gtr 25 0 24 false, oMg 27 26 24 false, oMg 28 4 27 true, oFg 29 0 1 27 true, oLg 30 29 27 true, oMg 31 3 27 true, oNg 32 .sub 31 1 27 true, oIg 33 2 30 32 27 true, oFg 34 0 33 27 true, oLg 35 34 27 true, oBg 36 .leq 28 35 27 true, oPg 37 27 36 24 false, oO 38 24 37, oM 39 38, oFg 40 0 1 39 false, oLg 41 40 39 false, oMg 42 3 39 false, oIg 43 2 41 42 39 false, oFg 44 1 43 39 false, oLg 45 44 39 false, ⟨some 46, .callp 45 [(.t 45)], some (39, false)⟩, oUg 47 46 39 false, oO 48 39 47]
def c22_5 : OL := [⟨some 2, .mov (.c (.bool false)), none⟩]
def c22_6 : OL := [oM 10 3, oN 11 .add 10 1, oM 3 11]
def J3v : LC := (.seq (.seq (.reg false c22_2) (.cond (.t 9) .skip (.seq (.trim []) (.exit 0)))) (.seq (.blk 1 (.seq (.reg false c22_3) (.seq (.reg false c22_4) (.cond (.t 48) (.seq (.reg false c22_5) (.seq (.trim [2]) .ret)) .skip)))) (.reg false c22_6)))
def c22_8 : OL := [⟨some 2, .mov (.c (.bool true)), none⟩]
def lc22 : LC := (.seq (.reg false c22_0) (.seq (.seq (.reg false c22_1) (.blk 0 (.loop [1, 3] J3v))) (.seq (.reg false c22_8) .ret)))
def lf22 : LFunc := ⟨1, [.tmp 2], true, lc22⟩
def hi22 : Qt := ⟨[], [none, none, some [1, 3], none, some [], none, none, none, none, some [2], none, none, none, none], [], []⟩
theorem lf22_ok : Qw Tryz.prog hi22 true Tryz.f22 = lf22.o := by kernel_rfl
def c23_0 : OL := [⟨some 1, .box (.t 0), none⟩, ⟨some 2, .mov (.c (.bool false)), none⟩]
def c23_1 : OL := [oF 3 0 1, oL 4 3, oN 5 .geq 4 (-4096), oM 6 5, oFg 7 0 1 6 true, oLg 8 7 6 true, oNg 9 .lss 8 4096 6 true, oP 10 6 9, oM 11 10, oFg 12 1 1 11 true, oLg 13 12 11 true, oNg 14 .geq 13 (-4096) 11 true, oP 15 11 14, oM 16 15, oFg 17 1 1 16 true, oLg 18 17 16 true, oNg 19 .lss 18 4096 16 true, oP 20 16 19, oM 2 20]
def lc23 : LC := (.seq (.reg false c23_0) (.seq (.reg false c23_1) .ret))
def lf23 : LFunc := ⟨1, [.tmp 2], true, lc23⟩
def hi23 : Qt := ⟨[], [none, none, none], [], []⟩
theorem lf23_ok : Qw Tryz.prog hi23 true Tryz.f23 = lf23.o := by kernel_rfl
def c24_0 : OL := [⟨some 1, .box (.t 0), none⟩, ⟨some 2, .mov (.c (.bool false)), none⟩]
def c24_1 : OL := [oF 6 2 1, oL 7 6, oE 8 7, oM 3 8]
def c24_2 : OL := [oF 9 0 1, oL 10 9, oN 11 .lss 10 1, oM 12 11, oFg 13 0 1 12 false, oLg 14 13 12 false, oNg 15 .gtr 14 7 12 false, oO 16 12 15, oM 17 16, oMg 18 3 17 false, oNg 19 .lss 18 1 17 false, oO 20 17 19, oM 21 20, oMg 22 3 21 false, oNg 23 .gtr 22 65536 21 false, oO 24 21 23]
def c24_3 : OL := [⟨some 2, .mov (.c (.bool false)), none⟩]
def c24_4 : OL := [oF 25 2 1, oL 26 25, oE 27 26, oC 28 0]
def c24_5 : OL := [oB 29 .lss 28 27]
def c24_6 : OL := [oM 30 28, oI 31 2 26 28, oA 32 2 31, ⟨some 5, .alloc [I L 0, I L 0], none⟩, oM 4 30, oT 2 5 32]
def c24_7 : OL := [oA 33 2 5, ⟨some 34, .callp 46 [(.t 33)], none⟩, oU 35 34, oM 36 35, oMg 37 4 36 false, oNg 38 .gtr 37 0 36 false, oMg 39 38 36 false, oFg 40 2 1 39 true, oLg 41 40 39 true, oMg 42 4 39 true, oNg 43 .sub 42 1 39 true, oIg 44 2 41 43 39 true, oAg 45 2 44 39 true, oAg 46 2 5 39 true, ⟨some 47, .callp 47 [(.t 45), (.t 46)], some (39, true)⟩, oUg 48 47 39 true, oPg 49 39 48 36 false, oO 50 36 49]
def c24_8 : OL := [⟨some 2, .mov (.c (.bool false)), none⟩]
def c24_9 : OL := [oN 51 .add 28 1, oM 28 51]
def J7n : LC := (.seq (.reg false c24_5) (.seq (.cond (.t 29) .skip (.seq (.trim [1, 3]) (.exit 0))) (.seq (.blk 1 (.seq (.reg false c24_6) (.seq (.reg true c24_7) (.cond (.t 50) (.seq (.reg false c24_8) (.seq (.trim [2]) .ret)) .skip)))) (.reg false c24_9))))
def c24_11 : OL := [oF 52 1 1, oL 53 52, oU 54 53, oM 55 54, oMg 56 3 55 false, oNg 57 .eql 56 1 55 false, oO 58 55 57, oM 59 58, oFg 60 2 1 59 false, oLg 61 60 59 false, oMg 62 3 59 false, oNg 63 .sub 62 1 59 false, oIg 64 2 61 63 59 false, oAg 65 2 64 59 false, oFg 66 2 1 59 false, oLg 67 66 59 false, ⟨some 68, .iaddr 2 (.t 67) (.c (I L 0)), some (59, false)⟩, oAg 69 2 68 59 false, ⟨some 70, .callp 47 [(.t 65), (.t 69)], some (59, false)⟩, oO 71 59 70, oM 2 71]
def lc24 : LC := (.seq (.reg false c24_0) (.seq (.reg false c24_1) (.seq (.seq (.reg false c24_2) (.cond (.t 24) (.seq (.reg false c24_3) .ret) .skip)) (.seq (.seq (.reg false c24_4) (.blk 0 (.loop [1, 3, 26, 27, 28] J7n))) (.seq (.reg true c24_11) .ret)))))
def lf24 : LFunc := ⟨1, [.tmp 2], true, lc24⟩
def hi24 : Qt := ⟨[], [none, none, none, none, none, none, none, some [1, 3, 26, 27, 28], none, some [1, 3], none, none, none, none, some [2], none, none, none, none], [], []⟩
theorem lf24_ok : Qw Tryz.prog hi24 true Tryz.f24 = lf24.o := by kernel_rfl
def c25_0 : OL := [oC 4 0]
def c25_1 : OL := [oM 6 1, oM 5 6]
def c25_2 : OL := [oM 7 5, oM 8 0, oE 9 8, oB 10 .lss 7 9, oM 11 10, oMg 12 0 11 true, oMg 13 5 11 true, oIg 14 3 12 13 11 true, oFg 15 0 14 11 true, oLg 16 15 11 true, oMg 17 0 11 true, oMg 18 1 11 true, oIg 19 3 17 18 11 true, oFg 20 0 19 11 true, oLg 21 20 11 true, oBg 22 .eql 16 21 11 true, oP 23 11 22]
def c25_3 : OL := [oM 24 5, oN 25 .add 24 1, oM 5 25]
def J30 : LC := (.seq (.seq (.reg true c25_2) (.cond (.t 23) .skip (.seq (.trim [5]) (.exit 0)))) (.blk 1 (.reg false c25_3)))
def c25_5 : OL := [oM 26 5, oM 4 26]
def lc25 : LC := (.seq (.reg false c25_0) (.seq (.reg false c25_1) (.seq (.blk 0 (.loop [0, 1, 5] J30)) (.seq (.reg false c25_5) .ret))))
def lf25 : LFunc := ⟨2, [.tmp 4], true, lc25⟩
def hi25 : Qt := ⟨[], [none, none, some [0, 1, 5], none, some [5], none, none, none, none], [], []⟩
theorem lf25_ok : Qw Tryz.prog hi25 true Tryz.f25 = lf25.o := by kernel_rfl
def c26_0 : OL := [⟨some 3, .box (.t 0), none⟩, ⟨some 6, .mov (.c (.nils)), none⟩]
def c26_1 : OL := [oA 10 2 3, ⟨some 11, .callp 46 [(.t 10)], none⟩, oU 12 11]
def c26_2 : OL := [⟨some 6, .mov (.c (.nils)), none⟩]
def c26_3 : OL := [oM 13 1, ⟨some 14, .callz 48 [(.t 13)], none⟩, oM 7 14, ⟨some 8, .mov (.c (.bool true)), none⟩]
def c26_4 : OL := [oC 9 0]
def c26_5 : OL := [oM 15 9, oM 16 2, ⟨some 17, .mm false (.t 16) (.c (I L 64)), none⟩, oB 18 .lss 15 17, oM 19 18, oMg 20 8 19 true, oP 21 19 20]
def c26_6 : OL := [oA 25 2 3, oM 26 7, ⟨some 27, .callz 49 [(.t 25), (.t 26)], none⟩, oM 24 27, ⟨some 28, .ext (.t 24) 0, none⟩, ⟨some 29, .ext (.t 24) 1, none⟩, oM 7 28, oM 8 29]
def c26_7 : OL := [oM 22 9, oN 23 .add 22 1, oM 9 23]
def J18 : LC := (.seq (.seq (.reg false c26_5) (.cond (.t 21) .skip (.seq (.trim [7]) (.exit 0)))) (.seq (.blk 1 (.reg false c26_6)) (.reg false c26_7)))
def c26_9 : OL := [oM 30 7, oM 6 30]
def lc26 : LC := (.seq (.reg false c26_0) (.seq (.seq (.reg false c26_1) (.cond (.t 12) (.seq (.reg false c26_2) .ret) .skip)) (.seq (.reg false c26_3) (.seq (.seq (.reg false c26_4) (.blk 0 (.loop [2, 3, 7, 8, 9] J18))) (.seq (.reg false c26_9) .ret)))))
def lf26 : LFunc := ⟨3, [.tmp 6], true, lc26⟩
def hi26 : Qt := ⟨[(14, .z), (27, .z)], [none, none, none, none, none, none, none, some [2, 3, 7, 8, 9], none, some [7], none, none, none, none, none], [], []⟩
theorem lf26_ok : Qw Tryz.prog hi26 true Tryz.f26 = lf26.o := by kernel_rfl
def c27_0 : OL := [⟨some 2, .box (.t 0), none⟩, ⟨some 4, .mov (.c (.nils)), none⟩]
def c27_1 : OL := [oA 15 2 2, ⟨some 16, .callp 46 [(.t 15)], none⟩, oU 17 16]
def c27_2 : OL := [⟨some 4, .mov (.c (.nils)), none⟩]
def c27_3 : OL := [oM 18 1, ⟨some 19, .callz 48 [(.t 18)], none⟩, ⟨some 5, .frz (.t 19), none⟩]
def c27_4 : OL := [⟨some 6, .mov (.c (.nils)), none⟩]
def c27_5 : OL := [oM 20 5, oE 21 20, oN 22 .gtr 21 0]
def c27_6 : OL := [⟨some 23, .build [I L 0, .bool false, .nils] [], none⟩, ⟨some 7, .alloc [I L 0, .bool false, .nils], none⟩, oT 3 7 23, oC 8 (-1), oC 9 0]
def c27_7 : OL := [oM 24 5, oE 25 24, oC 26 0]
def c27_8 : OL := [oB 27 .lss 26 25]
def c27_9 : OL := [oM 28 26, oI 29 3 24 26, oA 30 3 29, ⟨some 11, .alloc [I L 0, .bool false, .nils], none⟩, oM 10 28, oT 3 11 30]
def J14 : OL := [oA 31 3 11, ⟨some 32, .callz 50 [(.t 31)], none⟩, oE 33 32, oC 34 0]
def J5p : OL := [oB 35 .lss 34 33]
def J8q : OL := [oI 36 3 32 34, oA 37 3 36, ⟨some 13, .alloc [I L 0, .bool false, .nils], none⟩, oT 3 13 37]
def J6r : OL := [oA 38 2 2, oF 39 2 13, oL 40 39, ⟨some 41, .iaddr 2 (.t 40) (.c (I L 0)), none⟩, oA 42 2 41, ⟨some 43, .callp 51 [(.t 38), (.t 42)], none⟩, oM 14 43]
def J2d : OL := [oM 44 8, oN 45 .lss 44 0, oM 46 45, oMg 47 14 46 false, oMg 48 9 46 false, oBg 49 .lss 47 48 46 false, oO 50 46 49]
def J3z : OL := [oA 51 3 13, oM 52 10, oM 53 14, oT 3 7 51, oM 8 52, oM 9 53]
def J47 : OL := [oN 54 .add 34 1, oM 34 54]
def Jw7 : LC := (.seq (.reg false J5p) (.seq (.cond (.t 35) .skip (.seq (.trim [2, 5, 6, 7, 8, 9, 24, 25, 26]) (.exit 4))) (.seq (.blk 5 (.seq (.reg false J8q) (.seq (.reg true J6r) (.seq (.reg false J2d) (.cond (.t 50) (.reg false J3z) .skip))))) (.reg false J47))))
def J5y : OL := [oN 55 .add 26 1, oM 26 55]
def Jx4 : LC := (.seq (.reg false c27_8) (.seq (.cond (.t 27) .skip (.seq (.trim [2, 5, 6, 7, 8]) (.exit 2))) (.seq (.blk 3 (.seq (.reg false c27_9) (.seq (.reg false J14) (.blk 4 (.loop [2, 5, 6, 7, 8, 9, 10, 24, 25, 26, 32, 33, 34] Jw7))))) (.reg false J5y))))
def J09 : OL := [oM 56 6, oA 57 3 7, ⟨some 58, .bslice 1 3 42 [I L 0, .bool false, .nils] [(0, 3, (.t 57))], none⟩, ⟨some 59, .app 3 40 42 [I L 0, .bool false, .nils] (.t 56) (.t 58), none⟩, oM 6 59]
def J60 : OL := [oF 60 2 7, oL 61 60, oF 62 2 7, oL 63 62, oE 64 63, oN 65 .sub 64 1, oI 66 2 61 65, oA 67 2 66, oT 2 2 67]
def J2x : OL := [oM 69 5, oM 70 8, ⟨some 71, .slc 3 (.t 69) none (some (.t 70)), none⟩, oM 73 5, oM 74 8, oN 75 .add 74 1, ⟨some 76, .msk [68, 72, 77] (.slc 3 (.t 73) (some (.t 75)) none), none⟩, ⟨some 68, .bslice 0 3 42 [I L 0, .bool false, .nils] [], none⟩, ⟨some 72, .appn false [68, 72, 77] 3 40 42 [I L 0, .bool false, .nils] (.t 68) (.t 71), none⟩, ⟨some 77, .appn false [68, 72, 77] 3 40 42 [I L 0, .bool false, .nils] (.t 72) (.t 76), none⟩, ⟨some 5, .frz (.t 77), none⟩]
def J3j : LC := (.seq (.seq (.reg false c27_5) (.cond (.t 22) .skip (.seq (.trim [6]) (.exit 0)))) (.blk 1 (.seq (.reg false c27_6) (.seq (.seq (.reg false c27_7) (.blk 2 (.loop [2, 5, 6, 7, 8, 9, 24, 25, 26] Jx4))) (.seq (.reg false J09) (.seq (.reg false J60) (.reg true J2x)))))))
def c27_24 : OL := [oM 78 6, oM 4 78]
def lc27 : LC := (.seq (.reg false c27_0) (.seq (.seq (.reg false c27_1) (.cond (.t 17) (.seq (.reg false c27_2) .ret) .skip)) (.seq (.reg false c27_3) (.seq (.reg false c27_4) (.seq (.blk 0 (.loop [2, 5, 6] J3j)) (.seq (.reg false c27_24) .ret))))))
def lf27 : LFunc := ⟨2, [.tmp 4], true, lc27⟩
def hi27 : Qt := ⟨[(19, .z), (5, .z), (32, .z), (5, .z)], [none, none, none, none, none, none, none, some [2, 5, 6], none, some [6], none, none, none, some [2, 5, 6, 7, 8, 9, 24, 25, 26], none, some [2, 5, 6, 7, 8], none, none, none, some [2, 5, 6, 7, 8, 9, 10, 24, 25, 26, 32, 33, 34], none, some [2, 5, 6, 7, 8, 9, 24, 25, 26], none, none, none, none, none, none, none, none, none, none, none, none], [(20, [1, 2, 3, 5, 6, 7, 8, 0, 4, 9, 10])], [(20, [68, 72, 77], [76])]⟩
theorem lf27_ok : Qw Tryz.prog hi27 true Tryz.f27 = lf27.o := by kernel_rfl
def c28_0 : OL := [⟨some 4, .box (.t 0), none⟩, ⟨some 5, .box (.t 1), none⟩, ⟨some 6, .box (.t 2), none⟩, ⟨some 7, .box (.t 3), none⟩, ⟨some 8, .mov (.c (.nils)), none⟩]
def c28_1 : OL := [oF 13 14 7, oL 14 13, oF 15 0 7, oL 16 15, oB 17 .quo 14 16, ⟨some 18, .mm true (.c (I L 1)) (.t 17), none⟩, oM 9 18]
def c28_2 : OL := [oA 19 2 5, oA 20 2 6, ⟨some 21, .eqv false true [false, false] (.t 19) (.t 20), none⟩]
def c28_3 : OL := [⟨some 8, .mov (.c (.nils)), none⟩]
def c28_4 : OL := [oA 23 1 4, oA 24 2 5, oA 25 2 6, ⟨some 26, .callz 52 [(.t 23), (.t 24), (.t 25)], none⟩, oM 22 26, ⟨some 27, .ext (.t 22) 0, none⟩, ⟨some 28, .ext (.t 22) 1, none⟩, oM 10 27, oM 11 28]
def c28_5 : OL := [oM 29 11]
def c28_6 : OL := [oM 30 9, oM 31 10, ⟨some 32, .slc 2 (.t 31) (some (.c (I L 1))) none, none⟩, ⟨some 33, .build [I L 0, I L 0, I L 0, I L 0, I L 0, .nils] [(0, 1, (.c (I L 2))), (4, 1, (.t 30)), (5, 1, (.t 32))], none⟩, ⟨some 34, .bslice 1 6 52 [I L 0, I L 0, I L 0, I L 0, I L 0, .nils] [(0, 6, (.t 33))], none⟩, oM 8 34]
def c28_7 : OL := [oM 35 9, oA 36 2 5, oA 37 2 6, ⟨some 38, .callp 53 [(.t 36), (.t 37)], none⟩, ⟨some 39, .slc 2 (.t 38) (some (.c (I L 1))) none, none⟩, ⟨some 40, .build [I L 0, I L 0, I L 0, I L 0, I L 0, .nils] [(0, 1, (.c (I L 2))), (4, 1, (.t 35)), (5, 1, (.t 39))], none⟩, ⟨some 12, .alloc [I L 0, I L 0, I L 0, I L 0, I L 0, .nils], none⟩, oT 6 12 40]
def c28_8 : OL := [oF 41 15 7, oL 42 41, oN 43 .eql 42 0]
def c28_9 : OL := [oA 44 6 12, ⟨some 45, .bslice 1 6 52 [I L 0, I L 0, I L 0, I L 0, I L 0, .nils] [(0, 6, (.t 44))], none⟩, oM 8 45]
def c28_10 : OL := [⟨some 46, .build [I L 0, I L 0, I L 0, I L 0, I L 0, .nils] [(0, 1, (.c (I L 4)))], none⟩, oA 47 6 12, ⟨some 48, .build [I L 0, I L 0, I L 0, I L 0, I L 0, .nils] [(0, 1, (.c (I L 5)))], none⟩, ⟨some 49, .bslice 3 6 52 [I L 0, I L 0, I L 0, I L 0, I L 0, .nils] [(0, 6, (.t 46)), (6, 6, (.t 47)), (12, 6, (.t 48))], none⟩, oM 8 49]
def lc28 : LC := (.seq (.reg false c28_0) (.seq (.reg false c28_1) (.seq (.seq (.reg false c28_2) (.cond (.t 21) (.seq (.reg false c28_3) .ret) .skip)) (.seq (.seq (.reg false c28_4) (.seq (.reg false c28_5) (.cond (.t 29) (.seq (.reg false c28_6) .ret) .skip))) (.seq (.reg false c28_7) (.seq (.seq (.reg false c28_8) (.cond (.t 43) (.seq (.reg false c28_9) .ret) .skip)) (.seq (.reg false c28_10) .ret)))))))
def lf28 : LFunc := ⟨4, [.tmp 8], true, lc28⟩
def hi28 : Qt := ⟨[(26, .z)], [none, none, none, none, none, none, none, none, none, none, none, none, none, none, none, none, none, none], [], []⟩
theorem lf28_ok : Qw Tryz.prog hi28 true Tryz.f28 = lf28.o := by kernel_rfl
def c29_0 : OL := [⟨some 3, .box (.t 1), none⟩, ⟨some 4, .mov (.c (.nils)), none⟩]
def c29_1 : OL := [oA 8 20 3, ⟨some 9, .callp 21 [(.t 8)], none⟩, oU 10 9]
def c29_2 : OL := [⟨some 11, .bslice 0 6 52 [I L 0, I L 0, I L 0, I L 0, I L 0, .nils] [], none⟩, oM 12 0, ⟨some 13, .app 6 64 52 [I L 0, I L 0, I L 0, I L 0, I L 0, .nils] (.t 11) (.t 12), none⟩, oM 4 13]
def c29_3 : OL := [oA 15 20 3, ⟨some 16, .callp 54 [(.t 15)], none⟩, oM 14 16, ⟨some 17, .ext (.t 14) 0, none⟩, ⟨some 18, .ext (.t 14) 1, none⟩, oM 5 17, oM 6 18]
def c29_4 : OL := [oM 19 5, oM 20 6, oB 21 .lss 19 20]
def c29_5 : OL := [oM 22 5, oM 23 6, oB 24 .add 22 23, oN 25 .add 24 1, oN 26 .quo 25 2, oM 7 26]
def c29_6 : OL := [oM 27 0, oM 28 7, oF 31 16 3, oL 32 31, ⟨some 29, .callz 56 [(.t 27), (.t 28)], none⟩, ⟨some 30, .callp 55 [(.t 29)], none⟩, oB 33 .geq 30 32]
def c29_7 : OL := [oM 34 7, oM 5 34]
def c29_8 : OL := [oM 35 7, oN 36 .sub 35 1, oM 6 36]
def J1r : LC := (.seq (.seq (.reg false c29_4) (.cond (.t 21) .skip (.seq (.trim [0, 5]) (.exit 0)))) (.blk 1 (.seq (.reg false c29_5) (.seq (.reg true c29_6) (.cond (.t 33) (.reg false c29_7) (.reg false c29_8))))))
def c29_10 : OL := [oM 37 0, oM 38 5, ⟨some 39, .callz 56 [(.t 37), (.t 38)], none⟩, oM 4 39]
def lc29 : LC := (.seq (.reg false c29_0) (.seq (.seq (.reg false c29_1) (.cond (.t 10) (.seq (.reg false c29_2) .ret) .skip)) (.seq (.reg false c29_3) (.seq (.blk 0 (.loop [0, 3, 5, 6] J1r)) (.seq (.reg false c29_10) .ret)))))
def lf29 : LFunc := ⟨2, [.tmp 4], true, lc29⟩
def hi29 : Qt := ⟨[(29, .z), (39, .z)], [none, none, none, none, none, none, some [0, 3, 5, 6], none, some [0, 5], none, none, none, none, none, none], [(6, [0, 1, 4, 5, 2, 3, 6])], []⟩
theorem lf29_ok : Qw Tryz.prog hi29 true Tryz.f29 = lf29.o := by kernel_rfl
def c30_0 : OL := [⟨some 1, .box (.t 0), none⟩, ⟨some 2, .mov (.c (.bool false)), none⟩]
def c30_1 : OL := [oF 5 0 1, oL 6 5, oN 7 .lss 6 1, oM 8 7, oFg 9 0 1 8 false, oLg 10 9 8 false, oNg 11 .gtr 10 6 8 false, oO 12 8 11]
def c30_2 : OL := [⟨some 2, .mov (.c (.bool false)), none⟩]
def c30_3 : OL := [oF 13 5 1, oL 14 13, oE 15 14, oC 16 0]
def c30_4 : OL := [oB 17 .lss 16 15]
def c30_5 : OL := [oI 18 2 14 16, oA 19 2 18, ⟨some 4, .alloc [I L 0, I L 0], none⟩, oT 2 4 19]
def c30_6 : OL := [oA 20 2 4, ⟨some 21, .callp 16 [(.t 20)], none⟩, oU 22 21]
def c30_7 : OL := [⟨some 2, .mov (.c (.bool false)), none⟩]
def c30_8 : OL := [oN 23 .add 16 1, oM 16 23]
def c30_L0 : LC := (.seq (.reg false c30_4) (.seq (.cond (.t 17) .skip (.seq (.trim []) (.exit 0))) (.seq (.blk 1 (.seq (.reg false c30_5) (.seq (.reg false c30_6) (.cond (.t 22) (.seq (.reg false c30_7) (.seq (.trim [2]) .ret)) .skip)))) (.reg false c30_8))))
def c30_10 : OL := [⟨some 2, .mov (.c (.bool true)), none⟩]
def lc30 : LC := (.seq (.reg false c30_0) (.seq (.seq (.reg false c30_1) (.cond (.t 12) (.seq (.reg false c30_2) .ret) .skip)) (.seq (.seq (.reg false c30_3) (.blk 0 (.loop [14, 15, 16] c30_L0))) (.seq (.reg false c30_10) .ret))))
def lf30 : LFunc := ⟨1, [.tmp 2], true, lc30⟩
def hi30 : Qt := ⟨[], [none, none, none, none, none, none, some [14, 15, 16], none, some [], none, none, none, none, some [2], none, none, none, none], [], []⟩
theorem lf30_ok : Qw Tryz.prog hi30 true Tryz.f30 = lf30.o := by kernel_rfl
def c31_0 : OL := [⟨some 2, .box (.t 0), none⟩, ⟨some 3, .box (.t 1), none⟩, ⟨some 4, .mov (.c (.bool false)), none⟩]
def c31_1 : OL := [oF 6 5 2, oL 7 6, oE 8 7, oN 9 .eql 8 0]
def c31_2 : OL := [⟨some 4, .mov (.c (.bool false)), none⟩]
def c31_3 : OL := [oF 10 0 2, oL 11 10, oN 12 .eql 11 3, oM 13 12, oFg 14 5 2 13 true, oLg 15 14 13 true, ⟨some 16, .iaddr 2 (.t 15) (.c (I L 0)), some (13, true)⟩, oAg 17 2 16 13 true, oAg 18 2 3 13 true, ⟨some 19, .eqv true true [false, false] (.t 17) (.t 18), some (13, true)⟩, oP 20 13 19, oM 21 20, oFg 22 0 2 21 false, oLg 23 22 21 false, oNg 24 .eql 23 2 21 false, oMg 25 24 21 false, oFg 26 5 2 25 true, oLg 27 26 25 true, ⟨some 28, .iaddr 2 (.t 27) (.c (I L 0)), some (25, true)⟩, oAg 29 2 28 25 true, oAg 30 2 3 25 true, ⟨some 31, .callp 57 [(.t 29), (.t 30)], some (25, true)⟩, oUg 32 31 25 true, oPg 33 25 32 21 false, oO 34 21 33]
def c31_4 : OL := [⟨some 4, .mov (.c (.bool false)), none⟩]
def c31_5 : OL := [oC 5 1]
def c31_6 : OL := [oM 35 5, oF 36 5 2, oL 37 36, oE 38 37, oB 39 .lss 35 38]
def c31_7 : OL := [oF 42 5 2, oL 43 42, oM 44 5, oN 45 .sub 44 1, oI 46 2 43 45, oA 47 2 46, oF 48 5 2, oL 49 48, oM 50 5, oI 51 2 49 50, oA 52 2 51, ⟨some 53, .callp 57 [(.t 47), (.t 52)], none⟩, oU 54 53]
def c31_8 : OL := [⟨some 4, .mov (.c (.bool false)), none⟩]
def c31_9 : OL := [oM 40 5, oN 41 .add 40 1, oM 5 41]
def c31_L0 : LC := (.seq (.seq (.reg false c31_6) (.cond (.t 39) .skip (.seq (.trim []) (.exit 0)))) (.seq (.blk 1 (.seq (.reg true c31_7) (.cond (.t 54) (.seq (.reg false c31_8) (.seq (.trim [4]) .ret)) .skip))) (.reg false c31_9)))
def c31_11 : OL := [⟨some 4, .mov (.c (.bool true)), none⟩]
def lc31 : LC := (.seq (.reg false c31_0) (.seq (.seq (.reg false c31_1) (.cond (.t 9) (.seq (.reg false c31_2) .ret) .skip)) (.seq (.seq (.reg true c31_3) (.cond (.t 34) (.seq (.reg false c31_4) .ret) .skip)) (.seq (.seq (.reg false c31_5) (.blk 0 (.loop [2, 5] c31_L0))) (.seq (.reg false c31_11) .ret)))))
def lf31 : LFunc := ⟨2, [.tmp 4], true, lc31⟩
def hi31 : Qt := ⟨[], [none, none, none, none, none, none, none, none, none, none, some [2, 5], none, some [], none, none, none, some [4], none, none, none, none], [], []⟩
theorem lf31_ok : Qw Tryz.prog hi31 true Tryz.f31 = lf31.o := by kernel_rfl
def c32_0 : OL := [⟨some 1, .box (.t 0), none⟩, ⟨some 2, .alloc [.bool false, .bool false, .bool false, .bool false, .bool false, .bool false, .bool false], none⟩]
def c32_1 : OL := [oF 3 0 1, oL 4 3, ⟨some 5, .callp 58 [(.t 4), (.c (I L 32)), (.c (I L 1024))], none⟩, oU 6 5, oM 7 6, oFg 8 1 1 7 false, oLg 9 8 7 false, ⟨some 10, .callp 58 [(.t 9), (.c (I L 4)), (.c (I L 1024))], some (7, false)⟩, oUg 11 10 7 false, oO 12 7 11, oF 13 2 1, oL 14 13, ⟨some 15, .callp 59 [(.t 14), (.c (I L 0)), (.c (I L 8))], none⟩, oU 16 15, oM 17 16, oFg 18 3 1 17 false, oLg 19 18 17 false, ⟨some 20, .callp 59 [(.t 19), (.c (I L 0)), (.c (I L 16))], some (17, false)⟩, oUg 21 20 17 false, oO 22 17 21, oM 23 22, oFg 24 4 1 23 false, oLg 25 24 23 false, ⟨some 26, .callp 59 [(.t 25), (.c (I L 0)), (.c (I L 16))], some (23, false)⟩, oUg 27 26 23 false, oO 28 23 27, oF 29 5 1, oL 30 29, ⟨some 31, .callp 59 [(.t 30), (.c (I L 0)), (.c (I L 3))], none⟩, oU 32 31, oM 33 32, oFg 34 6 1 33 false, oLg 35 34 33 false, ⟨some 36, .callp 59 [(.t 35), (.c (I L 1)), (.c (I L 64))], some (33, false)⟩, oUg 37 36 33 false, oO 38 33 37, oF 39 8 1, oL 40 39, ⟨some 41, .callp 59 [(.t 40), (.c (I L 0)), (.c (I L 64))], none⟩, oU 42 41, oM 43 42, oFg 44 9 1 43 false, oLg 45 44 43 false, ⟨some 46, .callp 59 [(.t 45), (.c (I L 0)), (.c (I L 64))], some (43, false)⟩, oUg 47 46 43 false, oO 48 43 47, oM 49 48, oFg 50 10 1 49 false, oLg 51 50 49 false, ⟨some 52, .callp 59 [(.t 51), (.c (I L 0)), (.c (I L 64))], some (49, false)⟩, oUg 53 52 49 false, oO 54 49 53, oM 55 54, oFg 56 11 1 55 false, oLg 57 56 55 false, ⟨some 58, .callp 59 [(.t 57), (.c (I L 0)), (.c (I L 63))], some (55, false)⟩, oUg 59 58 55 false, oO 60 55 59, oF 61 12 1, oL 62 61, ⟨some 63, .callp 59 [(.t 62), (.c (I L 1)), (.c (I L 1073741824))], none⟩, oU 64 63, oM 65 64, oFg 66 15 1 65 false, oLg 67 66 65 false, ⟨some 68, .callp 59 [(.t 67), (.c (I L 0)), (.c (I L 65536))], some (65, false)⟩, oUg 69 68 65 false, oO 70 65 69, oF 71 13 1, oL 72 71, ⟨some 73, .callp 59 [(.t 72), (.c (I L 1)), (.c (I L 1048576))], none⟩, oU 74 73, oM 75 74, oFg 76 14 1 75 false, oLg 77 76 75 false, ⟨some 78, .callp 59 [(.t 77), (.c (I L 1)), (.c (I L 1048576))], some (75, false)⟩, oUg 79 78 75 false, oO 80 75 79, oM 81 80, oFg 82 16 1 81 false, oLg 83 82 81 false, ⟨some 84, .callp 59 [(.t 83), (.c (I L 0)), (.c (I L 1048576))], some (81, false)⟩, oUg 85 84 81 false, oO 86 81 85, oM 87 86, oFg 88 17 1 87 false, oLg 89 88 87 false, oFg 90 13 1 87 false, oLg 91 90 87 false, ⟨some 92, .callp 59 [(.t 89), (.c (I L 1)), (.t 91)], some (87, false)⟩, oUg 93 92 87 false, oO 94 87 93, oF 95 18 1, oL 96 95, ⟨some 97, .callp 59 [(.t 96), (.c (I L 0)), (.c (I L 400000))], none⟩, oU 98 97, oM 99 98, oFg 100 19 1 99 false, oLg 101 100 99 false, ⟨some 102, .callp 59 [(.t 101), (.c (I L 0)), (.c (I L 400000))], some (99, false)⟩, oUg 103 102 99 false, oO 104 99 103, ⟨some 105, .build [.bool false, .bool false, .bool false, .bool false, .bool false, .bool false, .bool false] [(0, 1, (.t 12)), (1, 1, (.t 28)), (2, 1, (.t 38)), (3, 1, (.t 60)), (4, 1, (.t 70)), (5, 1, (.t 94)), (6, 1, (.t 104))], none⟩, oT 7 2 105]
def lc32 : LC := (.seq (.reg false c32_0) (.seq (.reg true c32_1) .ret))
def lf32 : LFunc := ⟨1, [.cell 2 true 7], true, lc32⟩
def hi32 : Qt := ⟨[], [none, none, none], [], []⟩
theorem lf32_ok : Qw Tryz.prog hi32 true Tryz.f32 = lf32.o := by kernel_rfl
def c33_0 : OL := [⟨some 2, .mov (.c (.bool false)), none⟩]
def c33_1 : OL := [oM 3 0, oN 4 .geq 3 (-4096), oM 5 4, oMg 6 0 5 true, oNg 7 .lss 6 4096 5 true, oP 8 5 7, oM 2 8]
def lc33 : LC := (.seq (.reg false c33_0) (.seq (.reg false c33_1) .ret))
def lf33 : LFunc := ⟨1, [.tmp 2], true, lc33⟩
def hi33 : Qt := ⟨[], [none, none, none], [], []⟩
theorem lf33_ok : Qw Tryz.prog hi33 true Tryz.f33 = lf33.o := by kernel_rfl
def c34_0 : OL := [⟨some 2, .mov (.c (.bool false)), none⟩]
def c34_1 : OL := [oM 5 0, oE 6 5, oC 7 0]
def c34_2 : OL := [oB 8 .lss 7 6]
def c34_3 : OL := [oM 9 7, oI 10 2 5 7, oA 11 2 10, ⟨some 4, .alloc [I L 0, I L 0], none⟩, oM 3 9, oT 2 4 11]
def c34_4 : OL := [oF 12 0 4, oL 13 12, oF 14 1 4, oL 15 14, oB 16 .geq 13 15, oM 17 16, oAg 18 2 4 17 false, ⟨some 19, .callp 60 [(.t 18)], some (17, false)⟩, oUg 20 19 17 false, oO 21 17 20, oM 22 21, oMg 23 3 22 false, oNg 24 .gtr 23 0 22 false, oMg 25 24 22 false, oFg 26 0 4 25 true, oLg 27 26 25 true, oMg 28 0 25 true, oMg 29 3 25 true, oNg 30 .sub 29 1 25 true, oIg 31 2 28 30 25 true, oFg 32 1 31 25 true, oLg 33 32 25 true, oBg 34 .leq 27 33 25 true, oPg 35 25 34 22 false, oO 36 22 35]
def c34_5 : OL := [⟨some 2, .mov (.c (.bool false)), none⟩]
def c34_6 : OL := [oN 37 .add 7 1, oM 7 37]
def J4z : LC := (.seq (.reg false c34_2) (.seq (.cond (.t 8) .skip (.seq (.trim []) (.exit 0))) (.seq (.blk 1 (.seq (.reg false c34_3) (.seq (.reg true c34_4) (.cond (.t 36) (.seq (.reg false c34_5) (.seq (.trim [2]) .ret)) .skip)))) (.reg false c34_6))))
def c34_8 : OL := [⟨some 2, .mov (.c (.bool true)), none⟩]
def lc34 : LC := (.seq (.reg false c34_0) (.seq (.seq (.reg false c34_1) (.blk 0 (.loop [0, 5, 6, 7] J4z))) (.seq (.reg false c34_8) .ret)))
def lf34 : LFunc := ⟨1, [.tmp 2], true, lc34⟩
def hi34 : Qt := ⟨[], [none, none, some [0, 5, 6, 7], none, some [], none, none, none, none, some [2], none, none, none, none], [], []⟩
theorem lf34_ok : Qw Tryz.prog hi34 true Tryz.f34 = lf34.o := by kernel_rfl
def c35_0 : OL := [⟨some 1, .box (.t 0), none⟩, ⟨some 2, .mov (.c (.bool false)), none⟩]
def c35_1 : OL := [oF 3 0 1, oL 4 3, oN 5 .geq 4 (-4096), oM 6 5, oFg 7 0 1 6 true, oLg 8 7 6 true, oNg 9 .lss 8 4096 6 true, oP 10 6 9, oM 11 10, oFg 12 1 1 11 true, oLg 13 12 11 true, oNg 14 .geq 13 (-4096) 11 true, oP 15 11 14, oM 16 15, oFg 17 1 1 16 true, oLg 18 17 16 true, oNg 19 .lss 18 4096 16 true, oP 20 16 19, oM 2 20]
def lc35 : LC := (.seq (.reg false c35_0) (.seq (.reg false c35_1) .ret))
def lf35 : LFunc := ⟨1, [.tmp 2], true, lc35⟩
def hi35 : Qt := ⟨[], [none, none, none], [], []⟩
theorem lf35_ok : Qw Tryz.prog hi35 true Tryz.f35 = lf35.o := by kernel_rfl
def c36_0 : OL := [⟨some 2, .box (.t 0), none⟩, ⟨some 3, .box (.t 1), none⟩, ⟨some 4, .mov (.c (.bool false)), none⟩]
def c36_1 : OL := [oF 7 0 2, oL 8 7, oF 9 0 3, oL 10 9, oB 11 .sub 8 10, oF 12 1 2, oL 13 12, oF 14 1 3, oL 15 14, oB 16 .sub 13 15, oM 5 11, oM 6 16]
def c36_2 : OL := [oM 17 5, oM 18 5, oB 19 .mul 17 18, oM 20 6, oM 21 6, oB 22 .mul 20 21, oB 23 .add 19 22, oN 24 .eql 23 1, oM 4 24]
def lc36 : LC := (.seq (.reg false c36_0) (.seq (.reg true c36_1) (.seq (.reg false c36_2) .ret)))
def lf36 : LFunc := ⟨2, [.tmp 4], true, lc36⟩
def hi36 : Qt := ⟨[], [none, none, none, none], [], []⟩
theorem lf36_ok : Qw Tryz.prog hi36 true Tryz.f36 = lf36.o := by kernel_rfl
def c37_0 : OL := [⟨some 3, .box (.t 0), none⟩, ⟨some 6, .mov (.c (.nils)), none⟩]
def c37_1 : OL := [oA 15 2 3, ⟨some 16, .callp 61 [(.t 15)], none⟩, oU 17 16]
def c37_2 : OL := [⟨some 6, .mov (.c (.nils)), none⟩]
def c37_3 : OL := [oM 18 1, ⟨some 19, .callr 62 [(.t 18)], none⟩, oM 7 19]
def c37_4 : OL := [oM 20 2, ⟨some 21, .mm false (.t 20) (.c (I L 64)), none⟩, oM 8 21]
def c37_5 : OL := [oM 22 8, oN 23 .gtr 22 0]
def c37_6 : OL := [oA 27 2 3, oM 28 7, ⟨some 29, .callr 63 [(.t 27), (.t 28)], none⟩, ⟨some 30, .callp 64 [(.t 29)], none⟩, oM 26 30, ⟨some 31, .ext (.t 26) 0, none⟩, ⟨some 32, .ext (.t 26) 1, none⟩, ⟨some 33, .ext (.t 26) 2, none⟩, oM 9 31, oM 10 32, oM 11 33]
def c37_7 : OL := [oM 34 11, oU 35 34]
def c37_8 : OL := [oM 36 9, oM 37 10, oM 12 36, oM 13 37]
def c37_9 : OL := [oM 38 12, oM 39 13, oB 40 .lss 38 39]
def J86 : OL := [oM 45 7, oM 46 12, oM 47 7, oM 48 13, oM 49 7, oM 50 13, oI 51 3 49 50, oA 52 3 51, oM 53 7, oM 54 12, oI 55 3 53 54, oA 56 3 55, oI 57 3 45 46, oT 3 57 52, oI 58 3 47 48, oT 3 58 56]
def J9t : OL := [oM 41 12, oN 42 .add 41 1, oM 43 13, oN 44 .sub 43 1, oM 12 42, oM 13 44]
def Jwy : LC := (.seq (.seq (.reg false c37_9) (.cond (.t 40) .skip (.seq (.trim [3, 7, 8, 9, 10]) (.exit 2)))) (.seq (.blk 3 (.reg true J86)) (.reg false J9t)))
def J19 : OL := [oM 59 9, oM 14 59]
def J52 : OL := [oM 60 14, oM 61 10, oB 62 .leq 60 61]
def J01 : OL := [oM 65 7, oM 66 14, oI 67 3 65 66, oF 68 1 67, oL 69 68, oU 70 69]
def J6e : OL := [oM 71 7, oM 72 14, oM 73 7, oM 74 14, oI 75 3 73 74, oA 76 3 75, ⟨some 77, .callp 65 [(.t 76)], none⟩, oI 78 3 71 72, oT 3 78 77]
def J3g : OL := [oM 63 14, oN 64 .add 63 1, oM 14 64]
def Jxw : LC := (.seq (.seq (.reg false J52) (.cond (.t 62) .skip (.seq (.trim [3, 7, 8]) (.exit 4)))) (.seq (.blk 5 (.seq (.reg false J01) (.cond (.t 70) (.reg false J6e) .skip))) (.reg false J3g)))
def J5n : OL := [oM 24 8, oN 25 .sub 24 1, oM 8 25]
def J46 : LC := (.seq (.seq (.reg false c37_5) (.cond (.t 23) .skip (.seq (.trim [7]) (.exit 0)))) (.seq (.blk 1 (.seq (.reg false c37_6) (.seq (.seq (.reg false c37_7) (.cond (.t 35) (.seq (.trim [7]) (.exit 0)) .skip)) (.seq (.seq (.reg false c37_8) (.blk 2 (.loop [3, 7, 8, 9, 10, 12, 13] Jwy))) (.seq (.reg false J19) (.blk 4 (.loop [3, 7, 8, 10, 14] Jxw))))))) (.reg false J5n)))
def c37_21 : OL := [oM 79 7, oM 6 79]
def lc37 : LC := (.seq (.reg false c37_0) (.seq (.seq (.reg false c37_1) (.cond (.t 17) (.seq (.reg false c37_2) .ret) .skip)) (.seq (.reg false c37_3) (.seq (.seq (.reg false c37_4) (.blk 0 (.loop [3, 7, 8] J46))) (.seq (.reg false c37_21) .ret)))))
def lf37 : LFunc := ⟨3, [.tmp 6], true, lc37⟩
def hi37 : Qt := ⟨[(19, .r), (29, .r)], [none, none, none, none, none, none, none, some [3, 7, 8], none, some [7], none, none, none, some [7], none, none, some [3, 7, 8, 9, 10, 12, 13], none, some [3, 7, 8, 9, 10], none, none, none, none, some [3, 7, 8, 10, 14], none, some [3, 7, 8], none, none, none, none, none, none, none], [], []⟩
theorem lf37_ok : Qw Tryz.prog hi37 true Tryz.f37 = lf37.o := by kernel_rfl
def c38_0 : OL := [⟨some 2, .box (.t 0), none⟩, ⟨some 4, .mov (.c (.nils)), none⟩]
def c38_1 : OL := [oA 15 2 2, ⟨some 16, .callp 61 [(.t 15)], none⟩, oU 17 16]
def c38_2 : OL := [⟨some 4, .mov (.c (.nils)), none⟩]
def c38_3 : OL := [oM 18 1, ⟨some 19, .callr 62 [(.t 18)], none⟩, oM 5 19]
def c38_4 : OL := [⟨some 6, .mov (.c (.nils)), none⟩]
def c38_5 : OL := [oM 20 5, oE 21 20, oN 22 .gtr 21 0]
def c38_6 : OL := [oC 7 0, oC 8 0, oC 9 (-1)]
def c38_7 : OL := [oM 23 5, oE 24 23, oC 25 0]
def c38_8 : OL := [oB 26 .lss 25 24]
def c38_9 : OL := [oM 27 25, oI 28 3 23 25, oA 29 3 28, ⟨some 11, .alloc [I L 0, .bool false, .nils], none⟩, oM 10 27, oT 3 11 29]
def J42 : OL := [oA 31 2 2, oA 32 3 11, ⟨some 33, .callp 66 [(.t 31), (.t 32)], none⟩, oM 30 33, ⟨some 34, .ext (.t 30) 0, none⟩, ⟨some 35, .ext (.t 30) 1, none⟩, oM 12 34, oM 13 35]
def J1m : OL := [oM 36 9, oN 37 .lss 36 0, oM 38 37, oMg 39 13 38 false, oMg 40 9 38 false, oBg 41 .lss 39 40 38 false, oO 42 38 41]
def J3p : OL := [oM 43 10, oM 44 12, oM 45 13, oM 7 43, oM 8 44, oM 9 45]
def J5k : OL := [oN 46 .add 25 1, oM 25 46]
def Jw2 : LC := (.seq (.reg false c38_8) (.seq (.cond (.t 26) .skip (.seq (.trim [2, 5, 6, 7, 8]) (.exit 2))) (.seq (.blk 3 (.seq (.reg false c38_9) (.seq (.reg false J42) (.seq (.reg false J1m) (.cond (.t 42) (.reg false J3p) .skip))))) (.reg false J5k))))
def J6g : OL := [oM 47 5, oM 48 7, oI 49 3 47 48, oA 50 3 49, oM 51 8, ⟨some 52, .callz 67 [(.t 50), (.t 51)], none⟩, ⟨some 14, .alloc [I L 0, .bool false, .nils], none⟩, oT 3 14 52]
def J8i : OL := [oM 53 5, oM 54 7, ⟨some 55, .slc 3 (.t 53) none (some (.t 54)), none⟩, oM 56 5, oM 57 7, oN 58 .add 57 1, ⟨some 59, .slc 3 (.t 56) (some (.t 58)) none, none⟩, ⟨some 60, .app 3 40 42 [I L 0, .bool false, .nils] (.t 55) (.t 59), none⟩, oM 5 60]
def J39 : OL := [oM 61 6, oA 62 3 14, ⟨some 63, .bslice 1 3 42 [I L 0, .bool false, .nils] [(0, 3, (.t 62))], none⟩, ⟨some 64, .app 3 40 42 [I L 0, .bool false, .nils] (.t 61) (.t 63), none⟩, oM 6 64]
def J56 : OL := [oA 65 3 14, ⟨some 66, .callp 68 [(.t 65)], none⟩, ⟨some 67, .idx 2 2 true (.t 66) (.c (I L 1)), none⟩, oT 2 2 67]
def J1v : LC := (.seq (.seq (.reg false c38_5) (.cond (.t 22) .skip (.seq (.trim [6]) (.exit 0)))) (.blk 1 (.seq (.reg false c38_6) (.seq (.seq (.reg false c38_7) (.blk 2 (.loop [2, 5, 6, 7, 8, 9, 23, 24, 25] Jw2))) (.seq (.reg false J6g) (.seq (.reg true J8i) (.seq (.reg false J39) (.reg false J56))))))))
def c38_20 : OL := [oM 68 6, oM 4 68]
def lc38 : LC := (.seq (.reg false c38_0) (.seq (.seq (.reg false c38_1) (.cond (.t 17) (.seq (.reg false c38_2) .ret) .skip)) (.seq (.reg false c38_3) (.seq (.reg false c38_4) (.seq (.blk 0 (.loop [2, 5, 6] J1v)) (.seq (.reg false c38_20) .ret))))))
def lf38 : LFunc := ⟨2, [.tmp 4], true, lc38⟩
def hi38 : Qt := ⟨[(19, .r), (52, .z)], [none, none, none, none, none, none, none, some [2, 5, 6], none, some [6], none, none, none, some [2, 5, 6, 7, 8, 9, 23, 24, 25], none, some [2, 5, 6, 7, 8], none, none, none, none, none, none, none, none, none, none, none, none], [], []⟩
theorem lf38_ok : Qw Tryz.prog hi38 true Tryz.f38 = lf38.o := by kernel_rfl
def c39_0 : OL := [⟨some 3, .box (.t 1), none⟩]
def c39_1 : OL := [oM 4 0, oF 5 2 3, oL 6 5, ⟨some 7, .iaddr 2 (.t 6) (.c (I L 0)), none⟩, oA 8 2 7, ⟨some 9, .callr 69 [(.t 4), (.t 8)], none⟩]
def c39_2 : OL := [oM 10 0, ⟨some 11, .msk [22, 25] (.nilck (.t 10)), none⟩, ⟨some 12, .msk [22, 25] (.faddr 0 (.t 11)), none⟩, ⟨some 13, .msk [22, 25] (.faddr 0 (.t 3)), none⟩, ⟨some 14, .msk [22, 25] (.load false 1 (.t 13)), none⟩, oM 15 0, oM 16 0, ⟨some 17, .nilck (.t 16), none⟩, oF 18 2 17, oF 19 13 18, oL 20 19, ⟨some 21, .callq 70 [(.t 15), (.t 20)], none⟩, oF 23 2 3, oL 24 23, ⟨some 22, .bslice 0 2 27 [I L 0, I L 0] [], none⟩, ⟨some 25, .appn true [22, 25] 2 16 27 [I L 0, I L 0] (.t 22) (.t 24), none⟩, ⟨some 26, .build [I L 0, I L 0, I L 0, I L 0, I L 0, .nils] [(0, 1, (.c (I L 3))), (1, 1, (.t 14)), (4, 1, (.t 21)), (5, 1, (.t 25))], none⟩, ⟨some 27, .callr 18 [(.t 12), (.t 26)], none⟩]
def c39_3 : OL := [oM 28 0, oF 29 2 3, oL 30 29, oF 31 2 3, oL 32 31, oE 33 32, oN 34 .sub 33 1, oI 35 2 30 34, oA 36 2 35, ⟨some 37, .nilck (.t 28), none⟩, oF 38 22 37, oT 2 38 36]
def lc39 : LC := (.seq (.reg false c39_0) (.seq (.reg false c39_1) (.seq (.reg true c39_2) (.reg false c39_3))))
def lf39 : LFunc := ⟨2, [], false, lc39⟩
def hi39 : Qt := ⟨[(9, .r), (21, .q), (25, .z), (27, .r)], [none, none, none], [(2, [0, 1, 2, 3, 4, 5, 6, 7, 8, 9, 10, 11, 13, 14, 12, 15, 16, 17])], [(2, [22, 25], [11, 12, 13, 14])]⟩
theorem lf39_ok : Qw Tryz.prog hi39 false Tryz.f39 = lf39.o := by kernel_rfl
def c40_0 : OL := [⟨some 2, .mov (.c (.nils)), none⟩]
def c40_1 : OL := [oM 5 0, ⟨some 6, .callr 71 [(.t 5)], none⟩, oM 3 6]
def c40_2 : OL := [oM 7 3, oE 8 7, oC 9 0]
def c40_3 : OL := [oB 10 .lss 9 8]
def c40_4 : OL := [oM 11 9, oM 4 11]
def c40_5 : OL := [oM 12 3, oM 13 4, oM 14 3, oM 15 4, oI 16 6 14 15, oF 17 5 16, oL 18 17, ⟨some 19, .callz 72 [(.t 18)], none⟩, oI 20 6 12 13, oF 21 5 20, oT 1 21 19]
def c40_6 : OL := [oN 22 .add 9 1, oM 9 22]
def J8w : LC := (.seq (.reg false c40_3) (.seq (.cond (.t 10) .skip (.seq (.trim [3]) (.exit 0))) (.seq (.blk 1 (.seq (.reg false c40_4) (.reg false c40_5))) (.reg false c40_6))))
def c40_8 : OL := [oM 23 3, oM 2 23]
def lc40 : LC := (.seq (.reg false c40_0) (.seq (.reg false c40_1) (.seq (.seq (.reg false c40_2) (.blk 0 (.loop [3, 8, 9] J8w))) (.seq (.reg false c40_8) .ret))))
def lf40 : LFunc := ⟨1, [.tmp 2], true, lc40⟩
def hi40 : Qt := ⟨[(6, .r), (19, .z)], [none, none, none, some [3, 8, 9], none, some [3], none, none, none, none, none, none], [], []⟩
theorem lf40_ok : Qw Tryz.prog hi40 true Tryz.f40 = lf40.o := by kernel_rfl
def c41_0 : OL := [⟨some 4, .mov (.c (.bool false)), none⟩]
def c41_1 : OL := [oL 5 1, oM 6 0, oF 9 16 2, oL 10 9, ⟨some 7, .callz 43 [(.t 5), (.t 6)], none⟩, ⟨some 8, .callp 42 [(.t 7)], none⟩, oB 11 .geq 8 10, oM 4 11]
def lc41 : LC := (.seq (.reg false c41_0) (.seq (.reg true c41_1) .ret))
def lf41 : LFunc := ⟨3, [.tmp 4], true, lc41⟩
def hi41 : Qt := ⟨[(7, .z)], [none, none, none], [(1, [0, 1, 4, 5, 2, 3, 6, 7])], []⟩
theorem lf41_ok : Qw Tryz.prog hi41 true Tryz.f41 = lf41.o := by kernel_rfl
def c42_0 : OL := [oC 2 0]
def c42_1 : OL := [oC 3 0]
def c42_2 : OL := [oM 6 0, oE 7 6, oC 8 0]
def c42_3 : OL := [oB 9 .lss 8 7]
def c42_4 : OL := [oI 10 6 6 8, oA 11 6 10, ⟨some 5, .alloc [I L 0, I L 0, I L 0, I L 0, I L 0, .nils], none⟩, oT 6 5 11]
def c42_5 : OL := [oM 12 3, oA 13 6 5, ⟨some 14, .callp 73 [(.t 13)], none⟩, oB 15 .add 12 14, oM 3 15]
def c42_6 : OL := [oN 16 .add 8 1, oM 8 16]
def J3a : LC := (.seq (.reg false c42_3) (.seq (.cond (.t 9) .skip (.seq (.trim [3]) (.exit 0))) (.seq (.blk 1 (.seq (.reg false c42_4) (.reg false c42_5))) (.reg false c42_6))))
def c42_8 : OL := [oM 17 3, oM 2 17]
def lc42 : LC := (.seq (.reg false c42_0) (.seq (.reg false c42_1) (.seq (.seq (.reg false c42_2) (.blk 0 (.loop [3, 6, 7, 8] J3a))) (.seq (.reg false c42_8) .ret))))
def lf42 : LFunc := ⟨1, [.tmp 2], true, lc42⟩
def hi42 : Qt := ⟨[], [none, none, none, some [3, 6, 7, 8], none, some [3], none, none, none, none, none, none], [], []⟩
theorem lf42_ok : Qw Tryz.prog hi42 true Tryz.f42 = lf42.o := by kernel_rfl
def c43_0 : OL := [⟨some 4, .mov (.c (.nils)), none⟩]
def c43_1 : OL := [oM 8 0, ⟨some 9, .callr 71 [(.t 8)], none⟩, oM 5 9]
def c43_2 : OL := [oM 10 5, oE 11 10, oC 12 0]
def c43_3 : OL := [oB 13 .lss 12 11]
def c43_4 : OL := [oM 14 12, oI 15 6 10 12, oA 16 6 15, ⟨some 7, .alloc [I L 0, I L 0, I L 0, I L 0, I L 0, .nils], none⟩, oM 6 14, oT 6 7 16]
def c43_5 : OL := [oF 17 0 7, oL 18 17, oN 19 .eql 18 3]
def c43_6 : OL := [oM 20 5, oM 21 6, oF 22 4 7, oL 23 22, oM 24 1, ⟨some 25, .mm false (.t 23) (.t 24), none⟩, oI 26 6 20 21, oF 27 4 26, oT 1 27 25]
def c43_7 : OL := [oN 28 .add 12 1, oM 12 28]
def J4j : LC := (.seq (.reg false c43_3) (.seq (.cond (.t 13) .skip (.seq (.trim [5]) (.exit 0))) (.seq (.blk 1 (.seq (.reg false c43_4) (.seq (.reg false c43_5) (.cond (.t 19) (.reg false c43_6) .skip)))) (.reg false c43_7))))
def c43_9 : OL := [oM 29 5, oM 4 29]
def lc43 : LC := (.seq (.reg false c43_0) (.seq (.reg false c43_1) (.seq (.seq (.reg false c43_2) (.blk 0 (.loop [1, 5, 10, 11, 12] J4j))) (.seq (.reg false c43_9) .ret))))
def lf43 : LFunc := ⟨2, [.tmp 4], true, lc43⟩
def hi43 : Qt := ⟨[(9, .r)], [none, none, none, some [1, 5, 10, 11, 12], none, some [5], none, none, none, none, none, none, none], [], []⟩
theorem lf43_ok : Qw Tryz.prog hi43 true Tryz.f43 = lf43.o := by kernel_rfl
def c44_0 : OL := [⟨some 6, .mov (.c (.bool false)), none⟩]
def c44_1 : OL := [oM 7 0, oM 8 1, oB 9 .geq 7 8, oM 10 9, oMg 11 0 10 true, oMg 12 2 10 true, oBg 13 .leq 11 12 10 true, oP 14 10 13, oM 6 14]
def lc44 : LC := (.seq (.reg false c44_0) (.seq (.reg false c44_1) .ret))
def lf44 : LFunc := ⟨3, [.tmp 6], true, lc44⟩
def hi44 : Qt := ⟨[], [none, none, none], [], []⟩
theorem lf44_ok : Qw Tryz.prog hi44 true Tryz.f44 = lf44.o := by kernel_rfl
def c45_0 : OL := [⟨some 2, .mov (.c (.bool false)), none⟩]
def c45_1 : OL := [oC 3 0]
def c45_2 : OL := [oM 4 3, oM 5 0, oE 6 5, oB 7 .lss 4 6]
def c45_3 : OL := [oM 10 0, oM 11 3, oI 12 2 10 11, oF 13 0 12, oL 14 13, oN 15 .lss 14 (-4096), oM 16 15, oMg 17 0 16 false, oMg 18 3 16 false, oIg 19 2 17 18 16 false, oFg 20 0 19 16 false, oLg 21 20 16 false, oMg 22 0 16 false, oMg 23 3 16 false, oIg 24 2 22 23 16 false, oFg 25 1 24 16 false, oLg 26 25 16 false, oBg 27 .geq 21 26 16 false, oO 28 16 27, oM 29 28, oMg 30 0 29 false, oMg 31 3 29 false, oIg 32 2 30 31 29 false, oFg 33 1 32 29 false, oLg 34 33 29 false, oNg 35 .gtr 34 4096 29 false, oO 36 29 35, oM 37 36, oMg 38 3 37 false, oNg 39 .gtr 38 0 37 false, oMg 40 39 37 false, oMg 41 0 40 true, oMg 42 3 40 true, oIg 43 2 41 42 40 true, oFg 44 0 43 40 true, oLg 45 44 40 true, oMg 46 0 40 true, oMg 47 3 40 true, oNg 48 .sub 47 1 40 true, oIg 49 2 46 48 40 true, oFg 50 1 49 40 true, oLg 51 50 40 true, oBg 52 .leq 45 51 40 true, oPg 53 40 52 37 false, oO 54 37 53]
def c45_4 : OL := [⟨some 2, .mov (.c (.bool false)), none⟩]
def c45_5 : OL := [oM 8 3, oN 9 .add 8 1, oM 3 9]
def J1s : LC := (.seq (.seq (.reg false c45_2) (.cond (.t 7) .skip (.seq (.trim [0]) (.exit 0)))) (.seq (.blk 1 (.seq (.reg true c45_3) (.cond (.t 54) (.seq (.reg false c45_4) (.seq (.trim [2]) .ret)) .skip))) (.reg false c45_5)))
def c45_7 : OL := [oM 55 0, oE 56 55, oN 57 .gtr 56 0, oM 2 57]
def lc45 : LC := (.seq (.reg false c45_0) (.seq (.seq (.reg false c45_1) (.blk 0 (.loop [0, 3] J1s))) (.seq (.reg false c45_7) .ret)))
def lf45 : LFunc := ⟨1, [.tmp 2], true, lc45⟩
def hi45 : Qt := ⟨[], [none, none, some [0, 3], none, some [0], none, none, none, some [2], none, none, none, none], [], []⟩
theorem lf45_ok : Qw Tryz.prog hi45 true Tryz.f45 = lf45.o := by kernel_rfl
def c46_0 : OL := [⟨some 1, .box (.t 0), none⟩, ⟨some 2, .mov (.c (.bool false)), none⟩]
def c46_1 : OL := [oF 3 0 1, oL 4 3, oN 5 .geq 4 (-4096), oM 6 5, oFg 7 0 1 6 true, oLg 8 7 6 true, oNg 9 .lss 8 4096 6 true, oP 10 6 9, oM 11 10, oFg 12 1 1 11 true, oLg 13 12 11 true, oNg 14 .geq 13 (-4096) 11 true, oP 15 11 14, oM 16 15, oFg 17 1 1 16 true, oLg 18 17 16 true, oNg 19 .lss 18 4096 16 true, oP 20 16 19, oM 2 20]
def lc46 : LC := (.seq (.reg false c46_0) (.seq (.reg false c46_1) .ret))
def lf46 : LFunc := ⟨1, [.tmp 2], true, lc46⟩
def hi46 : Qt := ⟨[], [none, none, none], [], []⟩
theorem lf46_ok : Qw Tryz.prog hi46 true Tryz.f46 = lf46.o := by kernel_rfl
def c47_0 : OL := [⟨some 2, .box (.t 0), none⟩, ⟨some 3, .box (.t 1), none⟩, ⟨some 4, .mov (.c (.bool false)), none⟩]
def c47_1 : OL := [oF 5 0 2, oL 6 5, oF 7 0 3, oL 8 7, oB 9 .sub 6 8, ⟨some 10, .callp 74 [(.t 9)], none⟩, oF 11 1 2, oL 12 11, oF 13 1 3, oL 14 13, oB 15 .sub 12 14, ⟨some 16, .callp 74 [(.t 15)], none⟩, oB 17 .add 10 16, oN 18 .eql 17 1, oM 4 18]
def lc47 : LC := (.seq (.reg false c47_0) (.seq (.reg true c47_1) .ret))
def lf47 : LFunc := ⟨2, [.tmp 4], true, lc47⟩
def hi47 : Qt := ⟨[], [none, none, none], [], []⟩
theorem lf47_ok : Qw Tryz.prog hi47 true Tryz.f47 = lf47.o := by kernel_rfl
def c48_0 : OL := [⟨some 2, .mov (.c (.nils)), none⟩]
def c48_1 : OL := [⟨some 3, .mov (.c (.nils)), none⟩]
def c48_2 : OL := [oM 6 0, oE 7 6, oC 8 0]
def c48_3 : OL := [oB 9 .lss 8 7]
def c48_4 : OL := [oI 10 3 6 8, oA 11 3 10, ⟨some 5, .alloc [I L 0, .bool false, .nils], none⟩, oT 3 5 11]
def c48_5 : OL := [oA 12 3 5, ⟨some 13, .callp 24 [(.t 12)], none⟩]
def c48_6 : OL := [oM 14 3, oA 15 3 5, ⟨some 16, .bslice 1 3 42 [I L 0, .bool false, .nils] [(0, 3, (.t 15))], none⟩, ⟨some 17, .app 3 40 42 [I L 0, .bool false, .nils] (.t 14) (.t 16), none⟩, oM 3 17]
def c48_7 : OL := [oN 18 .add 8 1, oM 8 18]
def J5g : LC := (.seq (.reg false c48_3) (.seq (.cond (.t 9) .skip (.seq (.trim [3]) (.exit 0))) (.seq (.blk 1 (.seq (.reg false c48_4) (.seq (.reg false c48_5) (.cond (.t 13) (.reg false c48_6) .skip)))) (.reg false c48_7))))
def c48_9 : OL := [oM 19 3, oM 2 19]
def lc48 : LC := (.seq (.reg false c48_0) (.seq (.reg false c48_1) (.seq (.seq (.reg false c48_2) (.blk 0 (.loop [3, 6, 7, 8] J5g))) (.seq (.reg false c48_9) .ret))))
def lf48 : LFunc := ⟨1, [.tmp 2], true, lc48⟩
def hi48 : Qt := ⟨[], [none, none, none, some [3, 6, 7, 8], none, some [3], none, none, none, none, none, none, none], [], []⟩
theorem lf48_ok : Qw Tryz.prog hi48 true Tryz.f48 = lf48.o := by kernel_rfl
def c49_0 : OL := [⟨some 2, .box (.t 0), none⟩, ⟨some 4, .mov (.c (.nils)), none⟩, ⟨some 5, .mov (.c (.bool false)), none⟩]
def c49_1 : OL := [oA 10 2 2, oM 11 1, ⟨some 12, .callp 75 [(.t 10), (.t 11)], none⟩, oM 6 12]
def c49_2 : OL := [oM 13 1, oE 14 13, oC 15 0]
def c49_3 : OL := [oB 16 .lss 15 14]
def c49_4 : OL := [oM 17 15, oM 7 17]
def c49_5 : OL := [oM 18 7, oM 8 18]
def c49_6 : OL := [oM 19 8, oM 20 1, oE 21 20, oB 22 .lss 19 21]
def c49_7 : OL := [oM 25 1, oM 26 7, oM 27 8, ⟨some 28, .callz 76 [(.t 25), (.t 26), (.t 27)], none⟩, oM 9 28]
def c49_8 : OL := [oA 29 2 2, oM 30 9, ⟨some 31, .callp 75 [(.t 29), (.t 30)], none⟩, oM 32 6, oB 33 .lss 31 32]
def c49_9 : OL := [oM 34 9, oM 4 34, ⟨some 5, .mov (.c (.bool true)), none⟩]
def J4h : OL := [oM 23 8, oN 24 .add 23 1, oM 8 24]
def Jwo : LC := (.seq (.seq (.reg false c49_6) (.cond (.t 22) .skip (.seq (.trim [1, 2, 6, 14, 15]) (.exit 2)))) (.seq (.blk 3 (.seq (.reg false c49_7) (.seq (.reg false c49_8) (.cond (.t 33) (.seq (.reg false c49_9) (.seq (.trim [4, 5]) .ret)) .skip)))) (.reg false J4h)))
def J5z : OL := [oN 35 .add 15 1, oM 15 35]
def J9g : LC := (.seq (.reg false c49_3) (.seq (.cond (.t 16) .skip (.seq (.trim [1]) (.exit 0))) (.seq (.blk 1 (.seq (.reg false c49_4) (.seq (.reg false c49_5) (.blk 2 (.loop [1, 2, 6, 7, 8, 14, 15] Jwo))))) (.reg false J5z))))
def c49_14 : OL := [oM 36 1, oM 4 36, ⟨some 5, .mov (.c (.bool false)), none⟩]
def lc49 : LC := (.seq (.reg false c49_0) (.seq (.reg false c49_1) (.seq (.seq (.reg false c49_2) (.blk 0 (.loop [1, 2, 6, 14, 15] J9g))) (.seq (.reg false c49_14) .ret))))
def lf49 : LFunc := ⟨2, [.tmp 4, .tmp 5], true, lc49⟩
def hi49 : Qt := ⟨[(28, .z)], [none, none, none, some [1, 2, 6, 14, 15], none, some [1], none, none, none, some [1, 2, 6, 7, 8, 14, 15], none, some [1, 2, 6, 14, 15], none, none, none, none, some [4, 5], none, none, none, none, none], [], []⟩
theorem lf49_ok : Qw Tryz.prog hi49 true Tryz.f49 = lf49.o := by kernel_rfl
def c50_0 : OL := [⟨some 1, .box (.t 0), none⟩, ⟨some 2, .mov (.c (.nils)), none⟩]
def c50_1 : OL := [oF 5 1 1, oL 6 5, oU 7 6]
def c50_2 : OL := [oA 8 3 1, oA 9 3 1, ⟨some 10, .callz 77 [(.t 9)], none⟩, ⟨some 11, .bslice 2 3 42 [I L 0, .bool false, .nils] [(0, 3, (.t 8)), (3, 3, (.t 10))], none⟩, oM 2 11]
def c50_3 : OL := [⟨some 3, .mov (.c (.nils)), none⟩]
def c50_4 : OL := [oF 12 2 1, oL 13 12, oE 14 13, oC 15 0]
def c50_5 : OL := [oB 16 .lss 15 14]
def c50_6 : OL := [oM 17 15, oM 4 17]
def c50_7 : OL := [oM 18 3, oA 19 3 1, oM 20 4, ⟨some 21, .callz 78 [(.t 19), (.t 20)], none⟩, ⟨some 22, .bslice 1 3 42 [I L 0, .bool false, .nils] [(0, 3, (.t 21))], none⟩, ⟨some 23, .app 3 40 42 [I L 0, .bool false, .nils] (.t 18) (.t 22), none⟩, oM 3 23]
def c50_8 : OL := [oN 24 .add 15 1, oM 15 24]
def J82 : LC := (.seq (.reg false c50_5) (.seq (.cond (.t 16) .skip (.seq (.trim [3]) (.exit 0))) (.seq (.blk 1 (.seq (.reg false c50_6) (.reg false c50_7))) (.reg false c50_8))))
def c50_10 : OL := [oM 25 3, oM 2 25]
def lc50 : LC := (.seq (.reg false c50_0) (.seq (.seq (.reg false c50_1) (.cond (.t 7) (.seq (.reg true c50_2) .ret) .skip)) (.seq (.reg false c50_3) (.seq (.seq (.reg false c50_4) (.blk 0 (.loop [1, 3, 14, 15] J82))) (.seq (.reg false c50_10) .ret)))))
def lf50 : LFunc := ⟨1, [.tmp 2], true, lc50⟩
def hi50 : Qt := ⟨[(10, .z), (21, .z)], [none, none, none, none, none, none, none, some [1, 3, 14, 15], none, some [3], none, none, none, none, none, none], [], []⟩
theorem lf50_ok : Qw Tryz.prog hi50 true Tryz.f50 = lf50.o := by kernel_rfl
def c51_0 : OL := [⟨some 2, .box (.t 0), none⟩, ⟨some 3, .box (.t 1), none⟩, oC 4 0]
def c51_1 : OL := [oF 5 0 2, oL 6 5, oF 7 0 3, oL 8 7, oB 9 .sub 6 8, ⟨some 10, .callp 79 [(.t 9)], none⟩, oF 11 1 2, oL 12 11, oF 13 1 3, oL 14 13, oB 15 .sub 12 14, ⟨some 16, .callp 79 [(.t 15)], none⟩, oB 17 .add 10 16, oM 4 17]
def lc51 : LC := (.seq (.reg false c51_0) (.seq (.reg true c51_1) .ret))
def lf51 : LFunc := ⟨2, [.tmp 4], true, lc51⟩
def hi51 : Qt := ⟨[], [none, none, none], [], []⟩
theorem lf51_ok : Qw Tryz.prog hi51 true Tryz.f51 = lf51.o := by kernel_rfl
def c52_0 : OL := [⟨some 3, .box (.t 0), none⟩, ⟨some 4, .box (.t 1), none⟩, ⟨some 5, .box (.t 2), none⟩, ⟨some 6, .mov (.c (.nils)), none⟩, ⟨some 7, .mov (.c (.bool false)), none⟩]
def c52_1 : OL := [oA 13 1 3, oA 14 2 4, ⟨some 15, .callp 80 [(.t 13), (.t 14)], none⟩, oU 16 15, oM 17 16, oAg 18 1 3 17 false, oAg 19 2 5 17 false, ⟨some 20, .callp 80 [(.t 18), (.t 19)], some (17, false)⟩, oUg 21 20 17 false, oO 22 17 21]
def c52_2 : OL := [⟨some 6, .mov (.c (.nils)), none⟩, ⟨some 7, .mov (.c (.bool false)), none⟩]
def c52_3 : OL := [oA 23 1 3, oA 24 2 4, oA 25 2 5, ⟨some 26, .callz 81 [(.t 23), (.t 24), (.t 25)], none⟩, oM 8 26]
def c52_4 : OL := [oM 27 8, oM 28 8, oE 29 28, oN 30 .sub 29 1, oI 31 3 27 30, oF 32 0 31, oA 33 2 32, oA 34 2 5, ⟨some 35, .eqv true true [false, false] (.t 33) (.t 34), none⟩]
def c52_5 : OL := [⟨some 6, .mov (.c (.nils)), none⟩, ⟨some 7, .mov (.c (.bool false)), none⟩]
def c52_6 : OL := [⟨some 9, .mov (.c (.nils)), none⟩]
def c52_7 : OL := [oM 36 8, oE 37 36, oN 38 .sub 37 1, oM 10 38]
def c52_8 : OL := [oM 39 10, oN 40 .geq 39 0]
def c52_9 : OL := [oM 46 9, oM 47 8, oM 48 10, oI 49 3 47 48, oF 50 0 49, oA 51 2 50, ⟨some 52, .bslice 1 2 27 [I L 0, I L 0] [(0, 2, (.t 51))], none⟩, ⟨some 53, .app 2 16 27 [I L 0, I L 0] (.t 46) (.t 52), none⟩, oM 9 53]
def J7y : OL := [oM 41 8, oM 42 10, oI 43 3 41 42, oF 44 2 43, oL 45 44, oM 10 45]
def J3k : LC := (.seq (.seq (.reg false c52_8) (.cond (.t 40) .skip (.seq (.trim [9]) (.exit 0)))) (.seq (.blk 1 (.reg false c52_9)) (.reg false J7y)))
def c52_12 : OL := [⟨some 11, .mov (.c (.nils)), none⟩]
def c52_13 : OL := [oM 54 9, oE 55 54, oN 56 .sub 55 1, oM 12 56]
def J9f : OL := [oM 57 12, oN 58 .geq 57 0]
def J4i : OL := [oM 61 11, oM 62 9, oM 63 12, oI 64 2 62 63, oA 65 2 64, ⟨some 66, .bslice 1 2 27 [I L 0, I L 0] [(0, 2, (.t 65))], none⟩, ⟨some 67, .app 2 16 27 [I L 0, I L 0] (.t 61) (.t 66), none⟩, oM 11 67]
def J93 : OL := [oM 59 12, oN 60 .sub 59 1, oM 12 60]
def J9o : LC := (.seq (.seq (.reg false J9f) (.cond (.t 58) .skip (.seq (.trim [11]) (.exit 2)))) (.seq (.blk 3 (.reg false J4i)) (.reg false J93)))
def c52_18 : OL := [oM 68 11, oM 6 68, ⟨some 7, .mov (.c (.bool true)), none⟩]
def lc52 : LC := (.seq (.reg false c52_0) (.seq (.seq (.reg false c52_1) (.cond (.t 22) (.seq (.reg false c52_2) .ret) .skip)) (.seq (.reg false c52_3) (.seq (.seq (.reg true c52_4) (.cond (.t 35) (.seq (.reg false c52_5) .ret) .skip)) (.seq (.reg false c52_6) (.seq (.seq (.reg false c52_7) (.blk 0 (.loop [8, 9, 10] J3k))) (.seq (.reg false c52_12) (.seq (.seq (.reg false c52_13) (.blk 2 (.loop [9, 11, 12] J9o))) (.seq (.reg false c52_18) .ret)))))))))
def lf52 : LFunc := ⟨3, [.tmp 6, .tmp 7], true, lc52⟩
def hi52 : Qt := ⟨[(26, .z)], [none, none, none, none, none, none, none, none, none, none, none, none, some [8, 9, 10], none, some [9], none, none, none, none, none, some [9, 11, 12], none, some [11], none, none, none, none, none], [], []⟩
theorem lf52_ok : Qw Tryz.prog hi52 true Tryz.f52 = lf52.o := by kernel_rfl
def c53_0 : OL := [⟨some 2, .box (.t 0), none⟩, ⟨some 3, .box (.t 1), none⟩, ⟨some 4, .mov (.c (.nils)), none⟩]
def c53_1 : OL := [⟨some 5, .mov (.c (.nils)), none⟩]
def c53_2 : OL := [oA 6 2 2, ⟨some 7, .callp 82 [(.t 6)], none⟩, oU 8 7, oM 9 8, oAg 10 2 3 9 false, ⟨some 11, .callp 82 [(.t 10)], some (9, false)⟩, oUg 12 11 9 false, oO 13 9 12]
def c53_3 : OL := [oM 14 5, oM 4 14]
def c53_4 : OL := [oM 15 5, oA 16 2 2, ⟨some 17, .bslice 1 2 27 [I L 0, I L 0] [(0, 2, (.t 16))], none⟩, ⟨some 18, .app 2 16 27 [I L 0, I L 0] (.t 15) (.t 17), none⟩, oM 5 18]
def c53_5 : OL := [oF 19 0 2, oL 20 19, oF 21 0 3, oL 22 21, oB 23 .neq 20 22]
def c53_6 : OL := [oF 24 0 2, oL 25 24, oF 26 0 3, oL 27 26, ⟨some 28, .callp 83 [(.t 25), (.t 27)], none⟩, oF 29 0 2, oT 1 29 28]
def c53_7 : OL := [oM 30 5, oA 31 2 2, ⟨some 32, .bslice 1 2 27 [I L 0, I L 0] [(0, 2, (.t 31))], none⟩, ⟨some 33, .app 2 16 27 [I L 0, I L 0] (.t 30) (.t 32), none⟩, oM 5 33]
def J2v : LC := (.seq (.seq (.reg false c53_5) (.cond (.t 23) .skip (.seq (.trim [2, 3, 5]) (.exit 0)))) (.blk 1 (.seq (.reg false c53_6) (.reg false c53_7))))
def c53_9 : OL := [oF 34 1 2, oL 35 34, oF 36 1 3, oL 37 36, oB 38 .neq 35 37]
def J2q : OL := [oF 39 1 2, oL 40 39, oF 41 1 3, oL 42 41, ⟨some 43, .callp 83 [(.t 40), (.t 42)], none⟩, oF 44 1 2, oT 1 44 43]
def J2f : OL := [oM 45 5, oA 46 2 2, ⟨some 47, .bslice 1 2 27 [I L 0, I L 0] [(0, 2, (.t 46))], none⟩, ⟨some 48, .app 2 16 27 [I L 0, I L 0] (.t 45) (.t 47), none⟩, oM 5 48]
def J8l : LC := (.seq (.seq (.reg false c53_9) (.cond (.t 38) .skip (.seq (.trim [5]) (.exit 2)))) (.blk 3 (.seq (.reg false J2q) (.reg false J2f))))
def c53_13 : OL := [oM 49 5, oM 4 49]
def lc53 : LC := (.seq (.reg false c53_0) (.seq (.reg false c53_1) (.seq (.seq (.reg false c53_2) (.cond (.t 13) (.seq (.reg false c53_3) .ret) .skip)) (.seq (.reg false c53_4) (.seq (.blk 0 (.loop [2, 3, 5] J2v)) (.seq (.blk 2 (.loop [2, 3, 5] J8l)) (.seq (.reg false c53_13) .ret)))))))
def lf53 : LFunc := ⟨2, [.tmp 4], true, lc53⟩
def hi53 : Qt := ⟨[], [none, none, none, none, none, none, none, some [2, 3, 5], none, some [2, 3, 5], none, none, none, some [2, 3, 5], none, some [5], none, none, none, none, none], [], []⟩
theorem lf53_ok : Qw Tryz.prog hi53 true Tryz.f53 = lf53.o := by kernel_rfl
def c54_0 : OL := [⟨some 1, .box (.t 0), none⟩, oC 2 0, oC 3 0]
def c54_1 : OL := [oF 4 17 1, oL 5 4, oF 6 0 1, oL 7 6, oB 8 .quo 5 7, ⟨some 9, .mm true (.c (I L 1)) (.t 8), none⟩, oF 10 13 1, oL 11 10, oF 12 0 1, oL 13 12, oB 14 .quo 11 13, ⟨some 15, .mm true (.c (I L 1)) (.t 14), none⟩, oM 2 9, oM 3 15]
def lc54 : LC := (.seq (.reg false c54_0) (.seq (.reg true c54_1) .ret))
def lf54 : LFunc := ⟨1, [.tmp 2, .tmp 3], true, lc54⟩
def hi54 : Qt := ⟨[], [none, none, none], [], []⟩
theorem lf54_ok : Qw Tryz.prog hi54 true Tryz.f54 = lf54.o := by kernel_rfl
def c55_0 : OL := [oC 2 0]
def c55_1 : OL := [oC 3 0]
def c55_2 : OL := [oM 7 0, oE 8 7, oC 9 0]
def c55_3 : OL := [oB 10 .lss 9 8]
def c55_4 : OL := [oI 11 6 7 9, oA 12 6 11, ⟨some 5, .alloc [I L 0, I L 0, I L 0, I L 0, I L 0, .nils], none⟩, oT 6 5 12]
def c55_5 : OL := [oF 13 0 5, oL 14 13, oN 15 .eql 14 2, oM 16 15, oFg 17 0 5 16 false, oLg 18 17 16 false, oNg 19 .eql 18 3 16 false, oO 20 16 19, oM 21 20, oFg 22 4 5 21 true, oLg 23 22 21 true, oNg 24 .gtr 23 0 21 true, oP 25 21 24]
def c55_6 : OL := [oF 26 5 5, oL 27 26, oE 28 27, oN 29 .mul 28 1000, oM 6 29]
def c55_7 : OL := [oM 30 3, oM 31 6, oF 32 4 5, oL 33 32, oB 34 .quo 31 33, oB 35 .add 30 34, oM 3 35]
def c55_8 : OL := [oM 36 6, oF 37 4 5, oL 38 37, oB 39 .rem 36 38, oN 40 .neq 39 0]
def c55_9 : OL := [oM 41 3, oN 42 .add 41 1, oM 3 42]
def J4y : OL := [oN 43 .add 9 1, oM 9 43]
def J27 : LC := (.seq (.reg false c55_3) (.seq (.cond (.t 10) .skip (.seq (.trim [3]) (.exit 0))) (.seq (.blk 1 (.seq (.reg false c55_4) (.seq (.reg false c55_5) (.cond (.t 25) (.seq (.reg false c55_6) (.seq (.reg false c55_7) (.seq (.reg false c55_8) (.cond (.t 40) (.reg false c55_9) .skip)))) .skip)))) (.reg false J4y))))
def c55_12 : OL := [oM 44 3, oM 2 44]
def lc55 : LC := (.seq (.reg false c55_0) (.seq (.reg false c55_1) (.seq (.seq (.reg false c55_2) (.blk 0 (.loop [3, 7, 8, 9] J27))) (.seq (.reg false c55_12) .ret))))
def lf55 : LFunc := ⟨1, [.tmp 2], true, lc55⟩
def hi55 : Qt := ⟨[], [none, none, none, some [3, 7, 8, 9], none, some [3], none, none, none, none, none, none, none, none, none, none], [], []⟩
theorem lf55_ok : Qw Tryz.prog hi55 true Tryz.f55 = lf55.o := by kernel_rfl
def c56_0 : OL := [⟨some 4, .mov (.c (.nils)), none⟩]
def c56_1 : OL := [⟨some 5, .mov (.c (.nils)), none⟩]
def c56_2 : OL := [oM 8 0, oE 9 8, oC 10 0]
def c56_3 : OL := [oB 11 .lss 10 9]
def c56_4 : OL := [oI 12 6 8 10, oA 13 6 12, ⟨some 7, .alloc [I L 0, I L 0, I L 0, I L 0, I L 0, .nils], none⟩, oT 6 7 13]
def c56_5 : OL := [⟨some 14, .bslice 0 2 27 [I L 0, I L 0] [], none⟩, oF 15 5 7, oL 16 15, ⟨some 17, .appz 2 16 27 [I L 0, I L 0] (.t 14) (.t 16), none⟩, oF 18 5 7, oT 1 18 17]
def c56_6 : OL := [oF 19 0 7, oL 20 19, oN 21 .eql 20 3, oM 22 21, oFg 23 4 7 22 true, oLg 24 23 22 true, oMg 25 1 22 true, oBg 26 .gtr 24 25 22 true, oP 27 22 26]
def c56_7 : OL := [oM 28 1, oF 29 4 7, oT 1 29 28]
def c56_8 : OL := [oM 30 5, oA 31 6 7, ⟨some 32, .bslice 1 6 52 [I L 0, I L 0, I L 0, I L 0, I L 0, .nils] [(0, 6, (.t 31))], none⟩, ⟨some 33, .app 6 64 52 [I L 0, I L 0, I L 0, I L 0, I L 0, .nils] (.t 30) (.t 32), none⟩, oM 5 33]
def c56_9 : OL := [oN 34 .add 10 1, oM 10 34]
def J06 : LC := (.seq (.reg false c56_3) (.seq (.cond (.t 11) .skip (.seq (.trim [5]) (.exit 0))) (.seq (.blk 1 (.seq (.reg false c56_4) (.seq (.reg false c56_5) (.seq (.seq (.reg false c56_6) (.cond (.t 27) (.reg false c56_7) .skip)) (.reg false c56_8))))) (.reg false c56_9))))
def c56_11 : OL := [oM 35 5, oM 4 35]
def lc56 : LC := (.seq (.reg false c56_0) (.seq (.reg false c56_1) (.seq (.seq (.reg false c56_2) (.blk 0 (.loop [1, 5, 8, 9, 10] J06))) (.seq (.reg false c56_11) .ret))))
def lf56 : LFunc := ⟨2, [.tmp 4], true, lc56⟩
def hi56 : Qt := ⟨[(17, .z)], [none, none, none, some [1, 5, 8, 9, 10], none, some [5], none, none, none, none, none, none, none, none, none], [], []⟩
theorem lf56_ok : Qw Tryz.prog hi56 true Tryz.f56 = lf56.o := by kernel_rfl
def c57_0 : OL := [⟨some 2, .box (.t 0), none⟩, ⟨some 3, .box (.t 1), none⟩, ⟨some 4, .mov (.c (.bool false)), none⟩]
def c57_1 : OL := [oF 7 0 2, oL 8 7, oF 9 0 3, oL 10 9, oB 11 .sub 8 10, oF 12 1 2, oL 13 12, oF 14 1 3, oL 15 14, oB 16 .sub 13 15, oM 5 11, oM 6 16]
def c57_2 : OL := [oM 17 5, oM 18 5, oB 19 .mul 17 18, oM 20 6, oM 21 6, oB 22 .mul 20 21, oB 23 .add 19 22, oN 24 .eql 23 1, oM 4 24]
def lc57 : LC := (.seq (.reg false c57_0) (.seq (.reg true c57_1) (.seq (.reg false c57_2) .ret)))
def lf57 : LFunc := ⟨2, [.tmp 4], true, lc57⟩
def hi57 : Qt := ⟨[], [none, none, none, none], [], []⟩
theorem lf57_ok : Qw Tryz.prog hi57 true Tryz.f57 = lf57.o := by kernel_rfl
def c58_0 : OL := [⟨some 6, .mov (.c (.bool false)), none⟩]
def c58_1 : OL := [oM 7 0, oM 8 1, oM 9 2, ⟨some 10, .callp 59 [(.t 7), (.t 8), (.t 9)], none⟩, oM 11 10, oMg 12 0 11 true, oNg 13 .rem 12 2 11 true, oNg 14 .eql 13 0 11 true, oP 15 11 14, oM 6 15]
def lc58 : LC := (.seq (.reg false c58_0) (.seq (.reg false c58_1) .ret))
def lf58 : LFunc := ⟨3, [.tmp 6], true, lc58⟩
def hi58 : Qt := ⟨[], [none, none, none], [], []⟩
theorem lf58_ok : Qw Tryz.prog hi58 true Tryz.f58 = lf58.o := by kernel_rfl
def c59_0 : OL := [⟨some 6, .mov (.c (.bool false)), none⟩]
def c59_1 : OL := [oM 7 0, oM 8 1, oB 9 .geq 7 8, oM 10 9, oMg 11 0 10 true, oMg 12 2 10 true, oBg 13 .leq 11 12 10 true, oP 14 10 13, oM 6 14]
def lc59 : LC := (.seq (.reg false c59_0) (.seq (.reg false c59_1) .ret))
def lf59 : LFunc := ⟨3, [.tmp 6], true, lc59⟩
def hi59 : Qt := ⟨[], [none, none, none], [], []⟩
theorem lf59_ok : Qw Tryz.prog hi59 true Tryz.f59 = lf59.o := by kernel_rfl
def c60_0 : OL := [⟨some 1, .box (.t 0), none⟩, ⟨some 2, .mov (.c (.bool false)), none⟩]
def c60_1 : OL := [oF 3 0 1, oL 4 3, oN 5 .geq 4 (-1048576), oM 6 5, oFg 7 0 1 6 true, oLg 8 7 6 true, oNg 9 .leq 8 1048576 6 true, oP 10 6 9, oM 11 10, oFg 12 1 1 11 true, oLg 13 12 11 true, oNg 14 .geq 13 (-1048576) 11 true, oP 15 11 14, oM 16 15, oFg 17 1 1 16 true, oLg 18 17 16 true, oNg 19 .leq 18 1048576 16 true, oP 20 16 19, oM 2 20]
def lc60 : LC := (.seq (.reg false c60_0) (.seq (.reg false c60_1) .ret))
def lf60 : LFunc := ⟨1, [.tmp 2], true, lc60⟩
def hi60 : Qt := ⟨[], [none, none, none], [], []⟩
theorem lf60_ok : Qw Tryz.prog hi60 true Tryz.f60 = lf60.o := by kernel_rfl
def c61_0 : OL := [⟨some 1, .box (.t 0), none⟩, ⟨some 2, .mov (.c (.bool false)), none⟩]
def c61_1 : OL := [oF 3 0 1, oL 4 3, oN 5 .geq 4 (-4096), oM 6 5, oFg 7 0 1 6 true, oLg 8 7 6 true, oNg 9 .lss 8 4096 6 true, oP 10 6 9, oM 11 10, oFg 12 1 1 11 true, oLg 13 12 11 true, oNg 14 .geq 13 (-4096) 11 true, oP 15 11 14, oM 16 15, oFg 17 1 1 16 true, oLg 18 17 16 true, oNg 19 .lss 18 4096 16 true, oP 20 16 19, oM 2 20]
def lc61 : LC := (.seq (.reg false c61_0) (.seq (.reg false c61_1) .ret))
def lf61 : LFunc := ⟨1, [.tmp 2], true, lc61⟩
def hi61 : Qt := ⟨[], [none, none, none], [], []⟩
theorem lf61_ok : Qw Tryz.prog hi61 true Tryz.f61 = lf61.o := by kernel_rfl
def c62_0 : OL := [⟨some 2, .mov (.c (.nils)), none⟩]
def c62_1 : OL := [⟨some 3, .mov (.c (.nils)), none⟩]
def c62_2 : OL := [oM 6 0, oE 7 6, oC 8 0]
def c62_3 : OL := [oB 9 .lss 8 7]
def c62_4 : OL := [oI 10 3 6 8, oA 11 3 10, ⟨some 5, .alloc [I L 0, .bool false, .nils], none⟩, oT 3 5 11]
def c62_5 : OL := [oA 12 3 5, ⟨some 13, .callp 17 [(.t 12)], none⟩]
def c62_6 : OL := [oM 14 3, oA 15 3 5, ⟨some 16, .callz 84 [(.t 15)], none⟩, ⟨some 17, .bslice 1 3 42 [I L 0, .bool false, .nils] [(0, 3, (.t 16))], none⟩, ⟨some 18, .app 3 40 42 [I L 0, .bool false, .nils] (.t 14) (.t 17), none⟩, oM 3 18]
def c62_7 : OL := [oN 19 .add 8 1, oM 8 19]
def J89 : LC := (.seq (.reg false c62_3) (.seq (.cond (.t 9) .skip (.seq (.trim [3]) (.exit 0))) (.seq (.blk 1 (.seq (.reg false c62_4) (.seq (.reg false c62_5) (.cond (.t 13) (.reg false c62_6) .skip)))) (.reg false c62_7))))
def c62_9 : OL := [oM 20 3, oM 2 20]
def lc62 : LC := (.seq (.reg false c62_0) (.seq (.reg false c62_1) (.seq (.seq (.reg false c62_2) (.blk 0 (.loop [3, 6, 7, 8] J89))) (.seq (.reg false c62_9) .ret))))
def lf62 : LFunc := ⟨1, [.own 2], false, lc62⟩
def hi62 : Qt := ⟨[(16, .z)], [none, none, none, some [3, 6, 7, 8], none, some [3], none, none, none, none, none, none, none], [], []⟩
theorem lf62_ok : Qw Tryz.prog hi62 false Tryz.f62 = lf62.o := by kernel_rfl
def c63_0 : OL := [⟨some 2, .box (.t 0), none⟩, ⟨some 4, .alloc [I L 0, I L 0, .nils, .nils, .nils, .nils], none⟩]
def c63_1 : OL := [oA 10 2 2, ⟨some 11, .build [I L 0, I L 0, .nils, .nils, .nils, .nils] [(0, 2, (.t 10))], none⟩, ⟨some 5, .alloc [I L 0, I L 0, .nils, .nils, .nils, .nils], none⟩, oT 6 5 11]
def c63_2 : OL := [oM 12 1, oE 13 12, oC 14 0]
def c63_3 : OL := [oB 15 .lss 14 13]
def c63_4 : OL := [oM 16 14, oI 17 3 12 14, oA 18 3 17, ⟨some 7, .alloc [I L 0, .bool false, .nils], none⟩, oM 6 16, oT 3 7 18]
def c63_5 : OL := [oF 19 2 5, oL 20 19, oA 21 3 7, ⟨some 22, .callp 68 [(.t 21)], none⟩, ⟨some 23, .bslice 1 4 106 [I L 0, I L 0, I L 0, I L 0] [(0, 4, (.t 22))], none⟩, ⟨some 24, .app 4 32 106 [I L 0, I L 0, I L 0, I L 0] (.t 20) (.t 23), none⟩, oF 25 2 5, oT 1 25 24]
def c63_6 : OL := [oF 26 3 5, oL 27 26, oA 28 3 7, ⟨some 29, .callp 85 [(.t 28)], none⟩, ⟨some 30, .bslice 1 4 106 [I L 0, I L 0, I L 0, I L 0] [(0, 4, (.t 29))], none⟩, ⟨some 31, .app 4 32 106 [I L 0, I L 0, I L 0, I L 0] (.t 27) (.t 30), none⟩, oF 32 3 5, oT 1 32 31]
def c63_7 : OL := [oC 8 0, oC 9 0]
def c63_8 : OL := [oM 33 6, oN 34 .gtr 33 0]
def c63_9 : OL := [oF 35 4 5, oL 36 35, oM 37 6, oN 38 .sub 37 1, oI 39 1 36 38, oL 40 39, oF 41 2 5, oL 42 41, oM 43 6, oN 44 .sub 43 1, oI 45 4 42 44, ⟨some 46, .iaddrA 2 2 (.t 45) (.c (I L 1)), none⟩, oA 47 2 46, oF 48 2 5, oL 49 48, oM 50 6, oI 51 4 49 50, ⟨some 52, .iaddrA 2 2 (.t 51) (.c (I L 0)), none⟩, oA 53 2 52, ⟨some 54, .callp 86 [(.t 47), (.t 53)], none⟩, oB 55 .add 40 54, oM 8 55]
def J0y : OL := [oF 56 5 5, oL 57 56, oM 58 6, oN 59 .sub 58 1, oI 60 1 57 59, oL 61 60, oF 62 3 5, oL 63 62, oM 64 6, oI 65 4 63 64, ⟨some 66, .iaddrA 2 2 (.t 65) (.c (I L 1)), none⟩, oA 67 2 66, oF 68 3 5, oL 69 68, oM 70 6, oN 71 .sub 70 1, oI 72 4 69 71, ⟨some 73, .iaddrA 2 2 (.t 72) (.c (I L 0)), none⟩, oA 74 2 73, ⟨some 75, .callp 86 [(.t 67), (.t 74)], none⟩, oB 76 .add 61 75, oM 9 76]
def J75 : OL := [oF 77 4 5, oL 78 77, oM 79 8, ⟨some 80, .bslice 1 1 3 [I L 0] [(0, 1, (.t 79))], none⟩, ⟨some 81, .app 1 8 3 [I L 0] (.t 78) (.t 80), none⟩, oF 82 4 5, oT 1 82 81]
def J9u : OL := [oF 83 5 5, oL 84 83, oM 85 9, ⟨some 86, .bslice 1 1 3 [I L 0] [(0, 1, (.t 85))], none⟩, ⟨some 87, .app 1 8 3 [I L 0] (.t 84) (.t 86), none⟩, oF 88 5 5, oT 1 88 87]
def J57 : OL := [oN 89 .add 14 1, oM 14 89]
def J0x : LC := (.seq (.reg false c63_3) (.seq (.cond (.t 15) .skip (.seq (.trim [4, 5]) (.exit 0))) (.seq (.blk 1 (.seq (.reg false c63_4) (.seq (.reg true c63_5) (.seq (.reg true c63_6) (.seq (.reg false c63_7) (.seq (.seq (.reg false c63_8) (.cond (.t 34) (.seq (.reg true c63_9) (.reg true J0y)) .skip)) (.seq (.reg false J75) (.reg false J9u)))))))) (.reg false J57))))
def c63_15 : OL := [oA 90 6 5, oT 6 4 90]
def lc63 : LC := (.seq (.reg false c63_0) (.seq (.reg false c63_1) (.seq (.seq (.reg false c63_2) (.blk 0 (.loop [4, 5, 12, 13, 14] J0x))) (.seq (.reg false c63_15) .ret))))
def lf63 : LFunc := ⟨2, [.cell 4 true 6], false, lc63⟩
def hi63 : Qt := ⟨[], [none, none, none, some [4, 5, 12, 13, 14], none, some [4, 5], none, none, none, none, none, none, none, none, none, none, none, none, none], [], []⟩
theorem lf63_ok : Qw Tryz.prog hi63 false Tryz.f63 = lf63.o := by kernel_rfl
def c64_0 : OL := [⟨some 1, .box (.t 0), none⟩, oC 2 0, oC 3 0, ⟨some 4, .mov (.c (.bool false)), none⟩]
def c64_1 : OL := [oF 7 2 1, oL 8 7, oE 9 8, oC 10 0]
def c64_2 : OL := [oB 11 .lss 10 9]
def c64_3 : OL := [oM 12 10, oM 5 12]
def c64_4 : OL := [oM 13 5, oM 6 13]
def c64_5 : OL := [oM 14 6, oF 15 2 1, oL 16 15, oE 17 16, oB 18 .lss 14 17]
def c64_6 : OL := [oA 21 6 1, oM 22 5, oM 23 6, ⟨some 24, .callp 87 [(.t 21), (.t 22), (.t 23)], none⟩]
def c64_7 : OL := [oM 25 5, oM 26 6, oM 2 25, oM 3 26, ⟨some 4, .mov (.c (.bool true)), none⟩]
def c64_8 : OL := [oM 19 6, oN 20 .add 19 1, oM 6 20]
def Jwt : LC := (.seq (.seq (.reg false c64_5) (.cond (.t 18) .skip (.seq (.trim [1, 9, 10]) (.exit 2)))) (.seq (.blk 3 (.seq (.reg false c64_6) (.cond (.t 24) (.seq (.reg false c64_7) (.seq (.trim [2, 3, 4]) .ret)) .skip))) (.reg false c64_8)))
def J6v : OL := [oN 27 .add 10 1, oM 10 27]
def J17 : LC := (.seq (.reg false c64_2) (.seq (.cond (.t 11) .skip (.seq (.trim []) (.exit 0))) (.seq (.blk 1 (.seq (.reg false c64_3) (.seq (.reg false c64_4) (.blk 2 (.loop [1, 5, 6, 9, 10] Jwt))))) (.reg false J6v))))
def c64_12 : OL := [oC 2 0, oC 3 0, ⟨some 4, .mov (.c (.bool false)), none⟩]
def lc64 : LC := (.seq (.reg false c64_0) (.seq (.seq (.reg false c64_1) (.blk 0 (.loop [1, 9, 10] J17))) (.seq (.reg false c64_12) .ret)))
def lf64 : LFunc := ⟨1, [.tmp 2, .tmp 3, .tmp 4], true, lc64⟩
def hi64 : Qt := ⟨[], [none, none, some [1, 9, 10], none, some [], none, none, none, some [1, 5, 6, 9, 10], none, some [1, 9, 10], none, none, none, some [2, 3, 4], none, none, none, none, none], [], []⟩
theorem lf64_ok : Qw Tryz.prog hi64 true Tryz.f64 = lf64.o := by kernel_rfl
def c65_0 : OL := [⟨some 1, .box (.t 0), none⟩, ⟨some 2, .alloc [I L 0, .bool false, .nils], none⟩]
def c65_1 : OL := [oA 3 3 1, ⟨some 4, .callp 17 [(.t 3)], none⟩, oU 5 4]
def c65_2 : OL := [⟨some 6, .build [I L 0, .bool false, .nils] [], none⟩, oT 3 2 6]
def c65_3 : OL := [oF 7 0 1, oL 8 7, oF 9 1 1, oL 10 9, oF 11 2 1, oL 12 11, ⟨some 13, .callz 88 [(.t 12)], none⟩, ⟨some 14, .build [I L 0, .bool false, .nils] [(0, 1, (.t 8)), (1, 1, (.t 10)), (2, 1, (.t 13))], none⟩, oT 3 2 14]
def lc65 : LC := (.seq (.reg false c65_0) (.seq (.seq (.reg false c65_1) (.cond (.t 5) (.seq (.reg false c65_2) .ret) .skip)) (.seq (.reg true c65_3) .ret)))
def lf65 : LFunc := ⟨1, [.cell 2 true 3], true, lc65⟩
def hi65 : Qt := ⟨[(13, .z)], [none, none, none, none, none, none, none], [], []⟩
theorem lf65_ok : Qw Tryz.prog hi65 true Tryz.f65 = lf65.o := by kernel_rfl
def c66_0 : OL := [⟨some 2, .box (.t 0), none⟩, ⟨some 3, .box (.t 1), none⟩, oC 4 0, oC 5 0]
def c66_1 : OL := [⟨some 6, .frz (.c (.nils)), none⟩]
def c66_2 : OL := [oF 13 1 3, oL 14 13]
def c66_3 : OL := [oF 15 2 3, oL 16 15, ⟨some 6, .frz (.t 16), none⟩]
def c66_4 : OL := [oA 17 3 3, ⟨some 18, .callp 68 [(.t 17)], none⟩, ⟨some 7, .allocA 2 106 [I L 0, I L 0, I L 0, I L 0], none⟩, oT 4 7 18]
def c66_5 : OL := [⟨some 19, .slcA 2 2 (.t 7), none⟩, ⟨some 6, .frz (.t 19), none⟩]
def c66_6 : OL := [oA 20 2 2, oM 21 6, ⟨some 22, .iaddr 2 (.t 21) (.c (I L 0)), none⟩, oA 23 2 22, ⟨some 24, .callp 86 [(.t 20), (.t 23)], none⟩, oC 8 0, oM 9 24]
def c66_7 : OL := [oM 25 6, oE 26 25, oC 27 0]
def c66_8 : OL := [oB 28 .lss 27 26]
def c66_9 : OL := [oM 29 27, oI 30 2 25 27, oA 31 2 30, ⟨some 11, .alloc [I L 0, I L 0], none⟩, oM 10 29, oT 2 11 31]
def J21 : OL := [oA 32 2 2, oA 33 2 11, ⟨some 34, .callp 86 [(.t 32), (.t 33)], none⟩, oM 12 34]
def J26 : OL := [oM 35 12, oM 36 9, oB 37 .lss 35 36]
def J5u : OL := [oM 38 10, oM 39 12, oM 8 38, oM 9 39]
def J1l : OL := [oN 40 .add 27 1, oM 27 40]
def J8m : LC := (.seq (.reg false c66_8) (.seq (.cond (.t 28) .skip (.seq (.trim [8, 9]) (.exit 0))) (.seq (.blk 1 (.seq (.reg false c66_9) (.seq (.reg false J21) (.seq (.reg false J26) (.cond (.t 37) (.reg false J5u) .skip))))) (.reg false J1l))))
def c66_15 : OL := [oM 41 8, oM 42 9, oM 4 41, oM 5 42]
def lc66 : LC := (.seq (.reg false c66_0) (.seq (.reg false c66_1) (.seq (.seq (.reg false c66_2) (.cond (.t 14) (.reg false c66_3) (.seq (.reg false c66_4) (.reg false c66_5)))) (.seq (.reg true c66_6) (.seq (.seq (.reg false c66_7) (.blk 0 (.loop [2, 8, 9, 25, 26, 27] J8m))) (.seq (.reg false c66_15) .ret))))))
def lf66 : LFunc := ⟨2, [.tmp 4, .tmp 5], true, lc66⟩
def hi66 : Qt := ⟨[(6, .z), (6, .z), (7, .z), (6, .z)], [none, none, none, none, none, none, none, some [2, 8, 9, 25, 26, 27], none, some [8, 9], none, none, none, none, none, none, none, none], [], []⟩
theorem lf66_ok : Qw Tryz.prog hi66 true Tryz.f66 = lf66.o := by kernel_rfl
def c67_0 : OL := [⟨some 2, .box (.t 0), none⟩, ⟨some 4, .alloc [I L 0, .bool false, .nils], none⟩]
def c67_1 : OL := [oF 5 1 2, oL 6 5]
def c67_2 : OL := [oA 7 3 2, oM 8 1, ⟨some 9, .callp 89 [(.t 7), (.t 8)], none⟩, oT 3 4 9]
def c67_3 : OL := [oM 10 1, oN 11 .eql 10 1]
def c67_4 : OL := [oA 12 3 2, ⟨some 13, .callp 65 [(.t 12)], none⟩, oT 3 4 13]
def c67_5 : OL := [oA 14 3 2, oT 3 4 14]
def lc67 : LC := (.seq (.reg false c67_0) (.seq (.seq (.reg false c67_1) (.cond (.t 6) (.seq (.reg false c67_2) .ret) .skip)) (.seq (.seq (.reg false c67_3) (.cond (.t 11) (.seq (.reg false c67_4) .ret) .skip)) (.seq (.reg false c67_5) .ret))))
def lf67 : LFunc := ⟨2, [.cell 4 true 3], true, lc67⟩
def hi67 : Qt := ⟨[], [none, none, none, none, none, none, none, none, none, none, none], [], []⟩
theorem lf67_ok : Qw Tryz.prog hi67 true Tryz.f67 = lf67.o := by kernel_rfl
def c68_0 : OL := [⟨some 1, .box (.t 0), none⟩, ⟨some 2, .alloc [I L 0, I L 0, I L 0, I L 0], none⟩]
def c68_1 : OL := [oF 3 2 1, oL 4 3, ⟨some 5, .iaddr 2 (.t 4) (.c (I L 0)), none⟩, oA 6 2 5, oF 7 2 1, oL 8 7, oF 9 2 1, oL 10 9, oE 11 10, oN 12 .sub 11 1, oI 13 2 8 12, oA 14 2 13, ⟨some 15, .build [I L 0, I L 0, I L 0, I L 0] [(0, 2, (.t 6)), (2, 2, (.t 14))], none⟩, oT 4 2 15]
def lc68 : LC := (.seq (.reg false c68_0) (.seq (.reg true c68_1) .ret))
def lf68 : LFunc := ⟨1, [.cell 2 true 4], true, lc68⟩
def hi68 : Qt := ⟨[], [none, none, none], [], []⟩
theorem lf68_ok : Qw Tryz.prog hi68 true Tryz.f68 = lf68.o := by kernel_rfl
def c69_0 : OL := [⟨some 3, .box (.t 1), none⟩]
def c69_1 : OL := [oM 8 0, ⟨some 9, .nilck (.t 8), none⟩, oF 10 22 9, oA 11 2 10, oA 12 2 3, ⟨some 13, .eqv false true [false, false] (.t 11) (.t 12), none⟩]
def c69_2 : OL := [oM 14 0, oM 15 0, ⟨some 16, .nilck (.t 15), none⟩, oF 17 2 16, oF 18 14 17, oL 19 18, ⟨some 20, .callq 70 [(.t 14), (.t 19)], none⟩, ⟨some 21, .build [I L 0, I L 0, I L 0, I L 0, I L 0, .nils] [(0, 1, (.c (I L 2))), (4, 1, (.t 20))], none⟩, ⟨some 4, .alloc [I L 0, I L 0, I L 0, I L 0, I L 0, .nils], none⟩, oT 6 4 21]
def c69_3 : OL := [oM 23 0, ⟨some 24, .nilck (.t 23), none⟩, oF 25 1 24, oA 26 1 25, oM 27 0, ⟨some 28, .nilck (.t 27), none⟩, oF 29 22 28, oA 30 2 29, oA 31 2 3, ⟨some 32, .callp 90 [(.t 26), (.t 30), (.t 31)], none⟩, oM 22 32, ⟨some 33, .ext (.t 22) 0, none⟩, ⟨some 34, .ext (.t 22) 1, none⟩, oM 5 33, oM 6 34]
def c69_4 : OL := [oM 35 6, oU 36 35, oM 37 36, oMg 38 0 37 true, ⟨some 39, .nilck (.t 38), some (37, true)⟩, oFg 40 2 39 37 true, oFg 41 15 40 37 true, oLg 42 41 37 true, oNg 43 .neq 42 0 37 true, oP 44 37 43, oM 7 44]
def c69_5 : OL := [oM 45 6, oU 46 45]
def c69_6 : OL := [oM 47 0, ⟨some 48, .nilck (.t 47), none⟩, oF 49 22 48, oA 50 2 49, oA 51 2 3, ⟨some 52, .callp 91 [(.t 50), (.t 51)], none⟩, oM 5 52]
def c69_7 : OL := [oM 53 5, ⟨some 54, .slc 2 (.t 53) (some (.c (I L 1))) none, none⟩, oF 55 5 4, oT 1 55 54]
def c69_8 : OL := [oM 56 7]
def c69_9 : OL := [oM 57 0, ⟨some 58, .nilck (.t 57), none⟩, oF 59 0 58, ⟨some 60, .build [I L 0, I L 0, I L 0, I L 0, I L 0, .nils] [(0, 1, (.c (I L 4)))], none⟩, ⟨some 61, .callr 18 [(.t 59), (.t 60)], none⟩]
def c69_10 : OL := [oM 62 0, ⟨some 63, .nilck (.t 62), none⟩, oF 64 0 63, oA 65 6 4, ⟨some 66, .callr 18 [(.t 64), (.t 65)], none⟩]
def c69_11 : OL := [oM 67 7]
def c69_12 : OL := [oM 68 0, ⟨some 69, .nilck (.t 68), none⟩, oF 70 0 69, ⟨some 71, .build [I L 0, I L 0, I L 0, I L 0, I L 0, .nils] [(0, 1, (.c (I L 5)))], none⟩, ⟨some 72, .callr 18 [(.t 70), (.t 71)], none⟩]
def lc69 : LC := (.seq (.reg false c69_0) (.seq (.seq (.reg true c69_1) (.cond (.t 13) .ret .skip)) (.seq (.reg false c69_2) (.seq (.reg true c69_3) (.seq (.reg false c69_4) (.seq (.seq (.reg false c69_5) (.cond (.t 46) (.reg true c69_6) .skip)) (.seq (.reg false c69_7) (.seq (.seq (.reg false c69_8) (.cond (.t 56) (.reg false c69_9) .skip)) (.seq (.reg true c69_10) (.seq (.reg false c69_11) (.cond (.t 67) (.reg false c69_12) .skip)))))))))))
def lf69 : LFunc := ⟨2, [], false, lc69⟩
def hi69 : Qt := ⟨[(20, .q), (61, .r), (66, .r), (72, .r)], [none, none, none, none, none, none, none, none, none, none, none, none, none, none], [], []⟩
theorem lf69_ok : Qw Tryz.prog hi69 false Tryz.f69 = lf69.o := by kernel_rfl
def c70_0 : OL := [oC 4 0]
def c70_1 : OL := [oM 5 1, oM 6 0, ⟨some 7, .nilck (.t 6), none⟩, oF 8 2 7, oF 9 0 8, oL 10 9, oB 11 .quo 5 10, ⟨some 12, .mm true (.t 11) (.c (I L 1)), none⟩, oM 4 12]
def lc70 : LC := (.seq (.reg false c70_0) (.seq (.reg false c70_1) .ret))
def lf70 : LFunc := ⟨2, [.tmp 4], true, lc70⟩
def hi70 : Qt := ⟨[], [none, none, none], [], []⟩
theorem lf70_ok : Qw Tryz.prog hi70 true Tryz.f70 = lf70.o := by kernel_rfl
def c71_0 : OL := [⟨some 2, .mov (.c (.nils)), none⟩]
def c71_1 : OL := [oM 3 0, ⟨some 4, .isnil false (.t 3), none⟩]
def c71_2 : OL := [⟨some 2, .mov (.c (.nils)), none⟩]
def c71_3 : OL := [⟨some 5, .bslice 0 6 52 [I L 0, I L 0, I L 0, I L 0, I L 0, .nils] [], none⟩, oM 6 0, ⟨some 7, .app 6 64 52 [I L 0, I L 0, I L 0, I L 0, I L 0, .nils] (.t 5) (.t 6), none⟩, oM 2 7]
def lc71 : LC := (.seq (.reg false c71_0) (.seq (.seq (.reg false c71_1) (.cond (.t 4) (.seq (.reg false c71_2) .ret) .skip)) (.seq (.reg false c71_3) .ret)))
def lf71 : LFunc := ⟨1, [.own 2], false, lc71⟩
def hi71 : Qt := ⟨[], [none, none, none, none, none, none, none], [], []⟩
theorem lf71_ok : Qw Tryz.prog hi71 false Tryz.f71 = lf71.o := by kernel_rfl
def c72_0 : OL := [⟨some 2, .mov (.c (.nils)), none⟩]
def c72_1 : OL := [oM 3 0, ⟨some 4, .isnil false (.t 3), none⟩]
def c72_2 : OL := [⟨some 2, .mov (.c (.nils)), none⟩]
def c72_3 : OL := [⟨some 5, .bslice 0 2 27 [I L 0, I L 0] [], none⟩, oM 6 0, ⟨some 7, .app 2 16 27 [I L 0, I L 0] (.t 5) (.t 6), none⟩, oM 2 7]
def lc72 : LC := (.seq (.reg false c72_0) (.seq (.seq (.reg false c72_1) (.cond (.t 4) (.seq (.reg false c72_2) .ret) .skip)) (.seq (.reg false c72_3) .ret)))
def lf72 : LFunc := ⟨1, [.tmp 2], true, lc72⟩
def hi72 : Qt := ⟨[], [none, none, none, none, none, none, none], [], []⟩
theorem lf72_ok : Qw Tryz.prog hi72 true Tryz.f72 = lf72.o := by kernel_rfl
def c73_0 : OL := [⟨some 1, .box (.t 0), none⟩, oC 2 0]
def c73_1 : OL := [oF 4 0 1, oL 5 4, oN 6 .neq 5 2, oM 7 6, oFg 8 0 1 7 true, oLg 9 8 7 true, oNg 10 .neq 9 3 7 true, oP 11 7 10, oM 12 11, oFg 13 4 1 12 false, oLg 14 13 12 false, oNg 15 .leq 14 0 12 false, oO 16 12 15]
def c73_2 : OL := [oC 2 0]
def c73_3 : OL := [oF 17 5 1, oL 18 17, oE 19 18, oN 20 .mul 19 1000, oM 3 20]
def c73_4 : OL := [oM 21 3, oF 22 4 1, oL 23 22, oB 24 .rem 21 23, oN 25 .gtr 24 0]
def c73_5 : OL := [oM 26 3, oF 27 4 1, oL 28 27, oB 29 .quo 26 28, oN 30 .add 29 1, oM 2 30]
def c73_6 : OL := [oM 31 3, oF 32 4 1, oL 33 32, oB 34 .quo 31 33, oM 2 34]
def lc73 : LC := (.seq (.reg false c73_0) (.seq (.seq (.reg false c73_1) (.cond (.t 16) (.seq (.reg false c73_2) .ret) .skip)) (.seq (.reg false c73_3) (.seq (.seq (.reg false c73_4) (.cond (.t 25) (.seq (.reg false c73_5) .ret) .skip)) (.seq (.reg false c73_6) .ret)))))
def lf73 : LFunc := ⟨1, [.tmp 2], true, lc73⟩
def hi73 : Qt := ⟨[], [none, none, none, none, none, none, none, none, none, none, none, none], [], []⟩
theorem lf73_ok : Qw Tryz.prog hi73 true Tryz.f73 = lf73.o := by kernel_rfl
def c74_0 : OL := [oC 2 0]
def c74_1 : OL := [oM 3 0, oM 4 0, ⟨some 5, .un .neg (.t 4), none⟩, ⟨some 6, .mm true (.t 3) (.t 5), none⟩, oM 2 6]
def lc74 : LC := (.seq (.reg false c74_0) (.seq (.reg false c74_1) .ret))
def lf74 : LFunc := ⟨1, [.tmp 2], true, lc74⟩
def hi74 : Qt := ⟨[], [none, none, none], [], []⟩
theorem lf74_ok : Qw Tryz.prog hi74 true Tryz.f74 = lf74.o := by kernel_rfl
def c75_0 : OL := [⟨some 2, .box (.t 0), none⟩, oC 4 0]
def c75_1 : OL := [oA 8 2 2, ⟨some 9, .callp 46 [(.t 8)], none⟩, oU 10 9]
def c75_2 : OL := [oC 4 0]
def c75_3 : OL := [oC 5 0]
def c75_4 : OL := [oM 11 1, ⟨some 12, .callz 48 [(.t 11)], none⟩, oE 13 12, oC 14 0]
def c75_5 : OL := [oB 15 .lss 14 13]
def c75_6 : OL := [oI 16 3 12 14, oA 17 3 16, ⟨some 7, .alloc [I L 0, .bool false, .nils], none⟩, oT 3 7 17]
def c75_7 : OL := [oM 18 5, oA 19 2 2, oF 20 2 7, oL 21 20, ⟨some 22, .iaddr 2 (.t 21) (.c (I L 0)), none⟩, oA 23 2 22, ⟨some 24, .callp 51 [(.t 19), (.t 23)], none⟩, oB 25 .add 18 24, oM 5 25]
def c75_8 : OL := [oF 26 2 7, oL 27 26, oF 28 2 7, oL 29 28, oE 30 29, oN 31 .sub 30 1, oI 32 2 27 31, oA 33 2 32, oT 2 2 33]
def c75_9 : OL := [oN 34 .add 14 1, oM 14 34]
def J4w : LC := (.seq (.reg false c75_5) (.seq (.cond (.t 15) .skip (.seq (.trim [5]) (.exit 0))) (.seq (.blk 1 (.seq (.reg false c75_6) (.seq (.reg true c75_7) (.reg false c75_8)))) (.reg false c75_9))))
def c75_11 : OL := [oM 35 5, oM 4 35]
def lc75 : LC := (.seq (.reg false c75_0) (.seq (.seq (.reg false c75_1) (.cond (.t 10) (.seq (.reg false c75_2) .ret) .skip)) (.seq (.reg false c75_3) (.seq (.seq (.reg false c75_4) (.blk 0 (.loop [2, 5, 12, 13, 14] J4w))) (.seq (.reg false c75_11) .ret)))))
def lf75 : LFunc := ⟨2, [.tmp 4], true, lc75⟩
def hi75 : Qt := ⟨[(12, .z)], [none, none, none, none, none, none, none, some [2, 5, 12, 13, 14], none, some [5], none, none, none, none, none, none, none], [], []⟩
theorem lf75_ok : Qw Tryz.prog hi75 true Tryz.f75 = lf75.o := by kernel_rfl
def c76_0 : OL := [⟨some 6, .mov (.c (.nils)), none⟩]
def c76_1 : OL := [⟨some 10, .bslice 0 3 42 [I L 0, .bool false, .nils] [], none⟩, oM 11 0, ⟨some 12, .app 3 40 42 [I L 0, .bool false, .nils] (.t 10) (.t 11), none⟩, oM 7 12]
def c76_2 : OL := [oM 13 1, oM 8 13]
def c76_3 : OL := [oM 14 8, oM 15 2, oB 16 .leq 14 15]
def c76_4 : OL := [oM 19 0, oM 20 1, oM 21 2, oB 22 .add 20 21, oM 23 8, oB 24 .sub 22 23, oI 25 3 19 24, oA 26 3 25, ⟨some 9, .alloc [I L 0, .bool false, .nils], none⟩, oT 3 9 26]
def c76_5 : OL := [oF 27 1 9, oL 28 27, oU 29 28]
def c76_6 : OL := [oA 30 3 9, ⟨some 31, .callz 77 [(.t 30)], none⟩, oT 3 9 31]
def c76_7 : OL := [oM 32 7, oM 33 8, oA 34 3 9, oI 35 3 32 33, oT 3 35 34]
def c76_8 : OL := [oM 17 8, oN 18 .add 17 1, oM 8 18]
def J3y : LC := (.seq (.seq (.reg false c76_3) (.cond (.t 16) .skip (.seq (.trim [7]) (.exit 0)))) (.seq (.blk 1 (.seq (.reg false c76_4) (.seq (.seq (.reg false c76_5) (.cond (.t 29) (.reg false c76_6) .skip)) (.reg false c76_7)))) (.reg false c76_8)))
def c76_10 : OL := [oM 36 7, oM 6 36]
def lc76 : LC := (.seq (.reg false c76_0) (.seq (.reg false c76_1) (.seq (.seq (.reg false c76_2) (.blk 0 (.loop [0, 1, 2, 7, 8] J3y))) (.seq (.reg false c76_10) .ret))))
def lf76 : LFunc := ⟨3, [.tmp 6], true, lc76⟩
def hi76 : Qt := ⟨[(31, .z)], [none, none, none, some [0, 1, 2, 7, 8], none, some [7], none, none, none, none, none, none, none, none], [], []⟩
theorem lf76_ok : Qw Tryz.prog hi76 true Tryz.f76 = lf76.o := by kernel_rfl
def c77_0 : OL := [⟨some 1, .box (.t 0), none⟩, ⟨some 2, .alloc [I L 0, .bool false, .nils], none⟩]
def c77_1 : OL := [oA 5 3 1, ⟨some 6, .callp 24 [(.t 5)], none⟩, oU 7 6]
def c77_2 : OL := [⟨some 8, .build [I L 0, .bool false, .nils] [], none⟩, oT 3 2 8]
def c77_3 : OL := [oF 9 0 1, oL 10 9, oF 11 1 1, oL 12 11, ⟨some 13, .build [I L 0, .bool false, .nils] [(0, 1, (.t 10)), (1, 1, (.t 12))], none⟩, ⟨some 3, .alloc [I L 0, .bool false, .nils], none⟩, oT 3 3 13]
def c77_4 : OL := [oF 14 2 1, oL 15 14, oE 16 15, oN 17 .sub 16 1, oM 4 17]
def c77_5 : OL := [oM 18 4, oN 19 .geq 18 0]
def c77_6 : OL := [oF 22 2 3, oL 23 22, oF 24 2 1, oL 25 24, oM 26 4, oI 27 2 25 26, oA 28 2 27, ⟨some 29, .bslice 1 2 27 [I L 0, I L 0] [(0, 2, (.t 28))], none⟩, ⟨some 30, .app 2 16 27 [I L 0, I L 0] (.t 23) (.t 29), none⟩, oF 31 2 3, oT 1 31 30]
def c77_7 : OL := [oM 20 4, oN 21 .sub 20 1, oM 4 21]
def J9v : LC := (.seq (.seq (.reg false c77_5) (.cond (.t 19) .skip (.seq (.trim [2, 3]) (.exit 0)))) (.seq (.blk 1 (.reg true c77_6)) (.reg false c77_7)))
def c77_9 : OL := [oA 32 3 3, oT 3 2 32]
def lc77 : LC := (.seq (.reg false c77_0) (.seq (.seq (.reg false c77_1) (.cond (.t 7) (.seq (.reg false c77_2) .ret) .skip)) (.seq (.reg false c77_3) (.seq (.seq (.reg false c77_4) (.blk 0 (.loop [1, 2, 3, 4] J9v))) (.seq (.reg false c77_9) .ret)))))
def lf77 : LFunc := ⟨1, [.cell 2 true 3], true, lc77⟩
def hi77 : Qt := ⟨[], [none, none, none, none, none, none, none, some [1, 2, 3, 4], none, some [2, 3], none, none, none, none, none], [], []⟩
theorem lf77_ok : Qw Tryz.prog hi77 true Tryz.f77 = lf77.o := by kernel_rfl
def c78_0 : OL := [⟨some 2, .box (.t 0), none⟩, ⟨some 4, .alloc [I L 0, .bool false, .nils], none⟩]
def c78_1 : OL := [oA 9 3 2, ⟨some 10, .callp 24 [(.t 9)], none⟩, oU 11 10]
def c78_2 : OL := [⟨some 12, .build [I L 0, .bool false, .nils] [], none⟩, oT 3 4 12]
def c78_3 : OL := [oF 13 2 2, oL 14 13, oE 15 14, oC 5 0, oM 6 15]
def c78_4 : OL := [oF 16 1 2, oL 17 16]
def c78_5 : OL := [oM 18 1, oM 19 6, oB 20 .rem 18 19, oM 21 6, oB 22 .add 20 21, oM 23 6, oB 24 .rem 22 23, oM 5 24]
def c78_6 : OL := [oF 25 0 2, oL 26 25, oF 27 1 2, oL 28 27, ⟨some 29, .build [I L 0, .bool false, .nils] [(0, 1, (.t 26)), (1, 1, (.t 28))], none⟩, ⟨some 7, .alloc [I L 0, .bool false, .nils], none⟩, oT 3 7 29]
def c78_7 : OL := [oF 30 2 2, oL 31 30, oE 32 31, oC 33 0]
def c78_8 : OL := [oB 34 .lss 33 32]
def c78_9 : OL := [oM 35 33, oM 8 35]
def J9y : OL := [oF 36 2 7, oL 37 36, oF 38 2 2, oL 39 38, oM 40 5, oM 41 8, oB 42 .add 40 41, oM 43 6, oB 44 .rem 42 43, oI 45 2 39 44, oA 46 2 45, ⟨some 47, .bslice 1 2 27 [I L 0, I L 0] [(0, 2, (.t 46))], none⟩, ⟨some 48, .app 2 16 27 [I L 0, I L 0] (.t 37) (.t 47), none⟩, oF 49 2 7, oT 1 49 48]
def J0u : OL := [oN 50 .add 33 1, oM 33 50]
def J5r : LC := (.seq (.reg false c78_8) (.seq (.cond (.t 34) .skip (.seq (.trim [4, 7]) (.exit 0))) (.seq (.blk 1 (.seq (.reg false c78_9) (.reg true J9y))) (.reg false J0u))))
def c78_13 : OL := [oA 51 3 7, oT 3 4 51]
def lc78 : LC := (.seq (.reg false c78_0) (.seq (.seq (.reg false c78_1) (.cond (.t 11) (.seq (.reg false c78_2) .ret) .skip)) (.seq (.reg true c78_3) (.seq (.seq (.reg false c78_4) (.cond (.t 17) (.reg false c78_5) .skip)) (.seq (.reg false c78_6) (.seq (.seq (.reg false c78_7) (.blk 0 (.loop [2, 4, 5, 6, 7, 32, 33] J5r))) (.seq (.reg false c78_13) .ret)))))))
def lf78 : LFunc := ⟨2, [.cell 4 true 3], true, lc78⟩
def hi78 : Qt := ⟨[], [none, none, none, none, none, none, none, none, none, none, some [2, 4, 5, 6, 7, 32, 33], none, some [4, 7], none, none, none, none, none, none], [], []⟩
theorem lf78_ok : Qw Tryz.prog hi78 true Tryz.f78 = lf78.o := by kernel_rfl
def c79_0 : OL := [oC 2 0]
def c79_1 : OL := [oM 3 0, oM 4 0, ⟨some 5, .un .neg (.t 4), none⟩, ⟨some 6, .mm true (.t 3) (.t 5), none⟩, oM 2 6]
def lc79 : LC := (.seq (.reg false c79_0) (.seq (.reg false c79_1) .ret))
def lf79 : LFunc := ⟨1, [.tmp 2], true, lc79⟩
def hi79 : Qt := ⟨[], [none, none, none], [], []⟩
theorem lf79_ok : Qw Tryz.prog hi79 true Tryz.f79 = lf79.o := by kernel_rfl
def c80_0 : OL := [⟨some 2, .box (.t 0), none⟩, ⟨some 3, .box (.t 1), none⟩, ⟨some 4, .mov (.c (.bool false)), none⟩]
def c80_1 : OL := [oA 5 1 2, ⟨some 6, .callp 22 [(.t 5)], none⟩, oM 7 6, oAg 8 1 2 7 true, oFg 9 1 3 7 true, oLg 10 9 7 true, ⟨some 11, .callp 93 [(.t 8), (.t 10)], some (7, true)⟩, oFg 12 0 3 7 true, oLg 13 12 7 true, ⟨some 14, .callp 92 [(.t 11), (.t 13)], some (7, true)⟩, oP 15 7 14, oM 4 15]
def lc80 : LC := (.seq (.reg false c80_0) (.seq (.reg true c80_1) .ret))
def lf80 : LFunc := ⟨2, [.tmp 4], true, lc80⟩
def hi80 : Qt := ⟨[], [none, none, none], [], []⟩
theorem lf80_ok : Qw Tryz.prog hi80 true Tryz.f80 = lf80.o := by kernel_rfl
def c81_0 : OL := [⟨some 3, .box (.t 0), none⟩, ⟨some 4, .box (.t 1), none⟩, ⟨some 5, .box (.t 2), none⟩, ⟨some 6, .mov (.c (.nils)), none⟩]
def c81_1 : OL := [oA 12 2 4, ⟨some 13, .build [I L 0, I L 0, I L 0] [(0, 2, (.t 12)), (2, 1, (.c (I L (-1))))], none⟩, ⟨some 14, .bslice 1 3 118 [I L 0, I L 0, I L 0] [(0, 3, (.t 13))], none⟩, oM 7 14]
def c81_2 : OL := [oC 8 0]
def c81_3 : OL := [oM 15 8, oM 16 7, oE 17 16, oB 18 .lss 15 17, oM 19 18, oMg 20 7 19 true, oMg 21 7 19 true, oEg 22 21 19 true, oNg 23 .sub 22 1 19 true, oIg 24 3 20 23 19 true, oFg 25 0 24 19 true, oAg 26 2 25 19 true, oAg 27 2 5 19 true, ⟨some 28, .eqv true true [false, false] (.t 26) (.t 27), some (19, true)⟩, oP 29 19 28]
def c81_4 : OL := [oM 32 7, oM 33 8, oI 34 3 32 33, oF 35 0 34, oA 36 2 35, ⟨some 9, .alloc [I L 0, I L 0], none⟩, oT 2 9 36]
def c81_5 : OL := [oF 37 0 9, oL 38 37, oN 39 .add 38 1, oF 40 1 9, oL 41 40, ⟨some 42, .build [I L 0, I L 0] [(0, 1, (.t 39)), (1, 1, (.t 41))], none⟩, oF 43 0 9, oL 44 43, oN 45 .sub 44 1, oF 46 1 9, oL 47 46, ⟨some 48, .build [I L 0, I L 0] [(0, 1, (.t 45)), (1, 1, (.t 47))], none⟩, oF 49 0 9, oL 50 49, oF 51 1 9, oL 52 51, oN 53 .add 52 1, ⟨some 54, .build [I L 0, I L 0] [(0, 1, (.t 50)), (1, 1, (.t 53))], none⟩, oF 55 0 9, oL 56 55, oF 57 1 9, oL 58 57, oN 59 .sub 58 1, ⟨some 60, .build [I L 0, I L 0] [(0, 1, (.t 56)), (1, 1, (.t 59))], none⟩, ⟨some 61, .bslice 4 2 27 [I L 0, I L 0] [(0, 2, (.t 42)), (2, 2, (.t 48)), (4, 2, (.t 54)), (6, 2, (.t 60))], none⟩, oM 10 61]
def c81_6 : OL := [oC 11 0]
def c81_7 : OL := [oM 62 11, oN 63 .lss 62 4, oM 64 63, oMg 65 7 64 true, oMg 66 7 64 true, oEg 67 66 64 true, oNg 68 .sub 67 1 64 true, oIg 69 3 65 68 64 true, oFg 70 0 69 64 true, oAg 71 2 70 64 true, oAg 72 2 5 64 true, ⟨some 73, .eqv true true [false, false] (.t 71) (.t 72), some (64, true)⟩, oP 74 64 73]
def c81_8 : OL := [oA 77 1 3, oM 78 10, oM 79 11, oI 80 2 78 79, oA 81 2 80, ⟨some 82, .callp 80 [(.t 77), (.t 81)], none⟩, oM 83 82, oMg 84 7 83 true, oMg 85 10 83 true, oMg 86 11 83 true, oIg 87 2 85 86 83 true, oAg 88 2 87 83 true, ⟨some 89, .callp 94 [(.t 84), (.t 88)], some (83, true)⟩, oUg 90 89 83 true, oP 91 83 90]
def c81_9 : OL := [oM 92 7, oM 93 10, oM 94 11, oI 95 2 93 94, oA 96 2 95, oM 97 8, ⟨some 98, .build [I L 0, I L 0, I L 0] [(0, 2, (.t 96)), (2, 1, (.t 97))], none⟩, ⟨some 99, .bslice 1 3 118 [I L 0, I L 0, I L 0] [(0, 3, (.t 98))], none⟩, ⟨some 100, .app 3 24 118 [I L 0, I L 0, I L 0] (.t 92) (.t 99), none⟩, oM 7 100]
def J88 : OL := [oM 75 11, oN 76 .add 75 1, oM 11 76]
def Jxx : LC := (.seq (.seq (.reg true c81_7) (.cond (.t 74) .skip (.seq (.trim [3, 5, 7, 8]) (.exit 2)))) (.seq (.blk 3 (.seq (.reg true c81_8) (.cond (.t 91) (.reg false c81_9) .skip))) (.reg false J88)))
def J76 : OL := [oM 30 8, oN 31 .add 30 1, oM 8 31]
def J59 : LC := (.seq (.seq (.reg true c81_3) (.cond (.t 29) .skip (.seq (.trim [7]) (.exit 0)))) (.seq (.blk 1 (.seq (.reg false c81_4) (.seq (.reg false c81_5) (.seq (.reg false c81_6) (.blk 2 (.loop [3, 5, 7, 8, 10, 11] Jxx)))))) (.reg false J76)))
def c81_14 : OL := [oM 101 7, oM 6 101]
def lc81 : LC := (.seq (.reg false c81_0) (.seq (.reg false c81_1) (.seq (.seq (.reg false c81_2) (.blk 0 (.loop [3, 5, 7, 8] J59))) (.seq (.reg false c81_14) .ret))))
def lf81 : LFunc := ⟨3, [.tmp 6], true, lc81⟩
def hi81 : Qt := ⟨[], [none, none, none, some [3, 5, 7, 8], none, some [7], none, none, none, none, some [3, 5, 7, 8, 10, 11], none, some [3, 5, 7, 8], none, none, none, none, none, none, none], [], []⟩
theorem lf81_ok : Qw Tryz.prog hi81 true Tryz.f81 = lf81.o := by kernel_rfl
def c82_0 : OL := [⟨some 1, .box (.t 0), none⟩, ⟨some 2, .mov (.c (.bool false)), none⟩]
def c82_1 : OL := [oF 3 0 1, oL 4 3, oN 5 .geq 4 (-4096), oM 6 5, oFg 7 0 1 6 true, oLg 8 7 6 true, oNg 9 .lss 8 4096 6 true, oP 10 6 9, oM 11 10, oFg 12 1 1 11 true, oLg 13 12 11 true, oNg 14 .geq 13 (-4096) 11 true, oP 15 11 14, oM 16 15, oFg 17 1 1 16 true, oLg 18 17 16 true, oNg 19 .lss 18 4096 16 true, oP 20 16 19, oM 2 20]
def lc82 : LC := (.seq (.reg false c82_0) (.seq (.reg false c82_1) .ret))
def lf82 : LFunc := ⟨1, [.tmp 2], true, lc82⟩
def hi82 : Qt := ⟨[], [none, none, none], [], []⟩
theorem lf82_ok : Qw Tryz.prog hi82 true Tryz.f82 = lf82.o := by kernel_rfl
def c83_0 : OL := [oC 4 0]
def c83_1 : OL := [oM 5 0, oM 6 1, oB 7 .lss 5 6]
def c83_2 : OL := [oM 8 0, oN 9 .add 8 1, oM 4 9]
def c83_3 : OL := [oM 10 0, oN 11 .sub 10 1, oM 4 11]
def lc83 : LC := (.seq (.reg false c83_0) (.seq (.seq (.reg false c83_1) (.cond (.t 7) (.seq (.reg false c83_2) .ret) .skip)) (.seq (.reg false c83_3) .ret)))
def lf83 : LFunc := ⟨2, [.tmp 4], true, lc83⟩
def hi83 : Qt := ⟨[], [none, none, none, none, none, none, none], [], []⟩
theorem lf83_ok : Qw Tryz.prog hi83 true Tryz.f83 = lf83.o := by kernel_rfl
def c84_0 : OL := [⟨some 1, .box (.t 0), none⟩, ⟨some 2, .alloc [I L 0, .bool false, .nils], none⟩]
def c84_1 : OL := [⟨some 3, .msk [7, 10] (.faddr 0 (.t 1)), none⟩, ⟨some 4, .msk [7, 10] (.load false 1 (.t 3)), none⟩, ⟨some 5, .msk [7, 10] (.faddr 1 (.t 1)), none⟩, ⟨some 6, .msk [7, 10] (.load false 1 (.t 5)), none⟩, oF 8 2 1, oL 9 8, ⟨some 7, .bslice 0 2 27 [I L 0, I L 0] [], none⟩, ⟨some 10, .appn true [7, 10] 2 16 27 [I L 0, I L 0] (.t 7) (.t 9), none⟩, ⟨some 11, .build [I L 0, .bool false, .nils] [(0, 1, (.t 4)), (1, 1, (.t 6)), (2, 1, (.t 10))], none⟩, oT 3 2 11]
def lc84 : LC := (.seq (.reg false c84_0) (.seq (.reg true c84_1) .ret))
def lf84 : LFunc := ⟨1, [.cell 2 true 3], true, lc84⟩
def hi84 : Qt := ⟨[(10, .z)], [none, none, none], [(1, [0, 1, 2, 3, 5, 6, 4, 7, 8, 9])], [(1, [7, 10], [3, 4, 5, 6])]⟩
theorem lf84_ok : Qw Tryz.prog hi84 true Tryz.f84 = lf84.o := by kernel_rfl
def c85_0 : OL := [⟨some 1, .box (.t 0), none⟩, ⟨some 2, .alloc [I L 0, I L 0, I L 0, I L 0], none⟩]
def c85_1 : OL := [oA 4 3 1, ⟨some 5, .callp 68 [(.t 4)], none⟩, ⟨some 3, .alloc [I L 0, I L 0, I L 0, I L 0], none⟩, oT 4 3 5]
def c85_2 : OL := [oF 6 1 1, oL 7 6, oU 8 7]
def c85_3 : OL := [⟨some 9, .iaddrA 2 2 (.t 3) (.c (I L 1)), none⟩, oA 10 2 9, ⟨some 11, .iaddrA 2 2 (.t 3) (.c (I L 0)), none⟩, oA 12 2 11, ⟨some 13, .iaddrA 2 2 (.t 3) (.c (I L 0)), none⟩, oT 2 13 10, ⟨some 14, .iaddrA 2 2 (.t 3) (.c (I L 1)), none⟩, oT 2 14 12]
def c85_4 : OL := [oA 15 4 3, oT 4 2 15]
def lc85 : LC := (.seq (.reg false c85_0) (.seq (.reg false c85_1) (.seq (.seq (.reg false c85_2) (.cond (.t 8) (.reg false c85_3) .skip)) (.seq (.reg false c85_4) .ret))))
def lf85 : LFunc := ⟨1, [.cell 2 true 4], true, lc85⟩
def hi85 : Qt := ⟨[], [none, none, none, none, none, none], [], []⟩
theorem lf85_ok : Qw Tryz.prog hi85 true Tryz.f85 = lf85.o := by kernel_rfl
def c86_0 : OL := [⟨some 2, .box (.t 0), none⟩, ⟨some 3, .box (.t 1), none⟩, oC 4 0]
def c86_1 : OL := [oF 5 0 2, oL 6 5, oF 7 0 3, oL 8 7, oB 9 .sub 6 8, oF 10 0 3, oL 11 10, oF 12 0 2, oL 13 12, oB 14 .sub 11 13, ⟨some 15, .mm true (.t 9) (.t 14), none⟩, oF 16 1 2, oL 17 16, oF 18 1 3, oL 19 18, oB 20 .sub 17 19, oF 21 1 3, oL 22 21, oF 23 1 2, oL 24 23, oB 25 .sub 22 24, ⟨some 26, .mm true (.t 20) (.t 25), none⟩, oB 27 .add 15 26, oM 4 27]
def lc86 : LC := (.seq (.reg false c86_0) (.seq (.reg false c86_1) .ret))
def lf86 : LFunc := ⟨2, [.tmp 4], true, lc86⟩
def hi86 : Qt := ⟨[], [none, none, none], [], []⟩
theorem lf86_ok : Qw Tryz.prog hi86 true Tryz.f86 = lf86.o := by kernel_rfl
def c87_0 : OL := [⟨some 3, .box (.t 0), none⟩, ⟨some 6, .mov (.c (.bool false)), none⟩]
def c87_1 : OL := [oF 10 0 3, oA 11 2 10, ⟨some 7, .alloc [I L 0, I L 0], none⟩, oT 2 7 11]
def c87_2 : OL := [oM 12 1, oN 13 .gtr 12 0]
def c87_3 : OL := [oF 14 2 3, oL 15 14, oM 16 1, oN 17 .sub 16 1, oI 18 4 15 17, ⟨some 19, .iaddrA 2 2 (.t 18) (.c (I L 1)), none⟩, oA 20 2 19, oT 2 7 20]
def c87_4 : OL := [oA 21 2 7, oF 22 2 3, oL 23 22, oM 24 1, oI 25 4 23 24, ⟨some 26, .iaddrA 2 2 (.t 25) (.c (I L 0)), none⟩, oA 27 2 26, ⟨some 28, .callp 86 [(.t 21), (.t 27)], none⟩, oF 29 4 3, oL 30 29, oM 31 2, oI 32 1 30 31, oL 33 32, oB 34 .add 28 33, oF 35 4 3, oL 36 35, oM 37 1, oI 38 1 36 37, oL 39 38, oB 40 .sub 34 39, oM 8 40]
def c87_5 : OL := [oA 41 2 7, oF 42 3 3, oL 43 42, oM 44 2, oI 45 4 43 44, ⟨some 46, .iaddrA 2 2 (.t 45) (.c (I L 0)), none⟩, oA 47 2 46, ⟨some 48, .callp 86 [(.t 41), (.t 47)], none⟩, oF 49 5 3, oL 50 49, oM 51 2, oI 52 1 50 51, oL 53 52, oB 54 .add 48 53, oF 55 5 3, oL 56 55, oM 57 1, oI 58 1 56 57, oL 59 58, oB 60 .sub 54 59, oM 9 60]
def c87_6 : OL := [oM 61 2, oN 62 .add 61 1, oF 63 2 3, oL 64 63, oE 65 64, oB 66 .lss 62 65]
def c87_7 : OL := [oM 67 8, oF 68 2 3, oL 69 68, oM 70 2, oI 71 4 69 70, ⟨some 72, .iaddrA 2 2 (.t 71) (.c (I L 1)), none⟩, oA 73 2 72, oF 74 2 3, oL 75 74, oM 76 2, oN 77 .add 76 1, oI 78 4 75 77, ⟨some 79, .iaddrA 2 2 (.t 78) (.c (I L 0)), none⟩, oA 80 2 79, ⟨some 81, .callp 86 [(.t 73), (.t 80)], none⟩, oB 82 .add 67 81, oM 8 82]
def c87_8 : OL := [oM 83 9, oF 84 3 3, oL 85 84, oM 86 1, oI 87 4 85 86, ⟨some 88, .iaddrA 2 2 (.t 87) (.c (I L 1)), none⟩, oA 89 2 88, oF 90 2 3, oL 91 90, oM 92 2, oN 93 .add 92 1, oI 94 4 91 93, ⟨some 95, .iaddrA 2 2 (.t 94) (.c (I L 0)), none⟩, oA 96 2 95, ⟨some 97, .callp 86 [(.t 89), (.t 96)], none⟩, oB 98 .add 83 97, oM 9 98]
def c87_9 : OL := [oM 99 9, oM 100 8, oB 101 .lss 99 100, oM 6 101]
def lc87 : LC := (.seq (.reg false c87_0) (.seq (.reg false c87_1) (.seq (.seq (.reg false c87_2) (.cond (.t 13) (.reg false c87_3) .skip)) (.seq (.reg true c87_4) (.seq (.reg true c87_5) (.seq (.seq (.reg false c87_6) (.cond (.t 66) (.seq (.reg true c87_7) (.reg true c87_8)) .skip)) (.seq (.reg false c87_9) .ret)))))))
def lf87 : LFunc := ⟨3, [.tmp 6], true, lc87⟩
def hi87 : Qt := ⟨[], [none, none, none, none, none, none, none, none, none, none, none], [], []⟩
theorem lf87_ok : Qw Tryz.prog hi87 true Tryz.f87 = lf87.o := by kernel_rfl
def c88_0 : OL := [⟨some 2, .mov (.c (.nils)), none⟩]
def c88_1 : OL := [oM 5 0, oE 6 5, ⟨some 7, .mkS 2 16 27 [I L 0, I L 0] (.c (I L 0)) (.t 6), none⟩, oM 3 7]
def c88_2 : OL := [oM 8 0, oE 9 8, oN 10 .sub 9 1, oM 4 10]
def c88_3 : OL := [oM 11 4, oN 12 .geq 11 0]
def c88_4 : OL := [oM 15 3, oM 16 0, oM 17 4, oI 18 2 16 17, oA 19 2 18, ⟨some 20, .bslice 1 2 27 [I L 0, I L 0] [(0, 2, (.t 19))], none⟩, ⟨some 21, .app 2 16 27 [I L 0, I L 0] (.t 15) (.t 20), none⟩, oM 3 21]
def c88_5 : OL := [oM 13 4, oN 14 .sub 13 1, oM 4 14]
def J0w : LC := (.seq (.seq (.reg false c88_3) (.cond (.t 12) .skip (.seq (.trim [3]) (.exit 0)))) (.seq (.blk 1 (.reg false c88_4)) (.reg false c88_5)))
def c88_7 : OL := [oM 22 3, oM 2 22]
def lc88 : LC := (.seq (.reg false c88_0) (.seq (.reg false c88_1) (.seq (.seq (.reg false c88_2) (.blk 0 (.loop [0, 3, 4] J0w))) (.seq (.reg false c88_7) .ret))))
def lf88 : LFunc := ⟨1, [.tmp 2], true, lc88⟩
def hi88 : Qt := ⟨[], [none, none, none, some [0, 3, 4], none, some [3], none, none, none, none, none], [], []⟩
theorem lf88_ok : Qw Tryz.prog hi88 true Tryz.f88 = lf88.o := by kernel_rfl
def c89_0 : OL := [⟨some 2, .box (.t 0), none⟩, ⟨some 4, .alloc [I L 0, .bool false, .nils], none⟩]
def c89_1 : OL := [oA 7 3 2, ⟨some 8, .callp 17 [(.t 7)], none⟩, oU 9 8]
def c89_2 : OL := [⟨some 10, .build [I L 0, .bool false, .nils] [], none⟩, oT 3 4 10]
def c89_3 : OL := [oC 5 0]
def c89_4 : OL := [oF 11 2 2, oL 12 11, oE 13 12, oM 6 13]
def c89_5 : OL := [oF 14 1 2, oL 15 14]
def c89_6 : OL := [oM 16 1, oM 17 6, oB 18 .rem 16 17, oM 19 6, oB 20 .add 18 19, oM 21 6, oB 22 .rem 20 21, oM 5 22]
def c89_7 : OL := [oF 23 0 2, oL 24 23, oF 25 1 2, oL 26 25, oF 27 2 2, oL 28 27, oM 29 5, ⟨some 30, .callz 95 [(.t 28), (.t 29)], none⟩, ⟨some 31, .build [I L 0, .bool false, .nils] [(0, 1, (.t 24)), (1, 1, (.t 26)), (2, 1, (.t 30))], none⟩, oT 3 4 31]
def lc89 : LC := (.seq (.reg false c89_0) (.seq (.seq (.reg false c89_1) (.cond (.t 9) (.seq (.reg false c89_2) .ret) .skip)) (.seq (.reg false c89_3) (.seq (.seq (.reg false c89_4) (.seq (.reg false c89_5) (.cond (.t 15) (.reg false c89_6) .skip))) (.seq (.reg true c89_7) .ret)))))
def lf89 : LFunc := ⟨2, [.cell 4 true 3], true, lc89⟩
def hi89 : Qt := ⟨[(30, .z)], [none, none, none, none, none, none, none, none, none, none, none], [], []⟩
theorem lf89_ok : Qw Tryz.prog hi89 true Tryz.f89 = lf89.o := by kernel_rfl
def c90_0 : OL := [⟨some 3, .box (.t 0), none⟩, ⟨some 4, .box (.t 1), none⟩, ⟨some 5, .box (.t 2), none⟩, ⟨some 6, .mov (.c (.nils)), none⟩, ⟨some 7, .mov (.c (.bool false)), none⟩]
def c90_1 : OL := [oA 13 1 3, oA 14 2 4, ⟨some 15, .callp 96 [(.t 13), (.t 14)], none⟩, oU 16 15, oM 17 16, oAg 18 1 3 17 false, oAg 19 2 5 17 false, ⟨some 20, .callp 96 [(.t 18), (.t 19)], some (17, false)⟩, oUg 21 20 17 false, oO 22 17 21]
def c90_2 : OL := [⟨some 6, .mov (.c (.nils)), none⟩, ⟨some 7, .mov (.c (.bool false)), none⟩]
def c90_3 : OL := [oA 23 1 3, oA 24 2 4, oA 25 2 5, ⟨some 26, .callz 97 [(.t 23), (.t 24), (.t 25)], none⟩, oM 8 26]
def c90_4 : OL := [oM 28 8, oA 29 2 5, ⟨some 30, .look true true [false, false] (.agg [I L 0, I L 0]) (.t 28) (.t 29), none⟩, oM 27 30, ⟨some 31, .ext (.t 27) 0, none⟩, ⟨some 32, .ext (.t 27) 1, none⟩, ⟨some 9, .alloc [I L 0, I L 0], none⟩, oT 2 9 31, oM 10 32]
def c90_5 : OL := [oM 33 10, oU 34 33]
def c90_6 : OL := [⟨some 6, .mov (.c (.nils)), none⟩, ⟨some 7, .mov (.c (.bool false)), none⟩]
def c90_7 : OL := [oA 35 2 5, ⟨some 36, .bslice 1 2 27 [I L 0, I L 0] [(0, 2, (.t 35))], none⟩, oM 11 36]
def c90_8 : OL := [oA 37 2 5, ⟨some 12, .alloc [I L 0, I L 0], none⟩, oT 2 12 37]
def c90_9 : OL := [oA 38 2 12, oA 39 2 4, ⟨some 40, .eqv true true [false, false] (.t 38) (.t 39), none⟩]
def J5s : OL := [oM 41 8, oA 42 2 12, ⟨some 43, .look false true [false, false] (.agg [I L 0, I L 0]) (.t 41) (.t 42), none⟩, oT 2 12 43]
def J69 : OL := [oM 44 11, oA 45 2 12, ⟨some 46, .bslice 1 2 27 [I L 0, I L 0] [(0, 2, (.t 45))], none⟩, ⟨some 47, .app 2 16 27 [I L 0, I L 0] (.t 44) (.t 46), none⟩, oM 11 47]
def J13 : OL := [oA 48 2 12]
def J03 : OL := [⟨some 12, .alloc [I L 0, I L 0], none⟩, oT 2 12 48]
def J6p : LC := (.seq (.seq (.reg false c90_9) (.cond (.t 40) .skip (.seq (.trim [11]) (.exit 0)))) (.seq (.blk 1 (.seq (.reg false J5s) (.reg false J69))) (.seq (.reg false J13) (.reg false J03))))
def c90_15 : OL := [oM 49 11, ⟨some 50, .callr 98 [(.t 49)], none⟩]
def c90_16 : OL := [oM 51 11, oM 6 51, ⟨some 7, .mov (.c (.bool true)), none⟩]
def lc90 : LC := (.seq (.reg false c90_0) (.seq (.seq (.reg false c90_1) (.cond (.t 22) (.seq (.reg false c90_2) .ret) .skip)) (.seq (.reg false c90_3) (.seq (.seq (.reg false c90_4) (.seq (.reg false c90_5) (.cond (.t 34) (.seq (.reg false c90_6) .ret) .skip))) (.seq (.reg false c90_7) (.seq (.seq (.reg false c90_8) (.blk 0 (.loop [4, 8, 11, 12] J6p))) (.seq (.reg false c90_15) (.seq (.reg false c90_16) .ret))))))))
def lf90 : LFunc := ⟨3, [.tmp 6, .tmp 7], true, lc90⟩
def hi90 : Qt := ⟨[(26, .z), (50, .r)], [none, none, none, none, none, none, none, none, none, none, none, none, none, some [4, 8, 11, 12], none, some [11], none, none, none, none, none, none, none, none], [], []⟩
theorem lf90_ok : Qw Tryz.prog hi90 true Tryz.f90 = lf90.o := by kernel_rfl
def c91_0 : OL := [⟨some 2, .box (.t 0), none⟩, ⟨some 3, .box (.t 1), none⟩, ⟨some 4, .mov (.c (.nils)), none⟩]
def c91_1 : OL := [oA 6 2 2, ⟨some 7, .callp 99 [(.t 6)], none⟩, oU 8 7, oM 9 8, oAg 10 2 3 9 false, ⟨some 11, .callp 99 [(.t 10)], some (9, false)⟩, oUg 12 11 9 false, oO 13 9 12]
def c91_2 : OL := [⟨some 4, .mov (.c (.nils)), none⟩]
def c91_3 : OL := [oA 14 2 2, ⟨some 15, .bslice 1 2 27 [I L 0, I L 0] [(0, 2, (.t 14))], none⟩, oM 5 15]
def c91_4 : OL := [oA 16 2 2, oA 17 2 3, ⟨some 18, .eqv true true [false, false] (.t 16) (.t 17), none⟩]
def c91_5 : OL := [oF 24 0 2, oL 25 24, oF 26 0 3, oL 27 26, oB 28 .lss 25 27, oM 23 28]
def c91_6 : OL := [oF 29 0 2, oL 30 29, oN 31 .add 30 1, oF 32 0 2, oT 1 32 31]
def c91_7 : OL := [oF 34 0 2, oL 35 34, oF 36 0 3, oL 37 36, oB 38 .gtr 35 37, oM 33 38]
def c91_8 : OL := [oF 39 0 2, oL 40 39, oN 41 .sub 40 1, oF 42 0 2, oT 1 42 41]
def c91_9 : OL := [oF 44 1 2, oL 45 44, oF 46 1 3, oL 47 46, oB 48 .lss 45 47, oM 43 48]
def J8k : OL := [oF 49 1 2, oL 50 49, oN 51 .add 50 1, oF 52 1 2, oT 1 52 51]
def J1y : OL := [oF 19 1 2, oL 20 19, oN 21 .sub 20 1, oF 22 1 2, oT 1 22 21]
def J1w : OL := [oM 53 5, oA 54 2 2, ⟨some 55, .bslice 1 2 27 [I L 0, I L 0] [(0, 2, (.t 54))], none⟩, ⟨some 56, .app 2 16 27 [I L 0, I L 0] (.t 53) (.t 55), none⟩, oM 5 56]
def J9p : LC := (.seq (.seq (.reg false c91_4) (.cond (.t 18) .skip (.seq (.trim [5]) (.exit 0)))) (.blk 1 (.seq (.blk 2 (.seq (.reg false c91_5) (.cond (.t 23) (.reg false c91_6) (.seq (.reg false c91_7) (.cond (.t 33) (.reg false c91_8) (.seq (.reg false c91_9) (.cond (.t 43) (.reg false J8k) (.reg false J1y)))))))) (.reg false J1w))))
def c91_14 : OL := [oM 57 5, oM 4 57]
def lc91 : LC := (.seq (.reg false c91_0) (.seq (.seq (.reg false c91_1) (.cond (.t 13) (.seq (.reg false c91_2) .ret) .skip)) (.seq (.reg false c91_3) (.seq (.blk 0 (.loop [2, 3, 5] J9p)) (.seq (.reg false c91_14) .ret)))))
def lf91 : LFunc := ⟨2, [.tmp 4], true, lc91⟩
def hi91 : Qt := ⟨[], [none, none, none, none, none, none, some [2, 3, 5], none, some [5], none, none, none, none, none, none, none, none], [], []⟩
theorem lf91_ok : Qw Tryz.prog hi91 true Tryz.f91 = lf91.o := by kernel_rfl
def c92_0 : OL := [⟨some 4, .mov (.c (.bool false)), none⟩]
def c92_1 : OL := [oC 5 0]
def c92_2 : OL := [oM 6 5, oM 7 0, oE 8 7, oB 9 .lss 6 8]
def c92_3 : OL := [oM 12 0, oM 13 5, oI 14 2 12 13, oF 15 0 14, oL 16 15, oM 17 1, oB 18 .leq 16 17, oM 19 18, oMg 20 1 19 true, oMg 21 0 19 true, oMg 22 5 19 true, oIg 23 2 21 22 19 true, oFg 24 1 23 19 true, oLg 25 24 19 true, oBg 26 .lss 20 25 19 true, oP 27 19 26]
def c92_4 : OL := [⟨some 4, .mov (.c (.bool true)), none⟩]
def c92_5 : OL := [oM 10 5, oN 11 .add 10 1, oM 5 11]
def J7b : LC := (.seq (.seq (.reg false c92_2) (.cond (.t 9) .skip (.seq (.trim []) (.exit 0)))) (.seq (.blk 1 (.seq (.reg false c92_3) (.cond (.t 27) (.seq (.reg false c92_4) (.seq (.trim [4]) .ret)) .skip))) (.reg false c92_5)))
def c92_7 : OL := [⟨some 4, .mov (.c (.bool false)), none⟩]
def lc92 : LC := (.seq (.reg false c92_0) (.seq (.seq (.reg false c92_1) (.blk 0 (.loop [0, 1, 5] J7b))) (.seq (.reg false c92_7) .ret)))
def lf92 : LFunc := ⟨2, [.tmp 4], true, lc92⟩
def hi92 : Qt := ⟨[], [none, none, some [0, 1, 5], none, some [], none, none, none, some [4], none, none, none, none], [], []⟩
theorem lf92_ok : Qw Tryz.prog hi92 true Tryz.f92 = lf92.o := by kernel_rfl
def c93_0 : OL := [⟨some 2, .box (.t 0), none⟩, ⟨some 4, .mov (.c (.nils)), none⟩]
def c93_1 : OL := [oC 5 0]
def c93_2 : OL := [oM 6 5, oF 7 0 2, oL 8 7, oE 9 8, oB 10 .lss 6 9]
def c93_3 : OL := [oF 13 0 2, oL 14 13, oM 15 5, oI 16 2 14 15, oF 17 0 16, oL 18 17, oM 19 1, oB 20 .eql 18 19]
def c93_4 : OL := [oF 21 0 2, oL 22 21, oM 23 5, oI 24 2 22 23, oF 25 1 24, oL 26 25, oM 4 26]
def c93_5 : OL := [oM 11 5, oN 12 .add 11 1, oM 5 12]
def J1c : LC := (.seq (.seq (.reg false c93_2) (.cond (.t 10) .skip (.seq (.trim []) (.exit 0)))) (.seq (.blk 1 (.seq (.reg false c93_3) (.cond (.t 20) (.seq (.reg false c93_4) (.seq (.trim [4]) .ret)) .skip))) (.reg false c93_5)))
def c93_7 : OL := [⟨some 4, .mov (.c (.nils)), none⟩]
def lc93 : LC := (.seq (.reg false c93_0) (.seq (.seq (.reg false c93_1) (.blk 0 (.loop [1, 2, 5] J1c))) (.seq (.reg false c93_7) .ret)))
def lf93 : LFunc := ⟨2, [.tmp 4], true, lc93⟩
def hi93 : Qt := ⟨[], [none, none, some [1, 2, 5], none, some [], none, none, none, some [4], none, none, none, none], [], []⟩
theorem lf93_ok : Qw Tryz.prog hi93 true Tryz.f93 = lf93.o := by kernel_rfl
def c94_0 : OL := [⟨some 3, .box (.t 1), none⟩, ⟨some 4, .mov (.c (.bool false)), none⟩]
def c94_1 : OL := [oC 5 0]
def c94_2 : OL := [oM 6 5, oM 7 0, oE 8 7, oB 9 .lss 6 8]
def c94_3 : OL := [oM 12 0, oM 13 5, oI 14 3 12 13, oF 15 0 14, oA 16 2 15, oA 17 2 3, ⟨some 18, .eqv false true [false, false] (.t 16) (.t 17), none⟩]
def c94_4 : OL := [⟨some 4, .mov (.c (.bool true)), none⟩]
def c94_5 : OL := [oM 10 5, oN 11 .add 10 1, oM 5 11]
def J9r : LC := (.seq (.seq (.reg false c94_2) (.cond (.t 9) .skip (.seq (.trim []) (.exit 0)))) (.seq (.blk 1 (.seq (.reg true c94_3) (.cond (.t 18) (.seq (.reg false c94_4) (.seq (.trim [4]) .ret)) .skip))) (.reg false c94_5)))
def c94_7 : OL := [⟨some 4, .mov (.c (.bool false)), none⟩]
def lc94 : LC := (.seq (.reg false c94_0) (.seq (.seq (.reg false c94_1) (.blk 0 (.loop [0, 3, 5] J9r))) (.seq (.reg false c94_7) .ret)))
def lf94 : LFunc := ⟨2, [.tmp 4], true, lc94⟩
def hi94 : Qt := ⟨[], [none, none, some [0, 3, 5], none, some [], none, none, none, some [4], none, none, none, none], [], []⟩
theorem lf94_ok : Qw Tryz.prog hi94 true Tryz.f94 = lf94.o := by kernel_rfl
def c95_0 : OL := [⟨some 4, .mov (.c (.nils)), none⟩]
def c95_1 : OL := [oM 5 0, oE 6 5, oM 8 0, oM 9 1, ⟨some 10, .slc 2 (.t 8) (some (.t 9)) none, none⟩, oM 12 0, oM 13 1, ⟨some 14, .msk [7, 11, 15] (.slc 2 (.t 12) none (some (.t 13))), none⟩, ⟨some 7, .mkS 2 16 27 [I L 0, I L 0] (.c (I L 0)) (.t 6), none⟩, ⟨some 11, .appn false [7, 11, 15] 2 16 27 [I L 0, I L 0] (.t 7) (.t 10), none⟩, ⟨some 15, .appn false [7, 11, 15] 2 16 27 [I L 0, I L 0] (.t 11) (.t 14), none⟩, oM 4 15]
def lc95 : LC := (.seq (.reg false c95_0) (.seq (.reg true c95_1) .ret))
def lf95 : LFunc := ⟨2, [.tmp 4], true, lc95⟩
def hi95 : Qt := ⟨[], [none, none, none], [(1, [0, 1, 3, 4, 5, 7, 8, 9, 2, 6, 10, 11])], [(1, [7, 11, 15], [14])]⟩
theorem lf95_ok : Qw Tryz.prog hi95 true Tryz.f95 = lf95.o := by kernel_rfl
def c96_0 : OL := [⟨some 2, .box (.t 0), none⟩, ⟨some 3, .box (.t 1), none⟩, ⟨some 4, .mov (.c (.bool false)), none⟩]
def c96_1 : OL := [oA 5 1 2, ⟨some 6, .callp 15 [(.t 5)], none⟩, oM 7 6, oAg 8 1 2 7 true, oFg 9 1 3 7 true, oLg 10 9 7 true, ⟨some 11, .callp 101 [(.t 8), (.t 10)], some (7, true)⟩, oFg 12 0 3 7 true, oLg 13 12 7 true, ⟨some 14, .callp 100 [(.t 11), (.t 13)], some (7, true)⟩, oP 15 7 14, oM 4 15]
def lc96 : LC := (.seq (.reg false c96_0) (.seq (.reg true c96_1) .ret))
def lf96 : LFunc := ⟨2, [.tmp 4], true, lc96⟩
def hi96 : Qt := ⟨[], [none, none, none], [], []⟩
theorem lf96_ok : Qw Tryz.prog hi96 true Tryz.f96 = lf96.o := by kernel_rfl
def c97_0 : OL := [⟨some 3, .box (.t 0), none⟩, ⟨some 4, .box (.t 1), none⟩, ⟨some 5, .box (.t 2), none⟩, ⟨some 6, .mov (.c (.nilm)), none⟩]
def c97_1 : OL := [⟨some 14, .mkM, none⟩, oA 15 2 4, oA 16 2 4, ⟨none, .setM true [false, false] (.t 14) (.t 15) (.t 16), none⟩, oM 17 14, oM 7 17]
def c97_2 : OL := [oA 18 2 4, ⟨some 19, .bslice 1 2 27 [I L 0, I L 0] [(0, 2, (.t 18))], none⟩, oM 8 19]
def c97_3 : OL := [oM 20 8, oE 21 20, oN 22 .gtr 21 0]
def c97_4 : OL := [oM 23 8, ⟨some 24, .iaddr 2 (.t 23) (.c (I L 0)), none⟩, oA 25 2 24, ⟨some 9, .alloc [I L 0, I L 0], none⟩, oT 2 9 25]
def c97_5 : OL := [oM 26 8, ⟨some 27, .slc 2 (.t 26) (some (.c (I L 1))) none, none⟩, oM 8 27]
def c97_6 : OL := [oA 28 2 9, oA 29 2 5, ⟨some 30, .eqv false true [false, false] (.t 28) (.t 29), none⟩]
def c97_7 : OL := [oF 31 0 9, oL 32 31, oN 33 .add 32 1, oF 34 1 9, oL 35 34, ⟨some 36, .build [I L 0, I L 0] [(0, 1, (.t 33)), (1, 1, (.t 35))], none⟩, oF 37 0 9, oL 38 37, oN 39 .sub 38 1, oF 40 1 9, oL 41 40, ⟨some 42, .build [I L 0, I L 0] [(0, 1, (.t 39)), (1, 1, (.t 41))], none⟩, oF 43 0 9, oL 44 43, oF 45 1 9, oL 46 45, oN 47 .add 46 1, ⟨some 48, .build [I L 0, I L 0] [(0, 1, (.t 44)), (1, 1, (.t 47))], none⟩, oF 49 0 9, oL 50 49, oF 51 1 9, oL 52 51, oN 53 .sub 52 1, ⟨some 54, .build [I L 0, I L 0] [(0, 1, (.t 50)), (1, 1, (.t 53))], none⟩, ⟨some 55, .build [I L 0, I L 0, I L 0, I L 0, I L 0, I L 0, I L 0, I L 0] [(0, 2, (.t 36)), (2, 2, (.t 42)), (4, 2, (.t 48)), (6, 2, (.t 54))], none⟩, oC 56 0]
def c97_8 : OL := [oN 57 .lss 56 4]
def c97_9 : OL := [⟨some 58, .idx 4 2 true (.t 55) (.t 56), none⟩, ⟨some 11, .alloc [I L 0, I L 0], none⟩, oT 2 11 58]
def J8j : OL := [oM 60 7, oA 61 2 11, ⟨some 62, .look true true [false, false] (.agg [I L 0, I L 0]) (.t 60) (.t 61), none⟩, oM 59 62, ⟨some 63, .ext (.t 59) 0, none⟩, ⟨some 64, .ext (.t 59) 1, none⟩, ⟨some 12, .alloc [I L 0, I L 0], none⟩, oT 2 12 63, oM 13 64]
def J11 : OL := [oM 65 13, oU 66 65, oM 67 66, oAg 68 1 3 67 true, oAg 69 2 11 67 true, ⟨some 70, .callp 96 [(.t 68), (.t 69)], some (67, true)⟩, oP 71 67 70]
def J08 : OL := [oM 72 7, oA 73 2 11, oA 74 2 9, ⟨none, .setM true [false, false] (.t 72) (.t 73) (.t 74), none⟩]
def J1a : OL := [oM 75 8, oA 76 2 11, ⟨some 77, .bslice 1 2 27 [I L 0, I L 0] [(0, 2, (.t 76))], none⟩, ⟨some 78, .app 2 16 27 [I L 0, I L 0] (.t 75) (.t 77), none⟩, oM 8 78]
def J8o : OL := [oN 79 .add 56 1, oM 56 79]
def Jx2 : LC := (.seq (.reg false c97_8) (.seq (.cond (.t 57) .skip (.seq (.trim [3, 5, 7, 8]) (.exit 2))) (.seq (.blk 3 (.seq (.reg false c97_9) (.seq (.reg false J8j) (.seq (.reg false J11) (.cond (.t 71) (.seq (.reg false J08) (.reg false J1a)) .skip))))) (.reg false J8o))))
def J5h : LC := (.seq (.seq (.reg false c97_3) (.cond (.t 22) .skip (.seq (.trim [7]) (.exit 0)))) (.blk 1 (.seq (.reg false c97_4) (.seq (.reg false c97_5) (.seq (.seq (.reg false c97_6) (.cond (.t 30) (.seq (.trim [7]) (.exit 0)) .skip)) (.seq (.reg false c97_7) (.blk 2 (.loop [3, 5, 7, 8, 9, 55, 56] Jx2))))))))
def c97_17 : OL := [oM 80 7, oM 6 80]
def lc97 : LC := (.seq (.reg false c97_0) (.seq (.reg false c97_1) (.seq (.seq (.reg false c97_2) (.blk 0 (.loop [3, 5, 7, 8] J5h))) (.seq (.reg false c97_17) .ret))))
def lf97 : LFunc := ⟨3, [.tmp 6], true, lc97⟩
def hi97 : Qt := ⟨[], [none, none, none, some [3, 5, 7, 8], none, some [7], none, none, none, none, some [7], none, none, some [3, 5, 7, 8, 9, 55, 56], none, some [3, 5, 7, 8], none, none, none, none, none, none, none, none, none], [], []⟩
theorem lf97_ok : Qw Tryz.prog hi97 true Tryz.f97 = lf97.o := by kernel_rfl
def c98_0 : OL := [oM 4 0, oE 5 4, oN 6 .sub 5 1, oC 2 0, oM 3 6]
def c98_1 : OL := [oM 7 2, oM 8 3, oB 9 .lss 7 8]
def c98_2 : OL := [oM 14 0, oM 15 2, oM 16 0, oM 17 3, oM 18 0, oM 19 3, oI 20 2 18 19, oA 21 2 20, oM 22 0, oM 23 2, oI 24 2 22 23, oA 25 2 24, oI 26 2 14 15, oT 2 26 21, oI 27 2 16 17, oT 2 27 25]
def c98_3 : OL := [oM 10 2, oN 11 .add 10 1, oM 12 3, oN 13 .sub 12 1, oM 2 11, oM 3 13]
def J4t : LC := (.seq (.seq (.reg false c98_1) (.cond (.t 9) .skip (.seq (.trim []) (.exit 0)))) (.seq (.blk 1 (.reg true c98_2)) (.reg false c98_3)))
def lc98 : LC := (.seq (.reg false c98_0) (.blk 0 (.loop [0, 2, 3] J4t)))
def lf98 : LFunc := ⟨1, [], false, lc98⟩
def hi98 : Qt := ⟨[], [none, some [0, 2, 3], none, some [], none, none], [], []⟩
theorem lf98_ok : Qw Tryz.prog hi98 false Tryz.f98 = lf98.o := by kernel_rfl
def c99_0 : OL := [⟨some 1, .box (.t 0), none⟩, ⟨some 2, .mov (.c (.bool false)), none⟩]
def c99_1 : OL := [oF 3 0 1, oL 4 3, oN 5 .geq 4 (-4096), oM 6 5, oFg 7 0 1 6 true, oLg 8 7 6 true, oNg 9 .lss 8 4096 6 true, oP 10 6 9, oM 11 10, oFg 12 1 1 11 true, oLg 13 12 11 true, oNg 14 .geq 13 (-4096) 11 true, oP 15 11 14, oM 16 15, oFg 17 1 1 16 true, oLg 18 17 16 true, oNg 19 .lss 18 4096 16 true, oP 20 16 19, oM 2 20]
def lc99 : LC := (.seq (.reg false c99_0) (.seq (.reg false c99_1) .ret))
def lf99 : LFunc := ⟨1, [.tmp 2], true, lc99⟩
def hi99 : Qt := ⟨[], [none, none, none], [], []⟩
theorem lf99_ok : Qw Tryz.prog hi99 true Tryz.f99 = lf99.o := by kernel_rfl
def c100_0 : OL := [⟨some 3, .box (.t 1), none⟩, ⟨some 4, .mov (.c (.bool false)), none⟩]
def c100_1 : OL := [oM 5 0, ⟨some 6, .callp 34 [(.t 5)], none⟩, oU 7 6]
def c100_2 : OL := [⟨some 4, .mov (.c (.bool false)), none⟩]
def c100_3 : OL := [oM 8 0, ⟨some 9, .mkfn 103 [(.t 3)], none⟩, ⟨some 10, .callq 102 [(.t 8), (.t 9)], none⟩, oM 4 10]
def lc100 : LC := (.seq (.reg false c100_0) (.seq (.seq (.reg false c100_1) (.cond (.t 7) (.seq (.reg false c100_2) .ret) .skip)) (.seq (.reg false c100_3) .ret)))
def Jz5 : LFunc := ⟨2, [.tmp 4], true, lc100⟩
def hi100 : Qt := ⟨[(10, .q)], [none, none, none, none, none, none, none], [], []⟩
theorem lf100_ok : Qw Tryz.prog hi100 true Tryz.f100 = Jz5.o := by kernel_rfl
def c101_0 : OL := [⟨some 2, .box (.t 0), none⟩, ⟨some 4, .mov (.c (.nils)), none⟩]
def c101_1 : OL := [oF 8 0 2, oL 9 8, oM 10 1, ⟨some 11, .callq 104 [(.t 9), (.t 10), (.c (.fn 105 []))], none⟩, oM 7 11, ⟨some 12, .ext (.t 7) 0, none⟩, ⟨some 13, .ext (.t 7) 1, none⟩, oM 5 12, oM 6 13]
def c101_2 : OL := [oM 14 6, oU 15 14]
def c101_3 : OL := [⟨some 4, .mov (.c (.nils)), none⟩]
def c101_4 : OL := [oF 16 0 2, oL 17 16, oM 18 5, oI 19 2 17 18, oF 20 1 19, oL 21 20, oM 4 21]
def lc101 : LC := (.seq (.reg false c101_0) (.seq (.reg false c101_1) (.seq (.seq (.reg false c101_2) (.cond (.t 15) (.seq (.reg false c101_3) .ret) .skip)) (.seq (.reg false c101_4) .ret))))
def Jz7 : LFunc := ⟨2, [.tmp 4], true, lc101⟩
def hi101 : Qt := ⟨[(11, .q)], [none, none, none, none, none, none, none, none], [], []⟩
theorem lf101_ok : Qw Tryz.prog hi101 true Tryz.f101 = Jz7.o := by kernel_rfl
def c102_0 : OL := [⟨some 4, .mov (.c (.bool false)), none⟩]
def c102_1 : OL := [oM 5 0, oM 6 1, ⟨some 7, .callq 107 [(.t 5), (.t 6)], none⟩, oN 8 .geq 7 0, oM 4 8]
def lc102 : LC := (.seq (.reg false c102_0) (.seq (.reg false c102_1) .ret))
def lf102 : LFunc := ⟨2, [.tmp 4], true, lc102⟩
def hi102 : Qt := ⟨[(7, .q)], [none, none, none], [], []⟩
theorem lf102_ok : Qw Tryz.prog hi102 true Tryz.f102 = lf102.o := by kernel_rfl
def c103_0 : OL := [⟨some 2, .box (.t 0), none⟩, ⟨some 3, .mov (.c (.bool false)), none⟩]
def c103_1 : OL := [oF 4 0 2, oL 5 4, oL 6 1, oB 7 .leq 5 6, oM 8 7, oLg 9 1 8 true, oFg 10 1 2 8 true, oLg 11 10 8 true, oBg 12 .lss 9 11 8 true, oP 13 8 12, oM 3 13]
def lc103 : LC := (.seq (.reg false c103_0) (.seq (.reg false c103_1) .ret))
def lf103 : LFunc := ⟨2, [.tmp 3], true, lc103⟩
def hi103 : Qt := ⟨[], [none, none, none], [], []⟩
theorem lf103_ok : Qw Tryz.prog hi103 true Tryz.f103 = lf103.o := by kernel_rfl
def c104_0 : OL := [oC 6 0, ⟨some 7, .mov (.c (.bool false)), none⟩]
def c104_1 : OL := [oM 12 0, oE 13 12, oM 8 13]
def c104_2 : OL := [oM 14 8, oC 9 0, oM 10 14]
def J2t : OL := [oM 15 9, oM 16 10, oB 17 .lss 15 16]
def J3b : OL := [oM 18 9, oM 19 10, oB 20 .add 18 19, ⟨some 21, .conv .u64 (.t 20), none⟩, ⟨some 22, .shf .shr (.t 21) (.c (.int .u64 1)), none⟩, ⟨some 23, .conv L (.t 22), none⟩, oM 11 23]
def J8u : OL := [oM 24 2, oM 25 0, oM 26 11, oI 27 2 25 26, oA 28 2 27, oM 29 1, ⟨some 30, .callv (.t 24) [(.t 28), (.t 29)], none⟩, oN 31 .lss 30 0]
def J3h : OL := [oM 32 11, oN 33 .add 32 1, oM 9 33]
def J6c : OL := [oM 34 11, oM 10 34]
def Jvl : LC := (.seq (.seq (.reg false J2t) (.cond (.t 17) .skip (.seq (.trim [0, 1, 2, 8, 9]) (.exit 0)))) (.blk 1 (.seq (.reg false J3b) (.seq (.reg false J8u) (.cond (.t 31) (.reg false J3h) (.reg false J6c))))))
def c104_9 : OL := [oM 35 9, oM 36 9, oM 37 8, oB 38 .lss 36 37, oM 39 38, oMg 40 2 39 true, oMg 41 0 39 true, oMg 42 9 39 true, oIg 43 2 41 42 39 true, oAg 44 2 43 39 true, oMg 45 1 39 true, ⟨some 46, .callv (.t 40) [(.t 44), (.t 45)], some (39, true)⟩, oNg 47 .eql 46 0 39 true, oP 48 39 47, oM 6 35, oM 7 48]
def lc104 : LC := (.seq (.reg false c104_0) (.seq (.reg false c104_1) (.seq (.reg false c104_2) (.seq (.blk 0 (.loop [0, 1, 2, 8, 9, 10] Jvl)) (.seq (.reg false c104_9) .ret)))))
def lf104 : LFunc := ⟨3, [.tmp 6, .tmp 7], true, lc104⟩
def hi104 : Qt := ⟨[], [none, none, none, some [0, 1, 2, 8, 9, 10], none, some [0, 1, 2, 8, 9], none, none, none, none, none, none], [], []⟩
theorem lf104_ok : Qw Tryz.prog hi104 true Tryz.f104 = lf104.o := by kernel_rfl
def c105_0 : OL := [⟨some 2, .box (.t 0), none⟩, oC 4 0]
def c105_1 : OL := [oF 5 0 2, oL 6 5, oM 7 1, ⟨some 8, .callp 106 [(.t 6), (.t 7)], none⟩, oM 4 8]
def lc105 : LC := (.seq (.reg false c105_0) (.seq (.reg false c105_1) .ret))
def lf105 : LFunc := ⟨2, [.tmp 4], true, lc105⟩
def hi105 : Qt := ⟨[], [none, none, none], [], []⟩
theorem lf105_ok : Qw Tryz.prog hi105 true Tryz.f105 = lf105.o := by kernel_rfl
def c106_0 : OL := [oC 4 0]
def c106_1 : OL := [oM 7 0, ⟨some 8, .callp 108 [(.t 7)], none⟩, oM 5 8]
def c106_2 : OL := [oM 9 1, ⟨some 10, .callp 108 [(.t 9)], none⟩, oM 6 10]
def c106_3 : OL := [oM 11 5]
def c106_4 : OL := [oM 12 6]
def c106_5 : OL := [oC 4 0]
def c106_6 : OL := [oC 4 (-1)]
def c106_7 : OL := [oM 13 6]
def c106_8 : OL := [oC 4 1]
def c106_9 : OL := [oM 14 0, oM 15 1, oB 16 .lss 14 15]
def J23 : OL := [oC 4 (-1)]
def J5x : OL := [oM 17 0, oM 18 1, oB 19 .gtr 17 18]
def J5m : OL := [oC 4 1]
def J4o : OL := [oC 4 0]
def Jwc : LC := (.seq (.reg false c106_0) (.seq (.reg false c106_1) (.seq (.reg false c106_2) (.seq (.seq (.reg false c106_3) (.cond (.t 11) (.seq (.seq (.reg false c106_4) (.cond (.t 12) (.seq (.reg false c106_5) .ret) .skip)) (.seq (.reg false c106_6) .ret)) .skip)) (.seq (.seq (.reg false c106_7) (.cond (.t 13) (.seq (.reg false c106_8) .ret) .skip)) (.seq (.seq (.reg false c106_9) (.cond (.t 16) (.seq (.reg false J23) .ret) .skip)) (.seq (.seq (.reg false J5x) (.cond (.t 19) (.seq (.reg false J5m) .ret) .skip)) (.seq (.reg false J4o) .ret))))))))
def Jmy : LFunc := ⟨2, [.tmp 4], true, Jwc⟩
def hi106 : Qt := ⟨[], [none, none, none, none, none, none, none, none, none, none, none, none, none, none, none, none, none, none, none, none, none, none, none, none, none], [], []⟩
theorem lf106_ok : Qw Tryz.prog hi106 true Tryz.f106 = Jmy.o := by kernel_rfl
def c107_0 : OL := [oC 4 0]
def c107_1 : OL := [oM 6 0, oE 7 6, oC 8 0]
def J5v : OL := [oB 9 .lss 8 7]
def J0z : OL := [oM 10 8, oM 5 10]
def J66 : OL := [oM 11 1, oM 12 0, oM 13 5, oI 14 2 12 13, oA 15 2 14, ⟨some 16, .callv (.t 11) [(.t 15)], none⟩]
def J04 : OL := [oM 17 5, oM 4 17]
def J6q : OL := [oN 18 .add 8 1, oM 8 18]
def Jvt : LC := (.seq (.reg false J5v) (.seq (.cond (.t 9) .skip (.seq (.trim []) (.exit 0))) (.seq (.blk 1 (.seq (.reg false J0z) (.seq (.reg false J66) (.cond (.t 16) (.seq (.reg false J04) (.seq (.trim [4]) .ret)) .skip)))) (.reg false J6q))))
def c107_8 : OL := [oC 4 (-1)]
def lc107 : LC := (.seq (.reg false c107_0) (.seq (.seq (.reg false c107_1) (.blk 0 (.loop [0, 1, 7, 8] Jvt))) (.seq (.reg false c107_8) .ret)))
def Jzo : LFunc := ⟨2, [.tmp 4], true, lc107⟩
def hi107 : Qt := ⟨[], [none, none, some [0, 1, 7, 8], none, some [], none, none, none, none, some [4], none, none, none, none], [], []⟩
theorem lf107_ok : Qw Tryz.prog hi107 true Tryz.f107 = Jzo.o := by kernel_rfl
def c108_0 : OL := [⟨some 2, .mov (.c (.bool false)), none⟩]
def c108_1 : OL := [oM 3 0, oM 4 0, oB 5 .neq 3 4, oM 2 5]
def lc108 : LC := (.seq (.reg false c108_0) (.seq (.reg false c108_1) .ret))
def lf108 : LFunc := ⟨1, [.tmp 2], true, lc108⟩
def hi108 : Qt := ⟨[], [none, none, none], [], []⟩
theorem lf108_ok : Qw Tryz.prog hi108 true Tryz.f108 = lf108.o := by kernel_rfl
def env : Env where
 code := fun f => match f with
  | 3 => some lf3
  | 4 => some lf4
  | 5 => some lf5
  | 6 => some lf6
  | 7 => some lf7
  | 8 => some lf8
  | 9 => some lf9
  | 10 => some lf10
  | 11 => some lf11
  | 12 => some lf12
  | 13 => some lf13
  | 14 => some lf14
  | 15 => some lf15
  | 16 => some lf16
  | 17 => some lf17
  | 18 => some lf18
  | 19 => some lf19
  | 20 => some lf20
  | 21 => some lf21
  | 22 => some lf22
  | 23 => some lf23
  | 24 => some lf24
  | 25 => some lf25
  | 26 => some lf26
  | 27 => some lf27
  | 28 => some lf28
  | 29 => some lf29
  | 30 => some lf30
  | 31 => some lf31
  | 32 => some lf32
  | 33 => some lf33
  | 34 => some lf34
  | 35 => some lf35
  | 36 => some lf36
  | 37 => some lf37
  | 38 => some lf38
  | 39 => some lf39
  | 40 => some lf40
  | 41 => some lf41
  | 42 => some lf42
  | 43 => some lf43
  | 44 => some lf44
  | 45 => some lf45
  | 46 => some lf46
  | 47 => some lf47
  | 48 => some lf48
  | 49 => some lf49
  | 50 => some lf50
  | 51 => some lf51
  | 52 => some lf52
  | 53 => some lf53
  | 54 => some lf54
  | 55 => some lf55
  | 56 => some lf56
  | 57 => some lf57
  | 58 => some lf58
  | 59 => some lf59
  | 60 => some lf60
  | 61 => some lf61
  | 62 => some lf62
  | 63 => some lf63
  | 64 => some lf64
  | 65 => some lf65
  | 66 => some lf66
  | 67 => some lf67
  | 68 => some lf68
  | 69 => some lf69
  | 70 => some lf70
  | 71 => some lf71
  | 72 => some lf72
  | 73 => some lf73
  | 74 => some lf74
  | 75 => some lf75
  | 76 => some lf76
  | 77 => some lf77
  | 78 => some lf78
  | 79 => some lf79
  | 80 => some lf80
  | 81 => some lf81
  | 82 => some lf82
  | 83 => some lf83
  | 84 => some lf84
  | 85 => some lf85
  | 86 => some lf86
  | 87 => some lf87
  | 88 => some lf88
  | 89 => some lf89
  | 90 => some lf90
  | 91 => some lf91
  | 92 => some lf92
  | 93 => some lf93
  | 94 => some lf94
  | 95 => some lf95
  | 96 => some lf96
  | 97 => some lf97
  | 98 => some lf98
  | 99 => some lf99
  | 100 => some Jz5
  | 101 => some Jz7
  | 102 => some lf102
  | 103 => some lf103
  | 104 => some lf104
  | 105 => some lf105
  | 106 => some Jmy
  | 107 => some Jzo
  | 108 => some lf108
  | _ => none
 ext := fun _ _ _ => none
theorem env_ok : J3u Tryz.prog env where
 mixed := by kernel_rfl
 code := fun f lf h => by
  simp only [env] at h
  split at h
  ·injection h with h; subst h; exact ⟨Tryz.f3, hi3, Tryz.func3, lf3_ok⟩
  ·injection h with h; subst h; exact ⟨Tryz.f4, hi4, Tryz.func4, lf4_ok⟩
  ·injection h with h; subst h; exact ⟨Tryz.f5, hi5, Tryz.func5, lf5_ok⟩
  ·injection h with h; subst h; exact ⟨Tryz.f6, hi6, Tryz.func6, lf6_ok⟩
  ·injection h with h; subst h; exact ⟨Tryz.f7, hi7, Tryz.func7, lf7_ok⟩
  ·injection h with h; subst h; exact ⟨Tryz.f8, hi8, Tryz.func8, lf8_ok⟩
  ·injection h with h; subst h; exact ⟨Tryz.f9, hi9, Tryz.func9, lf9_ok⟩
  ·injection h with h; subst h; exact ⟨Tryz.f10, hi10, Tryz.func10, lf10_ok⟩
  ·injection h with h; subst h; exact ⟨Tryz.f11, hi11, Tryz.func11, lf11_ok⟩
  ·injection h with h; subst h; exact ⟨Tryz.f12, hi12, Tryz.func12, lf12_ok⟩
  ·injection h with h; subst h; exact ⟨Tryz.f13, hi13, Tryz.func13, lf13_ok⟩
  ·injection h with h; subst h; exact ⟨Tryz.f14, hi14, Tryz.func14, lf14_ok⟩
  ·injection h with h; subst h; exact ⟨Tryz.f15, hi15, Tryz.func15, lf15_ok⟩
  ·injection h with h; subst h; exact ⟨Tryz.f16, hi16, Tryz.func16, lf16_ok⟩
  ·injection h with h; subst h; exact ⟨Tryz.f17, hi17, Tryz.func17, lf17_ok⟩
  ·injection h with h; subst h; exact ⟨Tryz.f18, hi18, Tryz.func18, lf18_ok⟩
  ·injection h with h; subst h; exact ⟨Tryz.f19, hi19, Tryz.func19, lf19_ok⟩
  ·injection h with h; subst h; exact ⟨Tryz.f20, hi20, Tryz.func20, lf20_ok⟩
  ·injection h with h; subst h; exact ⟨Tryz.f21, hi21, Tryz.func21, lf21_ok⟩
  ·injection h with h; subst h; exact ⟨Tryz.f22, hi22, Tryz.func22, lf22_ok⟩
  ·injection h with h; subst h; exact ⟨Tryz.f23, hi23, Tryz.func23, lf23_ok⟩
  ·injection h with h; subst h; exact ⟨Tryz.f24, hi24, Tryz.func24, lf24_ok⟩
  ·injection h with h; subst h; exact ⟨Tryz.f25, hi25, Tryz.func25, lf25_ok⟩
  ·injection h with h; subst h; exact ⟨Tryz.f26, hi26, Tryz.func26, lf26_ok⟩
  ·injection h with h; subst h; exact ⟨Tryz.f27, hi27, Tryz.func27, lf27_ok⟩
  ·injection h with h; subst h; exact ⟨Tryz.f28, hi28, Tryz.func28, lf28_ok⟩
  ·injection h with h; subst h; exact ⟨Tryz.f29, hi29, Tryz.func29, lf29_ok⟩
  ·injection h with h; subst h; exact ⟨Tryz.f30, hi30, Tryz.func30, lf30_ok⟩
  ·injection h with h; subst h; exact ⟨Tryz.f31, hi31, Tryz.func31, lf31_ok⟩
  ·injection h with h; subst h; exact ⟨Tryz.f32, hi32, Tryz.func32, lf32_ok⟩
  ·injection h with h; subst h; exact ⟨Tryz.f33, hi33, Tryz.func33, lf33_ok⟩
  ·injection h with h; subst h; exact ⟨Tryz.f34, hi34, Tryz.func34, lf34_ok⟩
  ·injection h with h; subst h; exact ⟨Tryz.f35, hi35, Tryz.func35, lf35_ok⟩
  ·injection h with h; subst h; exact ⟨Tryz.f36, hi36, Tryz.func36, lf36_ok⟩
  ·injection h with h; subst h; exact ⟨Tryz.f37, hi37, Tryz.func37, lf37_ok⟩
  ·injection h with h; subst h; exact ⟨Tryz.f38, hi38, Tryz.func38, lf38_ok⟩
  ·injection h with h; subst h; exact ⟨Tryz.f39, hi39, Tryz.func39, lf39_ok⟩
  ·injection h with h; subst h; exact ⟨Tryz.f40, hi40, Tryz.func40, lf40_ok⟩
  ·injection h with h; subst h; exact ⟨Tryz.f41, hi41, Tryz.func41, lf41_ok⟩
  ·injection h with h; subst h; exact ⟨Tryz.f42, hi42, Tryz.func42, lf42_ok⟩
  ·injection h with h; subst h; exact ⟨Tryz.f43, hi43, Tryz.func43, lf43_ok⟩
  ·injection h with h; subst h; exact ⟨Tryz.f44, hi44, Tryz.func44, lf44_ok⟩
  ·injection h with h; subst h; exact ⟨Tryz.f45, hi45, Tryz.func45, lf45_ok⟩
  ·injection h with h; subst h; exact ⟨Tryz.f46, hi46, Tryz.func46, lf46_ok⟩
  ·injection h with h; subst h; exact ⟨Tryz.f47, hi47, Tryz.func47, lf47_ok⟩
  ·injection h with h; subst h; exact ⟨Tryz.f48, hi48, Tryz.func48, lf48_ok⟩
  ·injection h with h; subst h; exact ⟨Tryz.f49, hi49, Tryz.func49, lf49_ok⟩
  ·injection h with h; subst h; exact ⟨Tryz.f50, hi50, Tryz.func50, lf50_ok⟩
  ·injection h with h; subst h; exact ⟨Tryz.f51, hi51, Tryz.func51, lf51_ok⟩
  ·injection h with h; subst h; exact ⟨Tryz.f52, hi52, Tryz.func52, lf52_ok⟩
  ·injection h with h; subst h; exact ⟨Tryz.f53, hi53, Tryz.func53, lf53_ok⟩
  ·injection h with h; subst h; exact ⟨Tryz.f54, hi54, Tryz.func54, lf54_ok⟩
  ·injection h with h; subst h; exact ⟨Tryz.f55, hi55, Tryz.func55, lf55_ok⟩
  ·injection h with h; subst h; exact ⟨Tryz.f56, hi56, Tryz.func56, lf56_ok⟩
  ·injection h with h; subst h; exact ⟨Tryz.f57, hi57, Tryz.func57, lf57_ok⟩
  ·injection h with h; subst h; exact ⟨Tryz.f58, hi58, Tryz.func58, lf58_ok⟩
  ·injection h with h; subst h; exact ⟨Tryz.f59, hi59, Tryz.func59, lf59_ok⟩
  ·injection h with h; subst h; exact ⟨Tryz.f60, hi60, Tryz.func60, lf60_ok⟩
  ·injection h with h; subst h; exact ⟨Tryz.f61, hi61, Tryz.func61, lf61_ok⟩
  ·injection h with h; subst h; exact ⟨Tryz.f62, hi62, Tryz.func62, lf62_ok⟩
  ·injection h with h; subst h; exact ⟨Tryz.f63, hi63, Tryz.func63, lf63_ok⟩
  ·injection h with h; subst h; exact ⟨Tryz.f64, hi64, Tryz.func64, lf64_ok⟩
  ·injection h with h; subst h; exact ⟨Tryz.f65, hi65, Tryz.func65, lf65_ok⟩
  ·injection h with h; subst h; exact ⟨Tryz.f66, hi66, Tryz.func66, lf66_ok⟩
  ·injection h with h; subst h; exact ⟨Tryz.f67, hi67, Tryz.func67, lf67_ok⟩
  ·injection h with h; subst h; exact ⟨Tryz.f68, hi68, Tryz.func68, lf68_ok⟩
  ·injection h with h; subst h; exact ⟨Tryz.f69, hi69, Tryz.func69, lf69_ok⟩
  ·injection h with h; subst h; exact ⟨Tryz.f70, hi70, Tryz.func70, lf70_ok⟩
  ·injection h with h; subst h; exact ⟨Tryz.f71, hi71, Tryz.func71, lf71_ok⟩
  ·injection h with h; subst h; exact ⟨Tryz.f72, hi72, Tryz.func72, lf72_ok⟩
  ·injection h with h; subst h; exact ⟨Tryz.f73, hi73, Tryz.func73, lf73_ok⟩
  ·injection h with h; subst h; exact ⟨Tryz.f74, hi74, Tryz.func74, lf74_ok⟩
  ·injection h with h; subst h; exact ⟨Tryz.f75, hi75, Tryz.func75, lf75_ok⟩
  ·injection h with h; subst h; exact ⟨Tryz.f76, hi76, Tryz.func76, lf76_ok⟩
  ·injection h with h; subst h; exact ⟨Tryz.f77, hi77, Tryz.func77, lf77_ok⟩
  ·injection h with h; subst h; exact ⟨Tryz.f78, hi78, Tryz.func78, lf78_ok⟩
  ·injection h with h; subst h; exact ⟨Tryz.f79, hi79, Tryz.func79, lf79_ok⟩
  ·injection h with h; subst h; exact ⟨Tryz.f80, hi80, Tryz.func80, lf80_ok⟩
  ·injection h with h; subst h; exact ⟨Tryz.f81, hi81, Tryz.func81, lf81_ok⟩
  ·injection h with h; subst h; exact ⟨Tryz.f82, hi82, Tryz.func82, lf82_ok⟩
  ·injection h with h; subst h; exact ⟨Tryz.f83, hi83, Tryz.func83, lf83_ok⟩
  ·injection h with h; subst h; exact ⟨Tryz.f84, hi84, Tryz.func84, lf84_ok⟩
  ·injection h with h; subst h; exact ⟨Tryz.f85, hi85, Tryz.func85, lf85_ok⟩
  ·injection h with h; subst h; exact ⟨Tryz.f86, hi86, Tryz.func86, lf86_ok⟩
  ·injection h with h; subst h; exact ⟨Tryz.f87, hi87, Tryz.func87, lf87_ok⟩
  ·injection h with h; subst h; exact ⟨Tryz.f88, hi88, Tryz.func88, lf88_ok⟩
  ·injection h with h; subst h; exact ⟨Tryz.f89, hi89, Tryz.func89, lf89_ok⟩
  ·injection h with h; subst h; exact ⟨Tryz.f90, hi90, Tryz.func90, lf90_ok⟩
  ·injection h with h; subst h; exact ⟨Tryz.f91, hi91, Tryz.func91, lf91_ok⟩
  ·injection h with h; subst h; exact ⟨Tryz.f92, hi92, Tryz.func92, lf92_ok⟩
  ·injection h with h; subst h; exact ⟨Tryz.f93, hi93, Tryz.func93, lf93_ok⟩
  ·injection h with h; subst h; exact ⟨Tryz.f94, hi94, Tryz.func94, lf94_ok⟩
  ·injection h with h; subst h; exact ⟨Tryz.f95, hi95, Tryz.func95, lf95_ok⟩
  ·injection h with h; subst h; exact ⟨Tryz.f96, hi96, Tryz.func96, lf96_ok⟩
  ·injection h with h; subst h; exact ⟨Tryz.f97, hi97, Tryz.func97, lf97_ok⟩
  ·injection h with h; subst h; exact ⟨Tryz.f98, hi98, Tryz.func98, lf98_ok⟩
  ·injection h with h; subst h; exact ⟨Tryz.f99, hi99, Tryz.func99, lf99_ok⟩
  ·injection h with h; subst h; exact ⟨Tryz.f100, hi100, Tryz.func100, lf100_ok⟩
  ·injection h with h; subst h; exact ⟨Tryz.f101, hi101, Tryz.func101, lf101_ok⟩
  ·injection h with h; subst h; exact ⟨Tryz.f102, hi102, Tryz.func102, lf102_ok⟩
  ·injection h with h; subst h; exact ⟨Tryz.f103, hi103, Tryz.func103, lf103_ok⟩
  ·injection h with h; subst h; exact ⟨Tryz.f104, hi104, Tryz.func104, lf104_ok⟩
  ·injection h with h; subst h; exact ⟨Tryz.f105, hi105, Tryz.func105, lf105_ok⟩
  ·injection h with h; subst h; exact ⟨Tryz.f106, hi106, Tryz.func106, lf106_ok⟩
  ·injection h with h; subst h; exact ⟨Tryz.f107, hi107, Tryz.func107, lf107_ok⟩
  ·injection h with h; subst h; exact ⟨Tryz.f108, hi108, Tryz.func108, lf108_ok⟩
  ·cases h
 ext := ⟨fun _ _ _ _ h => (by cases h), fun _ _ _ _ h => (by cases h), fun _ _ _ _ _ _ h => (by cases h)⟩
end Go.Proofs.YtemehoioeoohmaaGreat
