/- The code of the functions of this seat, as the evaluator has it; by program (gen.py). Each is the compilation of the loaded function. -/
import Derived.Test.YtemehoioeoohmaaVn
import Derived.Test.YtemehoioeoohmaaProg
import Derived.KernelRfl
namespace Go.Proofs.Ytemehoioeoohmaa
open Go Go.Vv Go.Proofs
set_option maxRecDepth 100000
def c3_0 : OL := [⟨some 2, .box (.t 0), none⟩, ⟨some 3, .box (.t 1), none⟩, ⟨some 4, .mov (.c (.bool false)), none⟩]
def c3_1 : OL := [oA 14 5 2, ⟨some 15, .callp 5 [(.t 14)], none⟩, oU 16 15]
def c3_2 : OL := [⟨some 17, .callp 6 [], none⟩, oM 4 17]
def c3_3 : OL := [oF 19 0 2, oL 20 19, oF 21 1 2, oA 22 1 21, oF 23 2 2, oL 24 23, oF 25 3 2, oA 26 2 25, oA 27 20 3, ⟨some 28, .callz 7 [(.t 20), (.t 22), (.t 24), (.t 26), (.t 27)], none⟩, oM 18 28, ⟨some 29, .ext (.t 18) 0, none⟩, ⟨some 30, .ext (.t 18) 1, none⟩, ⟨some 31, .ext (.t 18) 2, none⟩, ⟨some 6, .alloc [.int .i64 0, .int .i64 0], none⟩, oM 5 29, oT 2 6 30, oM 7 31]
def c3_4 : OL := [oM 32 7, oN 33 .neq 32 0]
def c3_5 : OL := [oM 34 7, oN 35 .eql 34 1, oM 36 35, oMg 37 5 36 true, oEg 38 37 36 true, oNg 39 .eql 38 0 36 true, oP 40 36 39, oM 41 40, oAg 42 2 6 41 true, ⟨some 43, .build [.int .i64 0, .int .i64 0] [], some (41, true)⟩, ⟨some 44, .eqv false true [false, false] (.t 42) (.t 43), some (41, true)⟩, oP 45 41 44, oM 46 45, ⟨some 47, .callp 6 [], some (46, true)⟩, oP 48 46 47, oM 4 48]
def c3_6 : OL := [oF 49 3 2, oA 50 2 49, ⟨some 8, .alloc [.int .i64 0, .int .i64 0], none⟩, oT 2 8 50]
def c3_7 : OL := [⟨some 9, .mov (.c (.bool false)), none⟩]
def c3_8 : OL := [oC 10 0]
def c3_9 : OL := [oM 51 10, oM 52 5, oE 53 52, oB 54 .lss 51 53]
def c3_10 : OL := [oM 57 5, oM 58 10, oI 59 6 57 58, oA 60 6 59, ⟨some 11, .alloc [.int .i64 0, .int .i64 0, .int .i64 0, .int .i64 0, .int .i64 0, .nils], none⟩, oT 6 11 60]
def c3_11 : OL := [oF 61 0 11, oL 62 61, oN 63 .eql 62 4, oM 64 63, oFg 65 0 11 64 false, oLg 66 65 64 false, oNg 67 .eql 66 5 64 false, oO 68 64 67]
def c3_12 : OL := [oM 69 9, oU 70 69, oM 9 70]
def c3_13 : OL := [oF 71 0 11, oL 72 71, oN 73 .neq 72 2, oM 74 73, oFg 75 0 11 74 true, oLg 76 75 74 true, oNg 77 .neq 76 3 74 true, oP 78 74 77]
def c3_14 : OL := [oF 79 5 11, oL 80 79, oE 81 80, oN 82 .eql 81 0, oM 83 82, oFg 84 0 11 83 false, oLg 85 84 83 false, oNg 86 .eql 85 3 83 false, oMg 87 86 83 false, oFg 88 5 11 87 true, oLg 89 88 87 true, ⟨some 90, .iaddr 2 (.t 89) (.c (.int .i64 0)), some (87, true)⟩, oAg 91 2 90 87 true, oAg 92 2 8 87 true, ⟨some 93, .eqv true true [false, false] (.t 91) (.t 92), some (87, true)⟩, oMg 94 93 87 true, oMg 95 9 94 false, oOg 96 94 95 87 true, oPg 97 87 96 83 false, oO 98 83 97]
def c3_15 : OL := [⟨some 4, .mov (.c (.bool false)), none⟩]
def c3_16 : OL := [oF 100 5 11, oL 101 100, ⟨some 102, .callz 8 [(.t 101)], none⟩, oM 99 102, ⟨some 103, .ext (.t 99) 0, none⟩, ⟨some 104, .ext (.t 99) 1, none⟩, ⟨some 12, .alloc [.nils], none⟩, oT 1 12 103, oM 13 104]
def c3_17 : OL := [oF 105 0 11, oL 106 105, oN 107 .eql 106 2, oM 108 107, oMg 109 9 108 true, oUg 110 109 108 true, oP 111 108 110, oM 112 111, oFg 113 15 3 112 true, oLg 114 113 112 true, oNg 115 .gtr 114 0 112 true, oP 116 112 115, oM 117 116, oAg 118 1 12 117 true, oFg 119 1 2 117 true, oAg 120 1 119 117 true, ⟨some 121, .callp 9 [(.t 118), (.t 120)], some (117, true)⟩, oUg 122 121 117 true, oP 123 117 122]
def c3_18 : OL := [⟨some 4, .mov (.c (.bool false)), none⟩]
def c3_19 : OL := [oF 124 5 11, oL 125 124, oF 126 5 11, oL 127 126, oE 128 127, oN 129 .sub 128 1, oI 130 2 125 129, oA 131 2 130, oT 2 8 131]
def c3_20 : OL := [oM 55 10, oN 56 .add 55 1, oM 10 56]
def c3_L0 : LC := (.seq (.seq (.reg false c3_9) (.cond (.t 54) .skip (.seq (.trim [2, 5, 6, 8, 9]) (.exit 0)))) (.seq (.blk 1 (.seq (.reg false c3_10) (.seq (.seq (.reg false c3_11) (.cond (.t 68) (.reg false c3_12) .skip)) (.seq (.seq (.reg false c3_13) (.cond (.t 78) (.exit 1) .skip)) (.seq (.seq (.reg true c3_14) (.cond (.t 98) (.seq (.reg false c3_15) (.seq (.trim [4]) .ret)) .skip)) (.seq (.reg false c3_16) (.seq (.seq (.reg false c3_17) (.cond (.t 123) (.seq (.reg false c3_18) (.seq (.trim [4]) .ret)) .skip)) (.reg false c3_19)))))))) (.reg false c3_20)))
def c3_22 : OL := [oM 132 9, oU 133 132, oM 134 133, oAg 135 2 8 134 true, oAg 136 2 6 134 true, ⟨some 137, .eqv false true [false, false] (.t 135) (.t 136), some (134, true)⟩, oP 138 134 137, oM 139 138, oMg 140 5 139 true, oFg 143 0 2 139 true, oLg 144 143 139 true, ⟨some 141, .callz 12 [(.t 140)], some (139, true)⟩, ⟨some 142, .callz 11 [(.t 141)], some (139, true)⟩, ⟨some 145, .callz 11 [(.t 144)], some (139, true)⟩, ⟨some 146, .callp 10 [(.t 142), (.t 145)], some (139, true)⟩, oP 147 139 146, oM 148 147, ⟨some 149, .callp 6 [], some (148, true)⟩, oP 150 148 149, oM 4 150]
def lc3 : LC := (.seq (.reg false c3_0) (.seq (.seq (.reg false c3_1) (.cond (.t 16) (.seq (.reg false c3_2) .ret) .skip)) (.seq (.reg false c3_3) (.seq (.seq (.reg false c3_4) (.cond (.t 33) (.seq (.reg false c3_5) .ret) .skip)) (.seq (.reg false c3_6) (.seq (.reg false c3_7) (.seq (.seq (.reg false c3_8) (.blk 0 (.loop [2, 3, 5, 6, 8, 9, 10] c3_L0))) (.seq (.reg true c3_22) .ret))))))))
def lf3 : LFunc := ⟨2, [.tmp 4], true, lc3⟩
def hi3 : Q1 := ⟨[(28, .z), (102, .z), (141, .z), (142, .z), (145, .z)], [none, none, none, none, none, none, none, none, none, none, none, none, none, some [2, 3, 5, 6, 8, 9, 10], none, some [2, 5, 6, 8, 9], none, none, none, none, none, none, none, none, none, some [4], none, none, none, none, some [4], none, none, none, none, none], [(21, [0, 1, 2, 3, 4, 5, 6, 7, 8, 11, 12, 9, 10, 13, 14, 15, 16, 17, 18, 19])], []⟩
theorem lf3_ok : Q6 Try.prog hi3 true Try.f3 = lf3.o := by kernel_rfl
def c5_0 : OL := [⟨some 1, .box (.t 0), none⟩, ⟨some 2, .mov (.c (.bool false)), none⟩]
def c5_1 : OL := [oC 3 0]
def c5_2 : OL := [oM 4 3, oF 5 0 1, oL 6 5, oE 7 6, oB 8 .lss 4 7, oM 9 8, oMg 10 3 9 true, oNg 11 .lss 10 9 9 true, oP 12 9 11]
def c5_3 : OL := [oF 15 0 1, oL 16 15, oM 17 3, oI 18 3 16 17, oF 19 2 18, oL 20 19, oE 21 20, oN 22 .gtr 21 40, oM 23 22, oFg 24 0 1 23 false, oLg 25 24 23 false, oMg 26 3 23 false, oIg 27 3 25 26 23 false, oFg 28 2 27 23 false, oLg 29 28 23 false, ⟨some 30, .callp 14 [(.t 29)], some (23, false)⟩, oUg 31 30 23 false, oO 32 23 31]
def c5_4 : OL := [⟨some 2, .mov (.c (.bool false)), none⟩]
def c5_5 : OL := [oM 13 3, oN 14 .add 13 1, oM 3 14]
def c5_L0 : LC := (.seq (.seq (.reg false c5_2) (.cond (.t 12) .skip (.seq (.trim [1]) (.exit 0)))) (.seq (.blk 1 (.seq (.reg false c5_3) (.cond (.t 32) (.seq (.reg false c5_4) (.seq (.trim [2]) .ret)) .skip))) (.reg false c5_5)))
def c5_7 : OL := [oF 33 0 1, oL 34 33, oE 35 34, oN 36 .leq 35 8, oM 37 36, oFg 38 3 1 37 true, oAg 39 2 38 37 true, ⟨some 40, .bslz 1 2 27 [.int .i64 0, .int .i64 0] [(0, 2, (.t 39))], some (37, true)⟩, ⟨some 41, .callp 14 [(.t 40)], some (37, true)⟩, oP 42 37 41, oM 43 42, oFg 44 1 1 43 true, oAg 45 1 44 43 true, ⟨some 46, .callp 15 [(.t 45)], some (43, true)⟩, oNg 47 .leq 46 150 43 true, oP 48 43 47, oM 2 48]
def lc5 : LC := (.seq (.reg false c5_0) (.seq (.seq (.reg false c5_1) (.blk 0 (.loop [1, 3] c5_L0))) (.seq (.reg false c5_7) .ret)))
def lf5 : LFunc := ⟨1, [.tmp 2], true, lc5⟩
def hi5 : Q1 := ⟨[(40, .z)], [none, none, some [1, 3], none, some [1], none, none, none, some [2], none, none, none, none], [], []⟩
theorem lf5_ok : Q6 Try.prog hi5 true Try.f5 = lf5.o := by kernel_rfl
def c6_0 : OL := [⟨some 0, .mov (.c (.bool false)), none⟩]
def c6_1 : OL := [⟨some 7, .build [.int .i64 0, .int .i64 0] [(0, 1, (.c (.int .i64 0))), (1, 1, (.c (.int .i64 3)))], none⟩, ⟨some 8, .bslz 1 2 54 [.int .i64 0, .int .i64 0] [(0, 2, (.t 7))], none⟩, ⟨some 9, .build [.int .i64 0, .nils] [(1, 1, (.t 8))], none⟩, ⟨some 10, .bslice 1 2 57 [.int .i64 0, .nils] [(0, 2, (.t 9))], none⟩, ⟨some 11, .build [.nils] [(0, 1, (.t 10))], none⟩, ⟨some 1, .alloc [.nils], none⟩, oT 1 1 11]
def c6_2 : OL := [⟨some 12, .build [.int .i64 0, .int .i64 0] [(0, 1, (.c (.int .i64 1)))], none⟩, ⟨some 13, .build [.int .i64 0, .int .i64 0] [(0, 1, (.c (.int .i64 2)))], none⟩, ⟨some 14, .bslice 2 2 27 [.int .i64 0, .int .i64 0] [(0, 2, (.t 12)), (2, 2, (.t 13))], none⟩, oM 2 14]
def c6_3 : OL := [oA 19 1 1, ⟨some 20, .build [.int .i64 0, .int .i64 0] [], none⟩, ⟨some 21, .callp 16 [], none⟩, ⟨some 16, .frz (.t 2), none⟩, ⟨some 17, .build [.int .i64 0, .bool false, .nils] [(0, 1, (.c (.int .i64 3))), (2, 1, (.t 16))], none⟩, ⟨some 18, .bslice 1 3 50 [.int .i64 0, .bool false, .nils] [(0, 3, (.t 17))], none⟩, ⟨some 22, .callz 7 [(.t 18), (.t 19), (.c (.int .i64 0)), (.t 20), (.t 21)], none⟩, oM 15 22, ⟨some 23, .ext (.t 15) 0, none⟩, ⟨some 24, .ext (.t 15) 1, none⟩, ⟨some 25, .ext (.t 15) 2, none⟩, ⟨some 4, .alloc [.int .i64 0, .int .i64 0], none⟩, oM 3 23, oT 2 4 24, oM 5 25]
def c6_4 : OL := [⟨some 26, .build [.int .i64 0, .int .i64 0, .int .i64 0, .int .i64 0, .int .i64 0, .nils] [(0, 1, (.c (.int .i64 1))), (3, 1, (.c (.int .i64 20)))], none⟩, ⟨some 27, .build [.int .i64 0, .int .i64 0, .int .i64 0, .int .i64 0, .int .i64 0, .nils] [(0, 1, (.c (.int .i64 6)))], none⟩, oM 28 2, ⟨some 29, .slc 2 (.t 28) none (some (.c (.int .i64 1))), none⟩, ⟨some 30, .build [.int .i64 0, .int .i64 0, .int .i64 0, .int .i64 0, .int .i64 0, .nils] [(0, 1, (.c (.int .i64 2))), (4, 1, (.c (.int .i64 200))), (5, 1, (.t 29))], none⟩, ⟨some 31, .frz (.t 2), none⟩, ⟨some 32, .build [.int .i64 0, .int .i64 0, .int .i64 0, .int .i64 0, .int .i64 0, .nils] [(0, 1, (.c (.int .i64 3))), (1, 1, (.c (.int .i64 3))), (4, 1, (.c (.int .i64 100))), (5, 1, (.t 31))], none⟩, ⟨some 33, .bslice 4 6 40 [.int .i64 0, .int .i64 0, .int .i64 0, .int .i64 0, .int .i64 0, .nils] [(0, 6, (.t 26)), (6, 6, (.t 27)), (12, 6, (.t 30)), (18, 6, (.t 32))], none⟩, oM 6 33]
def c6_5 : OL := [oM 34 5, oN 35 .eql 34 0, oM 36 35, oAg 37 2 4 36 true, ⟨some 38, .build [.int .i64 0, .int .i64 0] [(0, 1, (.c (.int .i64 2)))], some (36, true)⟩, ⟨some 39, .eqv false true [false, false] (.t 37) (.t 38), some (36, true)⟩, oP 40 36 39, oM 41 40, oMg 42 3 41 true, oMg 43 6 41 true, ⟨some 44, .callp 17 [(.t 42), (.t 43)], some (41, true)⟩, oP 45 41 44, oM 46 45, oMg 47 3 46 true, ⟨some 48, .callp 18 [(.t 47)], some (46, true)⟩, oNg 49 .eql 48 0 46 true, oP 50 46 49, oM 51 50, oMg 52 3 51 true, ⟨some 53, .callz 19 [(.t 52), (.c (.int .i64 0))], some (51, true)⟩, oEg 54 53 51 true, oNg 55 .eql 54 2 51 true, oP 56 51 55, oM 57 56, oMg 58 3 57 true, ⟨some 59, .callz 19 [(.t 58), (.c (.int .i64 1))], some (57, true)⟩, oEg 60 59 57 true, oNg 61 .eql 60 0 57 true, oP 62 57 61, oM 0 62]
def lc6 : LC := (.seq (.reg false c6_0) (.seq (.reg false c6_1) (.seq (.reg false c6_2) (.seq (.reg true c6_3) (.seq (.reg false c6_4) (.seq (.reg false c6_5) .ret))))))
def lf6 : LFunc := ⟨0, [.tmp 0], true, lc6⟩
def hi6 : Q1 := ⟨[(8, .z), (16, .z), (22, .z), (31, .z), (53, .z), (59, .z)], [none, none, none, none, none, none, none], [(3, [3, 4, 5, 0, 1, 2, 6, 7, 8, 9, 10, 11, 12, 13, 14])], []⟩
theorem lf6_ok : Q6 Try.prog hi6 true Try.f6 = lf6.o := by kernel_rfl
def c7_0 : OL := [⟨some 6, .box (.t 1), none⟩, ⟨some 8, .box (.t 3), none⟩, ⟨some 9, .box (.t 4), none⟩, ⟨some 10, .mov (.c (.nils)), none⟩, ⟨some 11, .alloc [.int .i64 0, .int .i64 0], none⟩, oC 12 0]
def c7_1 : OL := [oA 19 20 9, ⟨some 20, .callp 20 [(.t 19)], none⟩, oU 21 20, oM 22 21, oAg 23 1 6 22 false, ⟨some 24, .callp 21 [(.t 23)], some (22, false)⟩, oUg 25 24 22 false, oO 26 22 25, oM 27 26, oMg 28 2 27 false, oNg 29 .lss 28 0 27 false, oO 30 27 29, oM 31 30, oMg 32 2 31 false, oNg 33 .geq 32 256 31 false, oO 34 31 33, oM 35 34, oAg 36 2 8 35 false, ⟨some 37, .callp 22 [(.t 36)], some (35, false)⟩, oUg 38 37 35 false, oO 39 35 38]
def c7_2 : OL := [⟨some 40, .build [.int .i64 0, .int .i64 0] [], none⟩, ⟨some 10, .mov (.c (.nils)), none⟩, oT 2 11 40, oC 12 1]
def c7_3 : OL := [oM 41 0, oE 42 41, oC 43 0]
def c7_4 : OL := [oB 44 .lss 43 42]
def c7_5 : OL := [oI 45 3 41 43, oA 46 3 45, ⟨some 14, .alloc [.int .i64 0, .bool false, .nils], none⟩, oT 3 14 46]
def c7_6 : OL := [oA 47 3 14, ⟨some 48, .callp 23 [(.t 47)], none⟩, oU 49 48]
def c7_7 : OL := [⟨some 50, .build [.int .i64 0, .int .i64 0] [], none⟩, ⟨some 10, .mov (.c (.nils)), none⟩, oT 2 11 50, oC 12 1]
def c7_8 : OL := [oN 51 .add 43 1, oM 43 51]
def c7_L0 : LC := (.seq (.reg false c7_4) (.seq (.cond (.t 44) .skip (.seq (.trim [0, 2, 6, 8, 9, 11]) (.exit 0))) (.seq (.blk 1 (.seq (.reg false c7_5) (.seq (.reg false c7_6) (.cond (.t 49) (.seq (.reg false c7_7) (.seq (.trim [10, 11, 12]) .ret)) .skip)))) (.reg false c7_8))))
def c7_10 : OL := [oA 52 1 6, oA 53 20 9, oA 54 2 8, ⟨some 55, .build [.nils, .nils, .int .i64 0, .int .i64 0, .int .i64 0, .int .i64 0, .int .i64 0, .int .i64 0, .int .i64 0, .bool false, .int .i64 0, .int .i64 0, .int .i64 0, .int .i64 0, .int .i64 0, .int .i64 0, .int .i64 0, .int .i64 0, .int .i64 0, .int .i64 0, .int .i64 0, .int .i64 0, .int .i64 0, .int .i64 0] [(1, 1, (.t 52)), (2, 20, (.t 53)), (22, 2, (.t 54))], none⟩, ⟨some 56, .box (.t 55), none⟩, oM 15 56]
def c7_11 : OL := [oM 57 15, ⟨some 58, .nilck (.t 57), none⟩, oF 59 0 58, oM 60 2, oM 61 2, oN 62 .add 61 1, oF 63 1 9, oL 64 63, oB 65 .mul 62 64, ⟨some 66, .build [.int .i64 0, .int .i64 0, .int .i64 0, .int .i64 0, .int .i64 0, .nils] [(0, 1, (.c (.int .i64 1))), (2, 1, (.t 60)), (3, 1, (.t 65))], none⟩, ⟨some 67, .callr 24 [(.t 59), (.t 66)], none⟩]
def c7_12 : OL := [⟨some 68, .build [.int .i64 0, .int .i64 0, .int .i64 0, .int .i64 0, .int .i64 0, .nils] [(0, 1, (.c (.int .i64 6)))], none⟩, ⟨some 16, .alloc [.int .i64 0, .int .i64 0, .int .i64 0, .int .i64 0, .int .i64 0, .nils], none⟩, oT 6 16 68]
def c7_13 : OL := [oM 69 2, oN 70 .gtr 69 0]
def c7_14 : OL := [oF 71 4 16, ⟨none, .store 1 (.t 71) (.c (.int .i64 255)), none⟩]
def c7_15 : OL := [oM 72 15, ⟨some 73, .nilck (.t 72), none⟩, oF 74 0 73, oA 75 6 16, ⟨some 76, .callr 24 [(.t 74), (.t 75)], none⟩]
def c7_16 : OL := [oC 17 0]
def c7_17 : OL := [oM 77 17, oM 78 0, oE 79 78, oB 80 .lss 77 79]
def c7_18 : OL := [oM 81 17, oN 82 .add 81 1, oM 18 82]
def c7_19 : OL := [oM 83 18, oM 84 0, oE 85 84, oB 86 .lss 83 85, oM 87 86, oMg 88 0 87 true, oMg 89 18 87 true, oIg 90 3 88 89 87 true, oFg 91 0 90 87 true, oLg 92 91 87 true, oMg 93 0 87 true, oMg 94 17 87 true, oIg 95 3 93 94 87 true, oFg 96 0 95 87 true, oLg 97 96 87 true, oBg 98 .eql 92 97 87 true, oP 99 87 98]
def c7_20 : OL := [oM 100 18, oN 101 .add 100 1, oM 18 101]
def c7_L1 : LC := (.seq (.seq (.reg true c7_19) (.cond (.t 99) .skip (.seq (.trim [0, 9, 11, 15, 17, 18]) (.exit 4)))) (.blk 5 (.reg false c7_20)))
def c7_22 : OL := [oM 102 15, oM 103 0, oM 104 17, oM 105 18, ⟨some 106, .slc 3 (.t 103) (some (.t 104)) (some (.t 105)), none⟩, ⟨some 107, .callr 25 [(.t 102), (.t 106)], none⟩]
def c7_23 : OL := [oM 108 18, oM 17 108]
def c7_L2 : LC := (.seq (.seq (.reg false c7_17) (.cond (.t 80) .skip (.seq (.trim [9, 11, 15]) (.exit 2)))) (.blk 3 (.seq (.reg false c7_18) (.seq (.blk 4 (.loop [0, 9, 11, 15, 17, 18] c7_L1)) (.seq (.reg false c7_22) (.reg false c7_23))))))
def c7_25 : OL := [oM 109 15, ⟨some 110, .nilck (.t 109), none⟩, oF 111 0 110, oF 112 0 111, oL 113 112, oA 114 20 9, oM 116 15, ⟨some 117, .nilck (.t 116), none⟩, oF 118 22 117, oA 119 2 118, ⟨some 115, .callz 26 [(.t 113), (.t 114)], none⟩, oM 10 115, oT 2 11 119, oC 12 0]
def lc7 : LC := (.seq (.reg false c7_0) (.seq (.seq (.reg false c7_1) (.cond (.t 39) (.seq (.reg false c7_2) .ret) .skip)) (.seq (.seq (.reg false c7_3) (.blk 0 (.loop [0, 2, 6, 8, 9, 11, 41, 42, 43] c7_L0))) (.seq (.reg false c7_10) (.seq (.reg true c7_11) (.seq (.reg false c7_12) (.seq (.seq (.reg false c7_13) (.cond (.t 70) (.reg false c7_14) .skip)) (.seq (.reg true c7_15) (.seq (.seq (.reg false c7_16) (.blk 2 (.loop [0, 9, 11, 15, 17] c7_L2))) (.seq (.reg true c7_25) .ret))))))))))
def lf7 : LFunc := ⟨5, [.tmp 10, .cell 11 true 2, .tmp 12], true, lc7⟩
def hi7 : Q1 := ⟨[(67, .r), (76, .r), (107, .r), (115, .z)], [none, none, none, none, none, none, some [0, 2, 6, 8, 9, 11, 41, 42, 43], none, some [0, 2, 6, 8, 9, 11], none, none, none, none, some [10, 11, 12], none, none, none, none, none, none, none, none, none, some [0, 9, 11, 15, 17], none, some [9, 11, 15], none, none, some [0, 9, 11, 15, 17, 18], none, some [0, 9, 11, 15, 17, 18], none, none, none, none, none, none], [(22, [0, 1, 2, 3, 4, 5, 7, 8, 9, 10, 6, 11, 12, 13])], []⟩
theorem lf7_ok : Q6 Try.prog hi7 true Try.f7 = lf7.o := by kernel_rfl
def c8_0 : OL := [⟨some 2, .alloc [.nils], none⟩, oC 3 0]
def c8_1 : OL := [oC 4 0]
def c8_2 : OL := [oM 8 4, oM 9 0, oE 10 9, oB 11 .lss 8 10]
def c8_3 : OL := [oM 14 0, oM 15 4, oI 16 2 14 15, oA 17 2 16, ⟨some 18, .callp 27 [(.t 17)], none⟩, oU 19 18]
def c8_4 : OL := [⟨some 20, .build [.nils] [], none⟩, oT 1 2 20, oC 3 8]
def c8_5 : OL := [oM 12 4, oN 13 .add 12 1, oM 4 13]
def c8_L0 : LC := (.seq (.seq (.reg false c8_2) (.cond (.t 11) .skip (.seq (.trim [0, 2]) (.exit 0)))) (.seq (.blk 1 (.seq (.reg false c8_3) (.cond (.t 19) (.seq (.reg false c8_4) (.seq (.trim [2, 3]) .ret)) .skip))) (.reg false c8_5)))
def c8_7 : OL := [oM 21 0, ⟨some 22, .callz 28 [(.t 21)], none⟩, oM 0 22]
def c8_8 : OL := [⟨some 5, .alloc [.nils], none⟩]
def c8_9 : OL := [oC 6 0]
def c8_10 : OL := [oM 23 6, oM 24 0, oE 25 24, oB 26 .lss 23 25]
def c8_11 : OL := [oF 29 0 5, oL 30 29, oE 31 30, oM 7 31]
def c8_12 : OL := [oM 32 7, oN 33 .eql 32 0, oM 34 33, oFg 35 0 5 34 false, oLg 36 35 34 false, oMg 37 7 34 false, oNg 38 .sub 37 1 34 false, oIg 39 2 36 38 34 false, oFg 40 0 39 34 false, oLg 41 40 34 false, oMg 42 0 34 false, oMg 43 6 34 false, oIg 44 2 42 43 34 false, oFg 45 1 44 34 false, oLg 46 45 34 false, oBg 47 .neq 41 46 34 false, oO 48 34 47]
def c8_13 : OL := [oF 49 0 5, oL 50 49, oM 51 0, oM 52 6, oI 53 2 51 52, oF 54 1 53, oL 55 54, ⟨some 56, .build [.int .i64 0, .nils] [(0, 1, (.t 55))], none⟩, ⟨some 57, .bslice 1 2 57 [.int .i64 0, .nils] [(0, 2, (.t 56))], none⟩, ⟨some 58, .app 2 32 57 [.int .i64 0, .nils] (.t 50) (.t 57), none⟩, oF 59 0 5, oT 1 59 58]
def c8_14 : OL := [oM 60 7, oN 61 .add 60 1, oM 7 61]
def c8_15 : OL := [oF 62 0 5, oL 63 62, oM 64 7, oN 65 .sub 64 1, oF 66 0 5, oL 67 66, oM 68 7, oN 69 .sub 68 1, oI 70 2 67 69, oF 71 1 70, oL 72 71, oM 73 0, oM 74 6, oI 75 2 73 74, oF 76 0 75, oL 77 76, ⟨some 78, .callz 29 [(.t 72), (.t 77)], none⟩, oI 79 2 63 65, oF 80 1 79, oT 1 80 78]
def c8_16 : OL := [oM 27 6, oN 28 .add 27 1, oM 6 28]
def c8_L1 : LC := (.seq (.seq (.reg false c8_10) (.cond (.t 26) .skip (.seq (.trim [2, 5]) (.exit 2)))) (.seq (.blk 3 (.seq (.reg false c8_11) (.seq (.seq (.reg true c8_12) (.cond (.t 48) (.seq (.reg true c8_13) (.reg false c8_14)) .skip)) (.reg true c8_15)))) (.reg false c8_16)))
def c8_18 : OL := [oA 81 1 5, oT 1 2 81, oC 3 0]
def lc8 : LC := (.seq (.reg false c8_0) (.seq (.seq (.reg false c8_1) (.blk 0 (.loop [0, 2, 4] c8_L0))) (.seq (.reg false c8_7) (.seq (.reg false c8_8) (.seq (.seq (.reg false c8_9) (.blk 2 (.loop [0, 2, 5, 6] c8_L1))) (.seq (.reg false c8_18) .ret))))))
def lf8 : LFunc := ⟨1, [.cell 2 true 1, .tmp 3], true, lc8⟩
def hi8 : Q1 := ⟨[(22, .z), (78, .z)], [none, none, some [0, 2, 4], none, some [0, 2], none, none, none, some [2, 3], none, none, none, none, none, some [0, 2, 5, 6], none, some [2, 5], none, none, none, none, none, none, none, none, none], [], []⟩
theorem lf8_ok : Q6 Try.prog hi8 true Try.f8 = lf8.o := by kernel_rfl
def c9_0 : OL := [⟨some 2, .box (.t 0), none⟩, ⟨some 3, .box (.t 1), none⟩, ⟨some 4, .mov (.c (.bool false)), none⟩]
def c9_1 : OL := [oA 5 1 2, ⟨some 6, .callp 30 [(.t 5)], none⟩, oM 7 6, oAg 8 1 3 7 true, ⟨some 9, .callp 30 [(.t 8)], some (7, true)⟩, oP 10 7 9, oM 11 10, oAg 12 1 2 11 true, oAg 13 1 3 11 true, ⟨some 14, .callp 31 [(.t 12), (.t 13)], some (11, true)⟩, ⟨some 15, .fld false 0 1 (.t 14), some (11, true)⟩, oEg 16 15 11 true, oNg 17 .eql 16 0 11 true, oP 18 11 17, oM 4 18]
def lc9 : LC := (.seq (.reg false c9_0) (.seq (.reg false c9_1) .ret))
def lf9 : LFunc := ⟨2, [.tmp 4], true, lc9⟩
def hi9 : Q1 := ⟨[], [none, none, none], [], []⟩
theorem lf9_ok : Q6 Try.prog hi9 true Try.f9 = lf9.o := by kernel_rfl
def c10_0 : OL := [⟨some 4, .mov (.c (.bool false)), none⟩]
def c10_1 : OL := [oC 5 0]
def c10_2 : OL := [oM 6 5, oM 7 0, oE 8 7, oB 9 .lss 6 8]
def c10_3 : OL := [oM 12 0, oM 13 0, oM 14 5, oI 15 2 13 14, oA 16 2 15, ⟨some 17, .callp 32 [(.t 12), (.t 16)], none⟩, oM 18 1, oM 19 0, oM 20 5, oI 21 2 19 20, oA 22 2 21, ⟨some 23, .callp 32 [(.t 18), (.t 22)], none⟩, oB 24 .neq 17 23]
def c10_4 : OL := [⟨some 4, .mov (.c (.bool false)), none⟩]
def c10_5 : OL := [oM 10 5, oN 11 .add 10 1, oM 5 11]
def Jyf : LC := (.seq (.seq (.reg false c10_2) (.cond (.t 9) .skip (.seq (.trim [0, 1]) (.exit 0)))) (.seq (.blk 1 (.seq (.reg true c10_3) (.cond (.t 24) (.seq (.reg false c10_4) (.seq (.trim [4]) .ret)) .skip))) (.reg false c10_5)))
def c10_7 : OL := [oM 25 0, oE 26 25, oM 27 1, oE 28 27, oB 29 .eql 26 28, oM 4 29]
def lc10 : LC := (.seq (.reg false c10_0) (.seq (.seq (.reg false c10_1) (.blk 0 (.loop [0, 1, 5] Jyf))) (.seq (.reg false c10_7) .ret)))
def lf10 : LFunc := ⟨2, [.tmp 4], true, lc10⟩
def hi10 : Q1 := ⟨[], [none, none, some [0, 1, 5], none, some [0, 1], none, none, none, some [4], none, none, none, none], [], []⟩
theorem lf10_ok : Q6 Try.prog hi10 true Try.f10 = lf10.o := by kernel_rfl
def c11_0 : OL := [⟨some 2, .mov (.c (.nils)), none⟩]
def c11_1 : OL := [⟨some 3, .mov (.c (.nils)), none⟩]
def c11_2 : OL := [oM 6 0, oE 7 6, oC 8 0]
def c11_3 : OL := [oB 9 .lss 8 7]
def c11_4 : OL := [oI 10 3 6 8, oA 11 3 10, ⟨some 5, .alloc [.int .i64 0, .bool false, .nils], none⟩, oT 3 5 11]
def c11_5 : OL := [oA 12 3 5, ⟨some 13, .callp 33 [(.t 12)], none⟩]
def c11_6 : OL := [oM 14 3, oF 15 2 5, oL 16 15, ⟨some 17, .app 2 16 27 [.int .i64 0, .int .i64 0] (.t 14) (.t 16), none⟩, oM 3 17]
def c11_7 : OL := [oN 18 .add 8 1, oM 8 18]
def Jy2 : LC := (.seq (.reg false c11_3) (.seq (.cond (.t 9) .skip (.seq (.trim [3]) (.exit 0))) (.seq (.blk 1 (.seq (.reg false c11_4) (.seq (.reg false c11_5) (.cond (.t 13) (.reg false c11_6) .skip)))) (.reg false c11_7))))
def c11_9 : OL := [oM 19 3, oM 2 19]
def lc11 : LC := (.seq (.reg false c11_0) (.seq (.reg false c11_1) (.seq (.seq (.reg false c11_2) (.blk 0 (.loop [3, 6, 7, 8] Jy2))) (.seq (.reg false c11_9) .ret))))
def lf11 : LFunc := ⟨1, [.tmp 2], true, lc11⟩
def hi11 : Q1 := ⟨[], [none, none, none, some [3, 6, 7, 8], none, some [3], none, none, none, none, none, none, none], [], []⟩
theorem lf11_ok : Q6 Try.prog hi11 true Try.f11 = lf11.o := by kernel_rfl
def c12_0 : OL := [⟨some 2, .mov (.c (.nils)), none⟩]
def c12_1 : OL := [⟨some 3, .mov (.c (.nils)), none⟩]
def c12_2 : OL := [oC 4 0]
def c12_3 : OL := [oM 5 4, oM 6 0, oE 7 6, oB 8 .lss 5 7]
def c12_4 : OL := [oM 11 0, oM 12 4, oI 13 6 11 12, oF 14 0 13, oL 15 14, oN 16 .eql 15 3]
def c12_5 : OL := [oM 17 3, oM 18 0, oM 19 4, oI 20 6 18 19, oF 21 1 20, oL 22 21, oM 23 0, oM 24 4, oI 25 6 23 24, oF 26 5 25, oL 27 26, ⟨some 28, .build [.int .i64 0, .bool false, .nils] [(0, 1, (.t 22)), (2, 1, (.t 27))], none⟩, ⟨some 29, .bslice 1 3 50 [.int .i64 0, .bool false, .nils] [(0, 3, (.t 28))], none⟩, ⟨some 30, .app 3 40 50 [.int .i64 0, .bool false, .nils] (.t 17) (.t 29), none⟩, oM 3 30]
def c12_6 : OL := [oM 9 4, oN 10 .add 9 1, oM 4 10]
def J11 : LC := (.seq (.seq (.reg false c12_3) (.cond (.t 8) .skip (.seq (.trim [3]) (.exit 0)))) (.seq (.blk 1 (.seq (.reg false c12_4) (.cond (.t 16) (.reg true c12_5) .skip))) (.reg false c12_6)))
def c12_8 : OL := [oM 31 3, oM 2 31]
def lc12 : LC := (.seq (.reg false c12_0) (.seq (.reg false c12_1) (.seq (.seq (.reg false c12_2) (.blk 0 (.loop [0, 3, 4] J11))) (.seq (.reg false c12_8) .ret))))
def lf12 : LFunc := ⟨1, [.tmp 2], true, lc12⟩
def hi12 : Q1 := ⟨[], [none, none, none, some [0, 3, 4], none, some [3], none, none, none, none, none, none], [], []⟩
theorem lf12_ok : Q6 Try.prog hi12 true Try.f12 = lf12.o := by kernel_rfl
def c14_0 : OL := [⟨some 2, .mov (.c (.bool false)), none⟩]
def c14_1 : OL := [oC 3 0]
def c14_2 : OL := [oM 5 3, oM 6 0, oE 7 6, oB 8 .lss 5 7]
def c14_3 : OL := [oM 11 0, oM 12 3, oI 13 2 11 12, oA 14 2 13, ⟨some 4, .alloc [.int .i64 0, .int .i64 0], none⟩, oT 2 4 14]
def c14_4 : OL := [oF 15 0 4, oL 16 15, oN 17 .gtr 16 60, oM 18 17, oFg 19 0 4 18 true, oLg 20 19 18 true, oNg 21 .lss 20 4096 18 true, oP 22 18 21, oM 23 22, oFg 24 1 4 23 false, oLg 25 24 23 false, oNg 26 .gtr 25 60 23 false, oMg 27 26 23 false, oFg 28 1 4 27 true, oLg 29 28 27 true, oNg 30 .lss 29 4096 27 true, oPg 31 27 30 23 false, oO 32 23 31, oM 33 32, oFg 34 0 4 33 false, oLg 35 34 33 false, oNg 36 .lss 35 (-60) 33 false, oMg 37 36 33 false, oFg 38 0 4 37 true, oLg 39 38 37 true, oNg 40 .geq 39 (-4096) 37 true, oPg 41 37 40 33 false, oO 42 33 41, oM 43 42, oFg 44 1 4 43 false, oLg 45 44 43 false, oNg 46 .lss 45 (-60) 43 false, oMg 47 46 43 false, oFg 48 1 4 47 true, oLg 49 48 47 true, oNg 50 .geq 49 (-4096) 47 true, oPg 51 47 50 43 false, oO 52 43 51]
def c14_5 : OL := [⟨some 2, .mov (.c (.bool false)), none⟩]
def c14_6 : OL := [oM 9 3, oN 10 .add 9 1, oM 3 10]
def J3q : LC := (.seq (.seq (.reg false c14_2) (.cond (.t 8) .skip (.seq (.trim []) (.exit 0)))) (.seq (.blk 1 (.seq (.reg false c14_3) (.seq (.reg false c14_4) (.cond (.t 52) (.seq (.reg false c14_5) (.seq (.trim [2]) .ret)) .skip)))) (.reg false c14_6)))
def c14_8 : OL := [⟨some 2, .mov (.c (.bool true)), none⟩]
def lc14 : LC := (.seq (.reg false c14_0) (.seq (.seq (.reg false c14_1) (.blk 0 (.loop [0, 3] J3q))) (.seq (.reg false c14_8) .ret)))
def lf14 : LFunc := ⟨1, [.tmp 2], true, lc14⟩
def hi14 : Q1 := ⟨[], [none, none, some [0, 3], none, some [], none, none, none, none, some [2], none, none, none, none], [], []⟩
theorem lf14_ok : Q6 Try.prog hi14 true Try.f14 = lf14.o := by kernel_rfl
def c15_0 : OL := [⟨some 1, .box (.t 0), none⟩, oC 2 0]
def c15_1 : OL := [oC 3 0]
def c15_2 : OL := [oA 6 1 1, ⟨some 7, .callp 30 [(.t 6)], none⟩, oU 8 7]
def c15_3 : OL := [oM 9 3, oM 2 9]
def c15_4 : OL := [oC 4 0]
def c15_5 : OL := [oM 10 4, oF 11 0 1, oL 12 11, oE 13 12, oB 14 .lss 10 13]
def c15_6 : OL := [oC 5 0]
def c15_7 : OL := [oM 17 5, oF 18 0 1, oL 19 18, oM 20 4, oI 21 2 19 20, oF 22 1 21, oL 23 22, oE 24 23, oB 25 .lss 17 24]
def c15_8 : OL := [oM 28 3, oF 29 0 1, oL 30 29, oM 31 4, oI 32 2 30 31, oF 33 1 32, oL 34 33, oM 35 5, oI 36 2 34 35, oF 37 1 36, oL 38 37, oF 39 0 1, oL 40 39, oM 41 4, oI 42 2 40 41, oF 43 1 42, oL 44 43, oM 45 5, oI 46 2 44 45, oF 47 0 46, oL 48 47, oB 49 .sub 38 48, oB 50 .add 28 49, oM 3 50]
def c15_9 : OL := [oM 26 5, oN 27 .add 26 1, oM 5 27]
def Jue : LC := (.seq (.seq (.reg false c15_7) (.cond (.t 25) .skip (.seq (.trim [1, 3, 4]) (.exit 2)))) (.seq (.blk 3 (.reg true c15_8)) (.reg false c15_9)))
def J17 : OL := [oM 15 4, oN 16 .add 15 1, oM 4 16]
def Jyo : LC := (.seq (.seq (.reg false c15_5) (.cond (.t 14) .skip (.seq (.trim [3]) (.exit 0)))) (.seq (.blk 1 (.seq (.reg false c15_6) (.blk 2 (.loop [1, 3, 4, 5] Jue)))) (.reg false J17)))
def c15_13 : OL := [oM 51 3, oM 2 51]
def lc15 : LC := (.seq (.reg false c15_0) (.seq (.reg false c15_1) (.seq (.seq (.reg false c15_2) (.cond (.t 8) (.seq (.reg false c15_3) .ret) .skip)) (.seq (.seq (.reg false c15_4) (.blk 0 (.loop [1, 3, 4] Jyo))) (.seq (.reg false c15_13) .ret)))))
def lf15 : LFunc := ⟨1, [.tmp 2], true, lc15⟩
def hi15 : Q1 := ⟨[], [none, none, none, none, none, none, none, some [1, 3, 4], none, some [3], none, none, some [1, 3, 4, 5], none, some [1, 3, 4], none, none, none, none, none, none], [], []⟩
theorem lf15_ok : Q6 Try.prog hi15 true Try.f15 = lf15.o := by kernel_rfl
def c16_0 : OL := [⟨some 0, .alloc [.int .i64 0, .int .i64 0, .int .i64 0, .int .i64 0, .int .i64 0, .int .i64 0, .int .i64 0, .bool false, .int .i64 0, .int .i64 0, .int .i64 0, .int .i64 0, .int .i64 0, .int .i64 0, .int .i64 0, .int .i64 0, .int .i64 0, .int .i64 0, .int .i64 0, .int .i64 0], none⟩]
def c16_1 : OL := [⟨some 1, .build [.int .i64 0, .int .i64 0, .int .i64 0, .int .i64 0, .int .i64 0, .int .i64 0, .int .i64 0, .bool false, .int .i64 0, .int .i64 0, .int .i64 0, .int .i64 0, .int .i64 0, .int .i64 0, .int .i64 0, .int .i64 0, .int .i64 0, .int .i64 0, .int .i64 0, .int .i64 0] [(0, 1, (.c (.int .i64 40))), (1, 1, (.c (.int .i64 20))), (6, 1, (.c (.int .i64 1))), (12, 1, (.c (.int .i64 8000))), (13, 1, (.c (.int .i64 4000))), (14, 1, (.c (.int .i64 8000))), (17, 1, (.c (.int .i64 40)))], none⟩, oT 20 0 1]
def lc16 : LC := (.seq (.reg false c16_0) (.seq (.reg false c16_1) .ret))
def lf16 : LFunc := ⟨0, [.cell 0 true 20], true, lc16⟩
def hi16 : Q1 := ⟨[], [none, none, none], [], []⟩
theorem lf16_ok : Q6 Try.prog hi16 true Try.f16 = lf16.o := by kernel_rfl
def c17_0 : OL := [⟨some 4, .mov (.c (.bool false)), none⟩]
def c17_1 : OL := [oM 9 0, oE 10 9, oM 11 1, oE 12 11, oB 13 .neq 10 12]
def c17_2 : OL := [⟨some 4, .mov (.c (.bool false)), none⟩]
def c17_3 : OL := [oC 5 0]
def c17_4 : OL := [oM 14 5, oM 15 0, oE 16 15, oB 17 .lss 14 16]
def c17_5 : OL := [oM 20 0, oM 21 5, oI 22 6 20 21, oA 23 6 22, oM 24 1, oM 25 5, ⟨some 26, .msk [6, 7] (.iaddr 6 (.t 24) (.t 25)), none⟩, ⟨some 27, .msk [6, 7] (.load true 6 (.t 26)), none⟩, ⟨some 6, .alloc [.int .i64 0, .int .i64 0, .int .i64 0, .int .i64 0, .int .i64 0, .nils], none⟩, ⟨some 7, .alloc [.int .i64 0, .int .i64 0, .int .i64 0, .int .i64 0, .int .i64 0, .nils], none⟩, ⟨none, .ston [6, 7] 6 (.t 6) (.t 23), none⟩, ⟨none, .ston [6, 7] 6 (.t 7) (.t 27), none⟩]
def c17_6 : OL := [oF 28 0 6, oL 29 28, oF 30 0 7, oL 31 30, oB 32 .neq 29 31, oM 33 32, oFg 34 1 6 33 false, oLg 35 34 33 false, oFg 36 1 7 33 false, oLg 37 36 33 false, oBg 38 .neq 35 37 33 false, oO 39 33 38, oM 40 39, oFg 41 2 6 40 false, oLg 42 41 40 false, oFg 43 2 7 40 false, oLg 44 43 40 false, oBg 45 .neq 42 44 40 false, oO 46 40 45, oM 47 46, oFg 48 3 6 47 false, oLg 49 48 47 false, oFg 50 3 7 47 false, oLg 51 50 47 false, oBg 52 .neq 49 51 47 false, oO 53 47 52, oM 54 53, oFg 55 4 6 54 false, oLg 56 55 54 false, oFg 57 4 7 54 false, oLg 58 57 54 false, oBg 59 .neq 56 58 54 false, oO 60 54 59, oM 61 60, oFg 62 5 6 61 false, oLg 63 62 61 false, oEg 64 63 61 false, oFg 65 5 7 61 false, oLg 66 65 61 false, oEg 67 66 61 false, oBg 68 .neq 64 67 61 false, oO 69 61 68]
def c17_7 : OL := [⟨some 4, .mov (.c (.bool false)), none⟩]
def c17_8 : OL := [oC 8 0]
def c17_9 : OL := [oM 70 8, oF 71 5 6, oL 72 71, oE 73 72, oB 74 .lss 70 73]
def c17_10 : OL := [oF 77 5 6, oL 78 77, oM 79 8, oI 80 2 78 79, oA 81 2 80, oF 82 5 7, oL 83 82, oM 84 8, oI 85 2 83 84, oA 86 2 85, ⟨some 87, .eqv true true [false, false] (.t 81) (.t 86), none⟩]
def c17_11 : OL := [⟨some 4, .mov (.c (.bool false)), none⟩]
def c17_12 : OL := [oM 75 8, oN 76 .add 75 1, oM 8 76]
def c17_L0 : LC := (.seq (.seq (.reg false c17_9) (.cond (.t 74) .skip (.seq (.trim [0, 1, 5]) (.exit 2)))) (.seq (.blk 3 (.seq (.reg true c17_10) (.cond (.t 87) (.seq (.reg false c17_11) (.seq (.trim [4]) .ret)) .skip))) (.reg false c17_12)))
def c17_14 : OL := [oM 18 5, oN 19 .add 18 1, oM 5 19]
def c17_L1 : LC := (.seq (.seq (.reg false c17_4) (.cond (.t 17) .skip (.seq (.trim []) (.exit 0)))) (.seq (.blk 1 (.seq (.reg true c17_5) (.seq (.seq (.reg false c17_6) (.cond (.t 69) (.seq (.reg false c17_7) (.seq (.trim [4]) .ret)) .skip)) (.seq (.reg false c17_8) (.blk 2 (.loop [0, 1, 5, 6, 7, 8] c17_L0)))))) (.reg false c17_14)))
def c17_16 : OL := [⟨some 4, .mov (.c (.bool true)), none⟩]
def lc17 : LC := (.seq (.reg false c17_0) (.seq (.seq (.reg false c17_1) (.cond (.t 13) (.seq (.reg false c17_2) .ret) .skip)) (.seq (.seq (.reg false c17_3) (.blk 0 (.loop [0, 1, 5] c17_L1))) (.seq (.reg false c17_16) .ret))))
def lf17 : LFunc := ⟨2, [.tmp 4], true, lc17⟩
def hi17 : Q1 := ⟨[], [none, none, none, none, none, none, some [0, 1, 5], none, some [], none, none, none, none, some [4], none, none, some [0, 1, 5, 6, 7, 8], none, some [0, 1, 5], none, none, none, some [4], none, none, none, none, none], [], [(6, [6, 7], [26, 27])]⟩
theorem lf17_ok : Q6 Try.prog hi17 true Try.f17 = lf17.o := by kernel_rfl
def c18_0 : OL := [oC 2 0]
def c18_1 : OL := [oM 9 0, oE 10 9, oC 11 0]
def c18_2 : OL := [oB 12 .lss 11 10]
def c18_3 : OL := [oI 13 6 9 11, oA 14 6 13, ⟨some 4, .alloc [.int .i64 0, .int .i64 0, .int .i64 0, .int .i64 0, .int .i64 0, .nils], none⟩, oT 6 4 14]
def c18_4 : OL := [oA 15 6 4, ⟨some 16, .callp 35 [(.t 15)], none⟩, oU 17 16]
def c18_5 : OL := [oC 2 1]
def c18_6 : OL := [oN 18 .add 11 1, oM 11 18]
def c18_L0 : LC := (.seq (.reg false c18_2) (.seq (.cond (.t 12) .skip (.seq (.trim [0]) (.exit 0))) (.seq (.blk 1 (.seq (.reg false c18_3) (.seq (.reg false c18_4) (.cond (.t 17) (.seq (.reg false c18_5) (.seq (.trim [2]) .ret)) .skip)))) (.reg false c18_6))))
def c18_8 : OL := [⟨some 19, .build [.int .i64 0, .int .i64 0] [], none⟩, ⟨some 5, .alloc [.int .i64 0, .int .i64 0], none⟩, oT 2 5 19, ⟨some 6, .mov (.c (.bool false)), none⟩]
def c18_9 : OL := [oM 20 0, oE 21 20, oC 22 0]
def c18_10 : OL := [oB 23 .lss 22 21]
def c18_11 : OL := [oM 24 22, oI 25 6 20 22, oA 26 6 25, ⟨some 8, .alloc [.int .i64 0, .int .i64 0, .int .i64 0, .int .i64 0, .int .i64 0, .nils], none⟩, oM 7 24, oT 6 8 26]
def c18_12 : OL := [oM 27 7, oN 28 .eql 27 0, oM 29 28, oFg 30 0 8 29 true, oLg 31 30 29 true, oNg 32 .neq 31 1 29 true, oP 33 29 32]
def c18_13 : OL := [oC 2 11]
def c18_14 : OL := [oF 34 0 8, oL 35 34]
def c18_15 : OL := [oN 37 .eql 35 2, oM 36 37]
def c18_16 : OL := [oN 38 .eql 35 3, oM 36 38]
def c18_17 : OL := [oA 39 6 8, oA 40 2 5, ⟨some 41, .callp 36 [(.t 39), (.t 40)], none⟩, oU 42 41, oM 43 42, oMg 44 6 43 false, oMg 45 44 43 false, oFg 46 0 8 45 true, oLg 47 46 45 true, oNg 48 .eql 47 3 45 true, oPg 49 45 48 43 false, oO 50 43 49]
def c18_18 : OL := [oC 2 11]
def c18_19 : OL := [oF 51 5 8, oL 52 51, oF 53 5 8, oL 54 53, oE 55 54, oN 56 .sub 55 1, oI 57 2 52 56, oA 58 2 57, oT 2 5 58]
def c18_20 : OL := [oN 60 .eql 35 4, oM 59 60]
def c18_21 : OL := [oN 61 .eql 35 5, oM 59 61]
def c18_22 : OL := [oM 62 6, oF 63 0 8, oL 64 63, oN 65 .eql 64 4, ⟨some 66, .eqv false false [true] (.t 62) (.t 65), none⟩]
def c18_23 : OL := [oC 2 11]
def c18_24 : OL := [oM 67 6, oU 68 67, oM 6 68]
def c18_25 : OL := [oN 69 .add 22 1, oM 22 69]
def c18_L1 : LC := (.seq (.reg false c18_10) (.seq (.cond (.t 23) .skip (.seq (.trim []) (.exit 2))) (.seq (.blk 3 (.seq (.reg false c18_11) (.seq (.seq (.reg false c18_12) (.cond (.t 33) (.seq (.reg false c18_13) (.seq (.trim [2]) .ret)) .skip)) (.seq (.reg false c18_14) (.blk 4 (.seq (.seq (.reg false c18_15) (.cond (.t 36) .skip (.reg false c18_16))) (.cond (.t 36) (.seq (.seq (.reg false c18_17) (.cond (.t 50) (.seq (.reg false c18_18) (.seq (.trim [2]) .ret)) .skip)) (.reg false c18_19)) (.seq (.seq (.reg false c18_20) (.cond (.t 59) .skip (.reg false c18_21))) (.cond (.t 59) (.seq (.seq (.reg false c18_22) (.cond (.t 66) (.seq (.reg false c18_23) (.seq (.trim [2]) .ret)) .skip)) (.reg false c18_24)) .skip))))))))) (.reg false c18_25))))
def c18_27 : OL := [oC 2 0]
def lc18 : LC := (.seq (.reg false c18_0) (.seq (.seq (.reg false c18_1) (.blk 0 (.loop [0, 9, 10, 11] c18_L0))) (.seq (.reg false c18_8) (.seq (.seq (.reg false c18_9) (.blk 2 (.loop [5, 6, 20, 21, 22] c18_L1))) (.seq (.reg false c18_27) .ret)))))
def lf18 : LFunc := ⟨1, [.tmp 2], true, lc18⟩
def hi18 : Q1 := ⟨[], [none, none, some [0, 9, 10, 11], none, some [0], none, none, none, none, some [2], none, none, none, none, some [5, 6, 20, 21, 22], none, some [], none, none, none, none, some [2], none, none, none, none, none, none, some [2], none, none, none, none, none, some [2], none, none, none, none, none], [], []⟩
theorem lf18_ok : Q6 Try.prog hi18 true Try.f18 = lf18.o := by kernel_rfl
def c19_0 : OL := [⟨some 4, .mov (.c (.nils)), none⟩]
def c19_1 : OL := [⟨some 5, .mov (.c (.nils)), none⟩]
def c19_2 : OL := [⟨some 6, .mov (.c (.bool false)), none⟩]
def c19_3 : OL := [oM 9 0, oE 10 9, oC 11 0]
def c19_4 : OL := [oB 12 .lss 11 10]
def c19_5 : OL := [oI 13 6 9 11, oA 14 6 13, ⟨some 8, .alloc [.int .i64 0, .int .i64 0, .int .i64 0, .int .i64 0, .int .i64 0, .nils], none⟩, oT 6 8 14]
def c19_6 : OL := [oF 16 0 8, oL 17 16, oN 18 .eql 17 1, oM 15 18]
def c19_7 : OL := [oF 19 2 8, oL 20 19, oM 21 1, oB 22 .eql 20 21, oM 6 22]
def c19_8 : OL := [oF 24 0 8, oL 25 24, oN 26 .eql 25 3, oM 27 26, oMg 28 6 27 true, oP 29 27 28, oM 23 29]
def c19_9 : OL := [oM 30 5, oF 31 5 8, oL 32 31, ⟨some 33, .app 2 16 27 [.int .i64 0, .int .i64 0] (.t 30) (.t 32), none⟩, oM 5 33]
def c19_10 : OL := [oN 34 .add 11 1, oM 11 34]
def c19_L0 : LC := (.seq (.reg false c19_4) (.seq (.cond (.t 12) .skip (.seq (.trim [5]) (.exit 0))) (.seq (.blk 1 (.seq (.reg false c19_5) (.blk 2 (.seq (.reg false c19_6) (.cond (.t 15) (.reg false c19_7) (.seq (.reg false c19_8) (.cond (.t 23) (.reg false c19_9) .skip))))))) (.reg false c19_10))))
def c19_12 : OL := [oM 35 5, oM 4 35]
def lc19 : LC := (.seq (.reg false c19_0) (.seq (.reg false c19_1) (.seq (.reg false c19_2) (.seq (.seq (.reg false c19_3) (.blk 0 (.loop [1, 5, 6, 9, 10, 11] c19_L0))) (.seq (.reg false c19_12) .ret)))))
def lf19 : LFunc := ⟨2, [.tmp 4], true, lc19⟩
def hi19 : Q1 := ⟨[], [none, none, none, none, some [1, 5, 6, 9, 10, 11], none, some [5], none, none, none, none, none, none, none, none], [], []⟩
theorem lf19_ok : Q6 Try.prog hi19 true Try.f19 = lf19.o := by kernel_rfl
def c20_0 : OL := [⟨some 1, .box (.t 0), none⟩, ⟨some 2, .mov (.c (.bool false)), none⟩]
def c20_1 : OL := [oA 3 20 1, ⟨some 4, .callp 37 [(.t 3)], none⟩, ⟨some 5, .build [.bool false, .bool false, .bool false, .bool false, .bool false, .bool false, .bool false] [], none⟩, ⟨some 6, .eqv false true [true, true, true, true, true, true, true] (.t 4) (.t 5), none⟩, oM 2 6]
def lc20 : LC := (.seq (.reg false c20_0) (.seq (.reg false c20_1) .ret))
def lf20 : LFunc := ⟨1, [.tmp 2], true, lc20⟩
def hi20 : Q1 := ⟨[], [none, none, none], [], []⟩
theorem lf20_ok : Q6 Try.prog hi20 true Try.f20 = lf20.o := by kernel_rfl
def c21_0 : OL := [⟨some 1, .box (.t 0), none⟩, ⟨some 2, .mov (.c (.bool false)), none⟩]
def c21_1 : OL := [oF 5 0 1, oL 6 5, oE 7 6, oC 8 0]
def c21_2 : OL := [oB 9 .lss 8 7]
def c21_3 : OL := [oM 10 8, oI 11 2 6 8, oA 12 2 11, ⟨some 4, .alloc [.int .i64 0, .nils], none⟩, oM 3 10, oT 2 4 12]
def c21_4 : OL := [oF 13 0 4, oL 14 13, ⟨some 15, .callp 38 [(.t 14)], none⟩, oU 16 15, oM 17 16, oMg 18 3 17 false, oNg 19 .gtr 18 0 17 false, oMg 20 19 17 false, oFg 21 0 4 20 true, oLg 22 21 20 true, oFg 23 0 1 20 true, oLg 24 23 20 true, oMg 25 3 20 true, oNg 26 .sub 25 1 20 true, oIg 27 2 24 26 20 true, oFg 28 0 27 20 true, oLg 29 28 20 true, oBg 30 .leq 22 29 20 true, oPg 31 20 30 17 false, oO 32 17 31, oM 33 32, oFg 34 1 4 33 false, oLg 35 34 33 false, oEg 36 35 33 false, oNg 37 .eql 36 0 33 false, oO 38 33 37, oM 39 38, oFg 40 1 4 39 false, oLg 41 40 39 false, ⟨some 42, .callp 39 [(.t 41)], some (39, false)⟩, oUg 43 42 39 false, oO 44 39 43]
def c21_5 : OL := [⟨some 2, .mov (.c (.bool false)), none⟩]
def c21_6 : OL := [oF 45 1 4, oL 46 45, ⟨some 47, .iaddr 2 (.t 46) (.c (.int .i64 0)), none⟩, oF 48 0 47, oL 49 48, ⟨some 50, .callp 38 [(.t 49)], none⟩, oU 51 50, oM 52 51, oFg 53 1 4 52 false, oLg 54 53 52 false, oFg 55 1 4 52 false, oLg 56 55 52 false, oEg 57 56 52 false, oNg 58 .sub 57 1 52 false, oIg 59 2 54 58 52 false, oFg 60 1 59 52 false, oLg 61 60 52 false, oNg 62 .sub 61 1 52 false, ⟨some 63, .callp 38 [(.t 62)], some (52, false)⟩, oUg 64 63 52 false, oO 65 52 64]
def c21_7 : OL := [⟨some 2, .mov (.c (.bool false)), none⟩]
def c21_8 : OL := [oN 66 .add 8 1, oM 8 66]
def J59 : LC := (.seq (.reg false c21_2) (.seq (.cond (.t 9) .skip (.seq (.trim []) (.exit 0))) (.seq (.blk 1 (.seq (.reg false c21_3) (.seq (.seq (.reg true c21_4) (.cond (.t 44) (.seq (.reg false c21_5) (.seq (.trim [2]) .ret)) .skip)) (.seq (.reg false c21_6) (.cond (.t 65) (.seq (.reg false c21_7) (.seq (.trim [2]) .ret)) .skip))))) (.reg false c21_8))))
def c21_10 : OL := [⟨some 2, .mov (.c (.bool true)), none⟩]
def lc21 : LC := (.seq (.reg false c21_0) (.seq (.seq (.reg false c21_1) (.blk 0 (.loop [1, 6, 7, 8] J59))) (.seq (.reg false c21_10) .ret)))
def lf21 : LFunc := ⟨1, [.tmp 2], true, lc21⟩
def hi21 : Q1 := ⟨[], [none, none, some [1, 6, 7, 8], none, some [], none, none, none, none, some [2], none, none, none, some [2], none, none, none, none], [], []⟩
theorem lf21_ok : Q6 Try.prog hi21 true Try.f21 = lf21.o := by kernel_rfl
def c22_0 : OL := [⟨some 1, .box (.t 0), none⟩, ⟨some 2, .mov (.c (.bool false)), none⟩]
def c22_1 : OL := [oF 3 0 1, oL 4 3, oN 5 .geq 4 (-4096), oM 6 5, oFg 7 0 1 6 true, oLg 8 7 6 true, oNg 9 .lss 8 4096 6 true, oP 10 6 9, oM 11 10, oFg 12 1 1 11 true, oLg 13 12 11 true, oNg 14 .geq 13 (-4096) 11 true, oP 15 11 14, oM 16 15, oFg 17 1 1 16 true, oLg 18 17 16 true, oNg 19 .lss 18 4096 16 true, oP 20 16 19, oM 2 20]
def lc22 : LC := (.seq (.reg false c22_0) (.seq (.reg false c22_1) .ret))
def lf22 : LFunc := ⟨1, [.tmp 2], true, lc22⟩
def hi22 : Q1 := ⟨[], [none, none, none], [], []⟩
theorem lf22_ok : Q6 Try.prog hi22 true Try.f22 = lf22.o := by kernel_rfl
def c23_0 : OL := [⟨some 1, .box (.t 0), none⟩, ⟨some 2, .mov (.c (.bool false)), none⟩]
def c23_1 : OL := [oF 6 2 1, oL 7 6, oE 8 7, oM 3 8]
def c23_2 : OL := [oF 9 0 1, oL 10 9, oN 11 .lss 10 1, oM 12 11, oFg 13 0 1 12 false, oLg 14 13 12 false, oNg 15 .gtr 14 7 12 false, oO 16 12 15, oM 17 16, oMg 18 3 17 false, oNg 19 .lss 18 1 17 false, oO 20 17 19, oM 21 20, oMg 22 3 21 false, oNg 23 .gtr 22 65536 21 false, oO 24 21 23]
def c23_3 : OL := [⟨some 2, .mov (.c (.bool false)), none⟩]
def c23_4 : OL := [oF 25 2 1, oL 26 25, oE 27 26, oC 28 0]
def c23_5 : OL := [oB 29 .lss 28 27]
def c23_6 : OL := [oM 30 28, oI 31 2 26 28, oA 32 2 31, ⟨some 5, .alloc [.int .i64 0, .int .i64 0], none⟩, oM 4 30, oT 2 5 32]
def c23_7 : OL := [oA 33 2 5, ⟨some 34, .callp 40 [(.t 33)], none⟩, oU 35 34, oM 36 35, oMg 37 4 36 false, oNg 38 .gtr 37 0 36 false, oMg 39 38 36 false, oFg 40 2 1 39 true, oLg 41 40 39 true, oMg 42 4 39 true, oNg 43 .sub 42 1 39 true, oIg 44 2 41 43 39 true, oAg 45 2 44 39 true, oAg 46 2 5 39 true, ⟨some 47, .callp 41 [(.t 45), (.t 46)], some (39, true)⟩, oUg 48 47 39 true, oPg 49 39 48 36 false, oO 50 36 49]
def c23_8 : OL := [⟨some 2, .mov (.c (.bool false)), none⟩]
def c23_9 : OL := [oN 51 .add 28 1, oM 28 51]
def J5t : LC := (.seq (.reg false c23_5) (.seq (.cond (.t 29) .skip (.seq (.trim [1, 3]) (.exit 0))) (.seq (.blk 1 (.seq (.reg false c23_6) (.seq (.reg true c23_7) (.cond (.t 50) (.seq (.reg false c23_8) (.seq (.trim [2]) .ret)) .skip)))) (.reg false c23_9))))
def c23_11 : OL := [oF 52 1 1, oL 53 52, oU 54 53, oM 55 54, oMg 56 3 55 false, oNg 57 .eql 56 1 55 false, oO 58 55 57, oM 59 58, oFg 60 2 1 59 false, oLg 61 60 59 false, oMg 62 3 59 false, oNg 63 .sub 62 1 59 false, oIg 64 2 61 63 59 false, oAg 65 2 64 59 false, oFg 66 2 1 59 false, oLg 67 66 59 false, ⟨some 68, .iaddr 2 (.t 67) (.c (.int .i64 0)), some (59, false)⟩, oAg 69 2 68 59 false, ⟨some 70, .callp 41 [(.t 65), (.t 69)], some (59, false)⟩, oO 71 59 70, oM 2 71]
def lc23 : LC := (.seq (.reg false c23_0) (.seq (.reg false c23_1) (.seq (.seq (.reg false c23_2) (.cond (.t 24) (.seq (.reg false c23_3) .ret) .skip)) (.seq (.seq (.reg false c23_4) (.blk 0 (.loop [1, 3, 26, 27, 28] J5t))) (.seq (.reg true c23_11) .ret)))))
def lf23 : LFunc := ⟨1, [.tmp 2], true, lc23⟩
def hi23 : Q1 := ⟨[], [none, none, none, none, none, none, none, some [1, 3, 26, 27, 28], none, some [1, 3], none, none, none, none, some [2], none, none, none, none], [], []⟩
theorem lf23_ok : Q6 Try.prog hi23 true Try.f23 = lf23.o := by kernel_rfl
def c24_0 : OL := [⟨some 3, .box (.t 1), none⟩]
def c24_1 : OL := [oM 4 0, oM 5 0, ⟨some 6, .nilck (.t 5), none⟩, oF 7 0 6, oL 8 7, oA 9 6 3, ⟨some 10, .bslice 1 6 40 [.int .i64 0, .int .i64 0, .int .i64 0, .int .i64 0, .int .i64 0, .nils] [(0, 6, (.t 9))], none⟩, ⟨some 11, .app 6 64 40 [.int .i64 0, .int .i64 0, .int .i64 0, .int .i64 0, .int .i64 0, .nils] (.t 8) (.t 10), none⟩, ⟨some 12, .nilck (.t 4), none⟩, oF 13 0 12, oT 1 13 11]
def lc24 : LC := (.seq (.reg false c24_0) (.reg true c24_1))
def lf24 : LFunc := ⟨2, [], false, lc24⟩
def hi24 : Q1 := ⟨[], [none], [], []⟩
theorem lf24_ok : Q6 Try.prog hi24 false Try.f24 = lf24.o := by kernel_rfl
def c25_0 : OL := [oM 7 0, ⟨some 8, .nilck (.t 7), none⟩, oF 9 22 8, oA 10 2 9, ⟨some 4, .alloc [.int .i64 0, .int .i64 0], none⟩, oT 2 4 10]
def c25_1 : OL := [oA 11 2 4, oA 12 2 4, oM 13 1, oC 17 0, ⟨some 14, .callz 43 [(.t 12), (.t 13)], none⟩, ⟨some 15, .callz 42 [(.t 11), (.t 14), (.c (.int .i64 8))], none⟩, oE 16 15]
def c25_2 : OL := [oB 18 .lss 17 16]
def c25_3 : OL := [oI 19 3 15 17, oA 20 3 19, ⟨some 6, .alloc [.int .i64 0, .bool false, .nils], none⟩, oT 3 6 20]
def c25_4 : OL := [oM 21 0, oA 22 3 6, ⟨some 23, .callr 44 [(.t 21), (.t 22)], none⟩]
def c25_5 : OL := [oN 24 .add 17 1, oM 17 24]
def J2y : LC := (.seq (.reg false c25_2) (.seq (.cond (.t 18) .skip (.seq (.trim []) (.exit 0))) (.seq (.blk 1 (.seq (.reg false c25_3) (.reg false c25_4))) (.reg false c25_5))))
def lc25 : LC := (.seq (.reg false c25_0) (.seq (.reg true c25_1) (.blk 0 (.loop [0, 15, 16, 17] J2y))))
def lf25 : LFunc := ⟨2, [], false, lc25⟩
def hi25 : Q1 := ⟨[(14, .z), (15, .z), (23, .r)], [none, none, some [0, 15, 16, 17], none, some [], none, none, none], [(1, [0, 1, 2, 6, 3, 4, 5])], []⟩
theorem lf25_ok : Q6 Try.prog hi25 false Try.f25 = lf25.o := by kernel_rfl
def c26_0 : OL := [⟨some 2, .box (.t 0), none⟩, ⟨some 3, .box (.t 1), none⟩, ⟨some 4, .mov (.c (.nils)), none⟩]
def c26_1 : OL := [oL 9 2, ⟨some 10, .callz 45 [(.t 9)], none⟩, oT 1 2 10]
def c26_2 : OL := [oA 11 20 3, ⟨some 12, .callp 20 [(.t 11)], none⟩, oU 13 12]
def c26_3 : OL := [oL 14 2, oM 4 14]
def c26_4 : OL := [⟨some 15, .mkfn 46 [(.t 2), (.t 3)], none⟩, oM 5 15]
def c26_5 : OL := [oF 16 17 3, oL 17 16, oF 18 0 3, oL 19 18, oB 20 .quo 17 19, ⟨some 21, .mm true (.t 20) (.c (.int .i64 1)), none⟩, oF 22 13 3, oL 23 22, oF 24 0 3, oL 25 24, oB 26 .quo 23 25, ⟨some 27, .mm true (.t 26) (.c (.int .i64 1)), none⟩, oM 6 21, oM 7 27]
def c26_6 : OL := [oM 28 6, oM 29 7, oB 30 .lss 28 29]
def c26_7 : OL := [oM 31 6, oM 32 7, oB 33 .add 31 32, oN 34 .add 33 1, oN 35 .quo 34 2, oM 8 35]
def c26_8 : OL := [oM 36 5, oM 37 8, ⟨some 38, .callu (.t 36) [(.t 37)], none⟩]
def c26_9 : OL := [oM 39 8, oM 6 39]
def Jy3 : OL := [oM 40 8, oN 41 .sub 40 1, oM 7 41]
def J52 : LC := (.seq (.seq (.reg false c26_6) (.cond (.t 30) .skip (.seq (.trim [2, 6]) (.exit 0)))) (.blk 1 (.seq (.reg false c26_7) (.seq (.reg false c26_8) (.cond (.t 38) (.reg false c26_9) (.reg false Jy3))))))
def c26_12 : OL := [oL 42 2, oM 43 6, ⟨some 44, .callz 48 [(.t 42), (.t 43)], none⟩, oM 4 44]
def lc26 : LC := (.seq (.reg false c26_0) (.seq (.reg false c26_1) (.seq (.seq (.reg false c26_2) (.cond (.t 13) (.seq (.reg false c26_3) .ret) .skip)) (.seq (.reg false c26_4) (.seq (.reg true c26_5) (.seq (.blk 0 (.loop [2, 5, 6, 7] J52)) (.seq (.reg false c26_12) .ret)))))))
def lf26 : LFunc := ⟨2, [.tmp 4], true, lc26⟩
def hi26 : Q1 := ⟨[(10, .z), (38, .q), (44, .z)], [none, none, none, none, none, none, none, none, some [2, 5, 6, 7], none, some [2, 6], none, none, none, none, none, none], [], []⟩
theorem lf26_ok : Q6 Try.prog hi26 true Try.f26 = lf26.o := by kernel_rfl
def c27_0 : OL := [⟨some 1, .box (.t 0), none⟩, ⟨some 2, .mov (.c (.bool false)), none⟩]
def c27_1 : OL := [oF 3 0 1, oL 4 3, oN 5 .geq 4 (-4096), oM 6 5, oFg 7 0 1 6 true, oLg 8 7 6 true, oNg 9 .lss 8 4096 6 true, oP 10 6 9, oM 11 10, oFg 12 1 1 11 true, oLg 13 12 11 true, oNg 14 .geq 13 (-4096) 11 true, oP 15 11 14, oM 16 15, oFg 17 1 1 16 true, oLg 18 17 16 true, oNg 19 .lss 18 4096 16 true, oP 20 16 19, oM 2 20]
def lc27 : LC := (.seq (.reg false c27_0) (.seq (.reg false c27_1) .ret))
def lf27 : LFunc := ⟨1, [.tmp 2], true, lc27⟩
def hi27 : Q1 := ⟨[], [none, none, none], [], []⟩
theorem lf27_ok : Q6 Try.prog hi27 true Try.f27 = lf27.o := by kernel_rfl
def c28_0 : OL := [⟨some 2, .mov (.c (.nils)), none⟩]
def c28_1 : OL := [⟨some 7, .bslice 0 2 27 [.int .i64 0, .int .i64 0] [], none⟩, oM 8 0, ⟨some 9, .app 2 16 27 [.int .i64 0, .int .i64 0] (.t 7) (.t 8), none⟩, oM 3 9]
def c28_2 : OL := [oC 4 1]
def c28_3 : OL := [oM 10 4, oM 11 3, oE 12 11, oB 13 .lss 10 12]
def c28_4 : OL := [oM 16 4, oM 5 16]
def c28_5 : OL := [oM 17 5, oN 18 .gtr 17 0, oM 19 18, oMg 20 3 19 true, oMg 21 5 19 true, oIg 22 2 20 21 19 true, oAg 23 2 22 19 true, oMg 24 3 19 true, oMg 25 5 19 true, oNg 26 .sub 25 1 19 true, oIg 27 2 24 26 19 true, oAg 28 2 27 19 true, ⟨some 29, .callp 49 [(.t 23), (.t 28)], some (19, true)⟩, oP 30 19 29]
def c28_6 : OL := [oM 33 3, oM 34 5, oI 35 2 33 34, oA 36 2 35, ⟨some 6, .alloc [.int .i64 0, .int .i64 0], none⟩, oT 2 6 36]
def c28_7 : OL := [oM 37 3, oM 38 5, oM 39 3, oM 40 5, oN 41 .sub 40 1, oI 42 2 39 41, oA 43 2 42, oI 44 2 37 38, oT 2 44 43]
def c28_8 : OL := [oM 45 3, oM 46 5, oN 47 .sub 46 1, oA 48 2 6, oI 49 2 45 47, oT 2 49 48]
def c28_9 : OL := [oM 31 5, oN 32 .sub 31 1, oM 5 32]
def Jtu : LC := (.seq (.seq (.reg true c28_5) (.cond (.t 30) .skip (.seq (.trim [3, 4]) (.exit 2)))) (.seq (.blk 3 (.seq (.reg false c28_6) (.seq (.reg false c28_7) (.reg false c28_8)))) (.reg false c28_9)))
def Jzy : OL := [oM 14 4, oN 15 .add 14 1, oM 4 15]
def Jx8 : LC := (.seq (.seq (.reg false c28_3) (.cond (.t 13) .skip (.seq (.trim [3]) (.exit 0)))) (.seq (.blk 1 (.seq (.reg false c28_4) (.blk 2 (.loop [3, 4, 5] Jtu)))) (.reg false Jzy)))
def c28_13 : OL := [oM 50 3, oM 2 50]
def lc28 : LC := (.seq (.reg false c28_0) (.seq (.reg false c28_1) (.seq (.seq (.reg false c28_2) (.blk 0 (.loop [3, 4] Jx8))) (.seq (.reg false c28_13) .ret))))
def lf28 : LFunc := ⟨1, [.tmp 2], true, lc28⟩
def hi28 : Q1 := ⟨[], [none, none, none, some [3, 4], none, some [3], none, none, some [3, 4, 5], none, some [3, 4], none, none, none, none, none, none, none, none], [], []⟩
theorem lf28_ok : Q6 Try.prog hi28 true Try.f28 = lf28.o := by kernel_rfl
def c29_0 : OL := [⟨some 4, .mov (.c (.nils)), none⟩]
def c29_1 : OL := [oM 6 0, oE 7 6, oM 5 7]
def c29_2 : OL := [oM 8 5, oN 9 .gtr 8 0, oM 10 9, oMg 11 1 10 true, oMg 12 0 10 true, oMg 13 5 10 true, oNg 14 .sub 13 1 10 true, oIg 15 2 12 14 10 true, oFg 16 1 15 10 true, oLg 17 16 10 true, oBg 18 .lss 11 17 10 true, oP 19 10 18]
def c29_3 : OL := [oM 20 0, oM 4 20]
def c29_4 : OL := [oM 21 5, oN 22 .gtr 21 0, oM 23 22, oMg 24 1 23 true, oMg 25 0 23 true, oMg 26 5 23 true, oNg 27 .sub 26 1 23 true, oIg 28 2 25 27 23 true, oFg 29 1 28 23 true, oLg 30 29 23 true, oBg 31 .eql 24 30 23 true, oP 32 23 31]
def c29_5 : OL := [oM 34 0, oM 35 5, oN 36 .sub 35 1, ⟨some 37, .slc 2 (.t 34) none (some (.t 36)), none⟩, oM 39 0, oM 40 5, oN 41 .sub 40 1, ⟨some 42, .msk [33, 38, 48, 49] (.iaddr 2 (.t 39) (.t 41)), none⟩, ⟨some 43, .msk [33, 38, 48, 49] (.faddr 0 (.t 42)), none⟩, ⟨some 44, .msk [33, 38, 48, 49] (.load false 1 (.t 43)), none⟩, oM 45 1, oN 46 .add 45 1, ⟨some 47, .build [.int .i64 0, .int .i64 0] [(0, 1, (.t 44)), (1, 1, (.t 46))], none⟩, ⟨some 33, .bslice 0 2 54 [.int .i64 0, .int .i64 0] [], none⟩, ⟨some 38, .appn false [33, 38, 48, 49] 2 16 54 [.int .i64 0, .int .i64 0] (.t 33) (.t 37), none⟩, ⟨some 48, .bslice 1 2 54 [.int .i64 0, .int .i64 0] [(0, 2, (.t 47))], none⟩, ⟨some 49, .appn false [33, 38, 48, 49] 2 16 54 [.int .i64 0, .int .i64 0] (.t 38) (.t 48), none⟩, oM 4 49]
def c29_6 : OL := [⟨some 50, .bslice 0 2 54 [.int .i64 0, .int .i64 0] [], none⟩, oM 51 0, ⟨some 52, .app 2 16 54 [.int .i64 0, .int .i64 0] (.t 50) (.t 51), none⟩, oM 53 1, oM 54 1, oN 55 .add 54 1, ⟨some 56, .build [.int .i64 0, .int .i64 0] [(0, 1, (.t 53)), (1, 1, (.t 55))], none⟩, ⟨some 57, .bslice 1 2 54 [.int .i64 0, .int .i64 0] [(0, 2, (.t 56))], none⟩, ⟨some 58, .app 2 16 54 [.int .i64 0, .int .i64 0] (.t 52) (.t 57), none⟩, oM 4 58]
def lc29 : LC := (.seq (.reg false c29_0) (.seq (.reg false c29_1) (.seq (.seq (.reg false c29_2) (.cond (.t 19) (.seq (.reg false c29_3) .ret) .skip)) (.seq (.seq (.reg false c29_4) (.cond (.t 32) (.seq (.reg true c29_5) .ret) .skip)) (.seq (.reg false c29_6) .ret)))))
def lf29 : LFunc := ⟨2, [.tmp 4], true, lc29⟩
def hi29 : Q1 := ⟨[], [none, none, none, none, none, none, none, none, none, none, none, none], [(5, [1, 2, 3, 4, 6, 7, 8, 9, 10, 11, 12, 13, 14, 0, 5, 15, 16, 17])], [(5, [33, 38, 48, 49], [42, 43, 44])]⟩
theorem lf29_ok : Q6 Try.prog hi29 true Try.f29 = lf29.o := by kernel_rfl
def c30_0 : OL := [⟨some 1, .box (.t 0), none⟩, ⟨some 2, .mov (.c (.bool false)), none⟩]
def c30_1 : OL := [oC 3 0]
def c30_2 : OL := [oM 5 3, oF 6 0 1, oL 7 6, oE 8 7, oB 9 .lss 5 8]
def c30_3 : OL := [oF 12 0 1, oL 13 12, oM 14 3, oI 15 2 13 14, oF 16 0 15, oL 17 16, oM 4 17]
def c30_4 : OL := [oM 18 4, oN 19 .lss 18 (-4096), oM 20 19, oMg 21 4 20 false, oNg 22 .geq 21 4096 20 false, oO 23 20 22, oM 24 23, oMg 25 3 24 false, oNg 26 .gtr 25 0 24 false, oMg 27 26 24 false, oMg 28 4 27 true, oFg 29 0 1 27 true, oLg 30 29 27 true, oMg 31 3 27 true, oNg 32 .sub 31 1 27 true, oIg 33 2 30 32 27 true, oFg 34 0 33 27 true, oLg 35 34 27 true, oBg 36 .leq 28 35 27 true, oPg 37 27 36 24 false, oO 38 24 37, oM 39 38, oFg 40 0 1 39 false, oLg 41 40 39 false, oMg 42 3 39 false, oIg 43 2 41 42 39 false, oFg 44 1 43 39 false, oLg 45 44 39 false, ⟨some 46, .callp 50 [(.t 45)], some (39, false)⟩, oUg 47 46 39 false, oO 48 39 47]
def c30_5 : OL := [⟨some 2, .mov (.c (.bool false)), none⟩]
def c30_6 : OL := [oM 10 3, oN 11 .add 10 1, oM 3 11]
def J1k : LC := (.seq (.seq (.reg false c30_2) (.cond (.t 9) .skip (.seq (.trim []) (.exit 0)))) (.seq (.blk 1 (.seq (.reg false c30_3) (.seq (.reg false c30_4) (.cond (.t 48) (.seq (.reg false c30_5) (.seq (.trim [2]) .ret)) .skip)))) (.reg false c30_6)))
def c30_8 : OL := [⟨some 2, .mov (.c (.bool true)), none⟩]
def lc30 : LC := (.seq (.reg false c30_0) (.seq (.seq (.reg false c30_1) (.blk 0 (.loop [1, 3] J1k))) (.seq (.reg false c30_8) .ret)))
def lf30 : LFunc := ⟨1, [.tmp 2], true, lc30⟩
def hi30 : Q1 := ⟨[], [none, none, some [1, 3], none, some [], none, none, none, none, some [2], none, none, none, none], [], []⟩
theorem lf30_ok : Q6 Try.prog hi30 true Try.f30 = lf30.o := by kernel_rfl
def c31_0 : OL := [⟨some 2, .box (.t 0), none⟩, ⟨some 3, .box (.t 1), none⟩, ⟨some 4, .alloc [.nils], none⟩]
def c31_1 : OL := [oA 5 1 2, oA 6 1 3, ⟨some 7, .callp 51 [(.c (.int .i64 2)), (.t 5), (.t 6)], none⟩, oT 1 4 7]
def lc31 : LC := (.seq (.reg false c31_0) (.seq (.reg false c31_1) .ret))
def lf31 : LFunc := ⟨2, [.cell 4 true 1], true, lc31⟩
def hi31 : Q1 := ⟨[], [none, none, none], [], []⟩
theorem lf31_ok : Q6 Try.prog hi31 true Try.f31 = lf31.o := by kernel_rfl
def c32_0 : OL := [⟨some 3, .box (.t 1), none⟩, oC 4 0]
def c32_1 : OL := [oC 5 0]
def c32_2 : OL := [oC 6 0]
def c32_3 : OL := [oM 7 6, oM 8 0, oE 9 8, oB 10 .lss 7 9]
def c32_4 : OL := [oM 13 0, oM 14 6, oI 15 2 13 14, oA 16 2 15, oA 17 2 3, ⟨some 18, .eqv false true [false, false] (.t 16) (.t 17), none⟩]
def c32_5 : OL := [oM 19 5, oN 20 .add 19 1, oM 5 20]
def c32_6 : OL := [oM 11 6, oN 12 .add 11 1, oM 6 12]
def J3g : LC := (.seq (.seq (.reg false c32_3) (.cond (.t 10) .skip (.seq (.trim [5]) (.exit 0)))) (.seq (.blk 1 (.seq (.reg true c32_4) (.cond (.t 18) (.reg false c32_5) .skip))) (.reg false c32_6)))
def c32_8 : OL := [oM 21 5, oM 4 21]
def lc32 : LC := (.seq (.reg false c32_0) (.seq (.reg false c32_1) (.seq (.seq (.reg false c32_2) (.blk 0 (.loop [0, 3, 5, 6] J3g))) (.seq (.reg false c32_8) .ret))))
def lf32 : LFunc := ⟨2, [.tmp 4], true, lc32⟩
def hi32 : Q1 := ⟨[], [none, none, none, some [0, 3, 5, 6], none, some [5], none, none, none, none, none, none], [], []⟩
theorem lf32_ok : Q6 Try.prog hi32 true Try.f32 = lf32.o := by kernel_rfl
def c33_0 : OL := [⟨some 1, .box (.t 0), none⟩, ⟨some 2, .mov (.c (.bool false)), none⟩]
def c33_1 : OL := [oF 6 2 1, oL 7 6, oE 8 7, oM 3 8]
def c33_2 : OL := [oF 9 0 1, oL 10 9, oN 11 .lss 10 1, oM 12 11, oFg 13 0 1 12 false, oLg 14 13 12 false, oNg 15 .gtr 14 7 12 false, oO 16 12 15, oM 17 16, oMg 18 3 17 false, oNg 19 .lss 18 1 17 false, oO 20 17 19, oM 21 20, oMg 22 3 21 false, oNg 23 .gtr 22 65536 21 false, oO 24 21 23]
def c33_3 : OL := [⟨some 2, .mov (.c (.bool false)), none⟩]
def c33_4 : OL := [oF 25 2 1, oL 26 25, oE 27 26, oC 28 0]
def c33_5 : OL := [oB 29 .lss 28 27]
def c33_6 : OL := [oM 30 28, oI 31 2 26 28, oA 32 2 31, ⟨some 5, .alloc [.int .i64 0, .int .i64 0], none⟩, oM 4 30, oT 2 5 32]
def c33_7 : OL := [oA 33 2 5, ⟨some 34, .callp 52 [(.t 33)], none⟩, oU 35 34, oM 36 35, oMg 37 4 36 false, oNg 38 .gtr 37 0 36 false, oMg 39 38 36 false, oFg 40 2 1 39 true, oLg 41 40 39 true, oMg 42 4 39 true, oNg 43 .sub 42 1 39 true, oIg 44 2 41 43 39 true, oAg 45 2 44 39 true, oAg 46 2 5 39 true, ⟨some 47, .callp 53 [(.t 45), (.t 46)], some (39, true)⟩, oUg 48 47 39 true, oPg 49 39 48 36 false, oO 50 36 49]
def c33_8 : OL := [⟨some 2, .mov (.c (.bool false)), none⟩]
def c33_9 : OL := [oN 51 .add 28 1, oM 28 51]
def J0n : LC := (.seq (.reg false c33_5) (.seq (.cond (.t 29) .skip (.seq (.trim [1, 3]) (.exit 0))) (.seq (.blk 1 (.seq (.reg false c33_6) (.seq (.reg true c33_7) (.cond (.t 50) (.seq (.reg false c33_8) (.seq (.trim [2]) .ret)) .skip)))) (.reg false c33_9))))
def c33_11 : OL := [oF 52 1 1, oL 53 52, oU 54 53, oM 55 54, oMg 56 3 55 false, oNg 57 .eql 56 1 55 false, oO 58 55 57, oM 59 58, oFg 60 2 1 59 false, oLg 61 60 59 false, oMg 62 3 59 false, oNg 63 .sub 62 1 59 false, oIg 64 2 61 63 59 false, oAg 65 2 64 59 false, oFg 66 2 1 59 false, oLg 67 66 59 false, ⟨some 68, .iaddr 2 (.t 67) (.c (.int .i64 0)), some (59, false)⟩, oAg 69 2 68 59 false, ⟨some 70, .callp 53 [(.t 65), (.t 69)], some (59, false)⟩, oO 71 59 70, oM 2 71]
def lc33 : LC := (.seq (.reg false c33_0) (.seq (.reg false c33_1) (.seq (.seq (.reg false c33_2) (.cond (.t 24) (.seq (.reg false c33_3) .ret) .skip)) (.seq (.seq (.reg false c33_4) (.blk 0 (.loop [1, 3, 26, 27, 28] J0n))) (.seq (.reg true c33_11) .ret)))))
def lf33 : LFunc := ⟨1, [.tmp 2], true, lc33⟩
def hi33 : Q1 := ⟨[], [none, none, none, none, none, none, none, some [1, 3, 26, 27, 28], none, some [1, 3], none, none, none, none, some [2], none, none, none, none], [], []⟩
theorem lf33_ok : Q6 Try.prog hi33 true Try.f33 = lf33.o := by kernel_rfl
def c35_0 : OL := [⟨some 1, .box (.t 0), none⟩, ⟨some 2, .mov (.c (.bool false)), none⟩]
def c35_1 : OL := [oF 5 0 1, oL 6 5, oN 7 .lss 6 1, oM 8 7, oFg 9 0 1 8 false, oLg 10 9 8 false, oNg 11 .gtr 10 6 8 false, oO 12 8 11]
def c35_2 : OL := [⟨some 2, .mov (.c (.bool false)), none⟩]
def c35_3 : OL := [oF 13 5 1, oL 14 13, oE 15 14, oC 16 0]
def c35_4 : OL := [oB 17 .lss 16 15]
def c35_5 : OL := [oI 18 2 14 16, oA 19 2 18, ⟨some 4, .alloc [.int .i64 0, .int .i64 0], none⟩, oT 2 4 19]
def c35_6 : OL := [oA 20 2 4, ⟨some 21, .callp 22 [(.t 20)], none⟩, oU 22 21]
def c35_7 : OL := [⟨some 2, .mov (.c (.bool false)), none⟩]
def c35_8 : OL := [oN 23 .add 16 1, oM 16 23]
def c35_L0 : LC := (.seq (.reg false c35_4) (.seq (.cond (.t 17) .skip (.seq (.trim []) (.exit 0))) (.seq (.blk 1 (.seq (.reg false c35_5) (.seq (.reg false c35_6) (.cond (.t 22) (.seq (.reg false c35_7) (.seq (.trim [2]) .ret)) .skip)))) (.reg false c35_8))))
def c35_10 : OL := [⟨some 2, .mov (.c (.bool true)), none⟩]
def lc35 : LC := (.seq (.reg false c35_0) (.seq (.seq (.reg false c35_1) (.cond (.t 12) (.seq (.reg false c35_2) .ret) .skip)) (.seq (.seq (.reg false c35_3) (.blk 0 (.loop [14, 15, 16] c35_L0))) (.seq (.reg false c35_10) .ret))))
def lf35 : LFunc := ⟨1, [.tmp 2], true, lc35⟩
def hi35 : Q1 := ⟨[], [none, none, none, none, none, none, some [14, 15, 16], none, some [], none, none, none, none, some [2], none, none, none, none], [], []⟩
theorem lf35_ok : Q6 Try.prog hi35 true Try.f35 = lf35.o := by kernel_rfl
def c36_0 : OL := [⟨some 2, .box (.t 0), none⟩, ⟨some 3, .box (.t 1), none⟩, ⟨some 4, .mov (.c (.bool false)), none⟩]
def c36_1 : OL := [oF 6 5 2, oL 7 6, oE 8 7, oN 9 .eql 8 0]
def c36_2 : OL := [⟨some 4, .mov (.c (.bool false)), none⟩]
def c36_3 : OL := [oF 10 0 2, oL 11 10, oN 12 .eql 11 3, oM 13 12, oFg 14 5 2 13 true, oLg 15 14 13 true, ⟨some 16, .iaddr 2 (.t 15) (.c (.int .i64 0)), some (13, true)⟩, oAg 17 2 16 13 true, oAg 18 2 3 13 true, ⟨some 19, .eqv true true [false, false] (.t 17) (.t 18), some (13, true)⟩, oP 20 13 19, oM 21 20, oFg 22 0 2 21 false, oLg 23 22 21 false, oNg 24 .eql 23 2 21 false, oMg 25 24 21 false, oFg 26 5 2 25 true, oLg 27 26 25 true, ⟨some 28, .iaddr 2 (.t 27) (.c (.int .i64 0)), some (25, true)⟩, oAg 29 2 28 25 true, oAg 30 2 3 25 true, ⟨some 31, .callp 54 [(.t 29), (.t 30)], some (25, true)⟩, oUg 32 31 25 true, oPg 33 25 32 21 false, oO 34 21 33]
def c36_4 : OL := [⟨some 4, .mov (.c (.bool false)), none⟩]
def c36_5 : OL := [oC 5 1]
def c36_6 : OL := [oM 35 5, oF 36 5 2, oL 37 36, oE 38 37, oB 39 .lss 35 38]
def c36_7 : OL := [oF 42 5 2, oL 43 42, oM 44 5, oN 45 .sub 44 1, oI 46 2 43 45, oA 47 2 46, oF 48 5 2, oL 49 48, oM 50 5, oI 51 2 49 50, oA 52 2 51, ⟨some 53, .callp 54 [(.t 47), (.t 52)], none⟩, oU 54 53]
def c36_8 : OL := [⟨some 4, .mov (.c (.bool false)), none⟩]
def c36_9 : OL := [oM 40 5, oN 41 .add 40 1, oM 5 41]
def c36_L0 : LC := (.seq (.seq (.reg false c36_6) (.cond (.t 39) .skip (.seq (.trim []) (.exit 0)))) (.seq (.blk 1 (.seq (.reg true c36_7) (.cond (.t 54) (.seq (.reg false c36_8) (.seq (.trim [4]) .ret)) .skip))) (.reg false c36_9)))
def c36_11 : OL := [⟨some 4, .mov (.c (.bool true)), none⟩]
def lc36 : LC := (.seq (.reg false c36_0) (.seq (.seq (.reg false c36_1) (.cond (.t 9) (.seq (.reg false c36_2) .ret) .skip)) (.seq (.seq (.reg true c36_3) (.cond (.t 34) (.seq (.reg false c36_4) .ret) .skip)) (.seq (.seq (.reg false c36_5) (.blk 0 (.loop [2, 5] c36_L0))) (.seq (.reg false c36_11) .ret)))))
def lf36 : LFunc := ⟨2, [.tmp 4], true, lc36⟩
def hi36 : Q1 := ⟨[], [none, none, none, none, none, none, none, none, none, none, some [2, 5], none, some [], none, none, none, some [4], none, none, none, none], [], []⟩
theorem lf36_ok : Q6 Try.prog hi36 true Try.f36 = lf36.o := by kernel_rfl
def c37_0 : OL := [⟨some 1, .box (.t 0), none⟩, ⟨some 2, .alloc [.bool false, .bool false, .bool false, .bool false, .bool false, .bool false, .bool false], none⟩]
def c37_1 : OL := [oF 3 0 1, oL 4 3, ⟨some 5, .callp 55 [(.t 4), (.c (.int .i64 32)), (.c (.int .i64 1024))], none⟩, oU 6 5, oM 7 6, oFg 8 1 1 7 false, oLg 9 8 7 false, ⟨some 10, .callp 55 [(.t 9), (.c (.int .i64 4)), (.c (.int .i64 1024))], some (7, false)⟩, oUg 11 10 7 false, oO 12 7 11, oF 13 2 1, oL 14 13, ⟨some 15, .callp 56 [(.t 14), (.c (.int .i64 0)), (.c (.int .i64 8))], none⟩, oU 16 15, oM 17 16, oFg 18 3 1 17 false, oLg 19 18 17 false, ⟨some 20, .callp 56 [(.t 19), (.c (.int .i64 0)), (.c (.int .i64 16))], some (17, false)⟩, oUg 21 20 17 false, oO 22 17 21, oM 23 22, oFg 24 4 1 23 false, oLg 25 24 23 false, ⟨some 26, .callp 56 [(.t 25), (.c (.int .i64 0)), (.c (.int .i64 16))], some (23, false)⟩, oUg 27 26 23 false, oO 28 23 27, oF 29 5 1, oL 30 29, ⟨some 31, .callp 56 [(.t 30), (.c (.int .i64 0)), (.c (.int .i64 3))], none⟩, oU 32 31, oM 33 32, oFg 34 6 1 33 false, oLg 35 34 33 false, ⟨some 36, .callp 56 [(.t 35), (.c (.int .i64 1)), (.c (.int .i64 64))], some (33, false)⟩, oUg 37 36 33 false, oO 38 33 37, oF 39 8 1, oL 40 39, ⟨some 41, .callp 56 [(.t 40), (.c (.int .i64 0)), (.c (.int .i64 64))], none⟩, oU 42 41, oM 43 42, oFg 44 9 1 43 false, oLg 45 44 43 false, ⟨some 46, .callp 56 [(.t 45), (.c (.int .i64 0)), (.c (.int .i64 64))], some (43, false)⟩, oUg 47 46 43 false, oO 48 43 47, oM 49 48, oFg 50 10 1 49 false, oLg 51 50 49 false, ⟨some 52, .callp 56 [(.t 51), (.c (.int .i64 0)), (.c (.int .i64 64))], some (49, false)⟩, oUg 53 52 49 false, oO 54 49 53, oM 55 54, oFg 56 11 1 55 false, oLg 57 56 55 false, ⟨some 58, .callp 56 [(.t 57), (.c (.int .i64 0)), (.c (.int .i64 63))], some (55, false)⟩, oUg 59 58 55 false, oO 60 55 59, oF 61 12 1, oL 62 61, ⟨some 63, .callp 56 [(.t 62), (.c (.int .i64 1)), (.c (.int .i64 1073741824))], none⟩, oU 64 63, oM 65 64, oFg 66 15 1 65 false, oLg 67 66 65 false, ⟨some 68, .callp 56 [(.t 67), (.c (.int .i64 0)), (.c (.int .i64 65536))], some (65, false)⟩, oUg 69 68 65 false, oO 70 65 69, oF 71 13 1, oL 72 71, ⟨some 73, .callp 56 [(.t 72), (.c (.int .i64 1)), (.c (.int .i64 1048576))], none⟩, oU 74 73, oM 75 74, oFg 76 14 1 75 false, oLg 77 76 75 false, ⟨some 78, .callp 56 [(.t 77), (.c (.int .i64 1)), (.c (.int .i64 1048576))], some (75, false)⟩, oUg 79 78 75 false, oO 80 75 79, oM 81 80, oFg 82 16 1 81 false, oLg 83 82 81 false, ⟨some 84, .callp 56 [(.t 83), (.c (.int .i64 0)), (.c (.int .i64 1048576))], some (81, false)⟩, oUg 85 84 81 false, oO 86 81 85, oM 87 86, oFg 88 17 1 87 false, oLg 89 88 87 false, oFg 90 13 1 87 false, oLg 91 90 87 false, ⟨some 92, .callp 56 [(.t 89), (.c (.int .i64 1)), (.t 91)], some (87, false)⟩, oUg 93 92 87 false, oO 94 87 93, oF 95 18 1, oL 96 95, ⟨some 97, .callp 56 [(.t 96), (.c (.int .i64 0)), (.c (.int .i64 400000))], none⟩, oU 98 97, oM 99 98, oFg 100 19 1 99 false, oLg 101 100 99 false, ⟨some 102, .callp 56 [(.t 101), (.c (.int .i64 0)), (.c (.int .i64 400000))], some (99, false)⟩, oUg 103 102 99 false, oO 104 99 103, ⟨some 105, .build [.bool false, .bool false, .bool false, .bool false, .bool false, .bool false, .bool false] [(0, 1, (.t 12)), (1, 1, (.t 28)), (2, 1, (.t 38)), (3, 1, (.t 60)), (4, 1, (.t 70)), (5, 1, (.t 94)), (6, 1, (.t 104))], none⟩, oT 7 2 105]
def lc37 : LC := (.seq (.reg false c37_0) (.seq (.reg true c37_1) .ret))
def lf37 : LFunc := ⟨1, [.cell 2 true 7], true, lc37⟩
def hi37 : Q1 := ⟨[], [none, none, none], [], []⟩
theorem lf37_ok : Q6 Try.prog hi37 true Try.f37 = lf37.o := by kernel_rfl
def c38_0 : OL := [⟨some 2, .mov (.c (.bool false)), none⟩]
def c38_1 : OL := [oM 3 0, oN 4 .geq 3 (-4096), oM 5 4, oMg 6 0 5 true, oNg 7 .lss 6 4096 5 true, oP 8 5 7, oM 2 8]
def lc38 : LC := (.seq (.reg false c38_0) (.seq (.reg false c38_1) .ret))
def lf38 : LFunc := ⟨1, [.tmp 2], true, lc38⟩
def hi38 : Q1 := ⟨[], [none, none, none], [], []⟩
theorem lf38_ok : Q6 Try.prog hi38 true Try.f38 = lf38.o := by kernel_rfl
def c39_0 : OL := [⟨some 2, .mov (.c (.bool false)), none⟩]
def c39_1 : OL := [oM 5 0, oE 6 5, oC 7 0]
def c39_2 : OL := [oB 8 .lss 7 6]
def c39_3 : OL := [oM 9 7, oI 10 2 5 7, oA 11 2 10, ⟨some 4, .alloc [.int .i64 0, .int .i64 0], none⟩, oM 3 9, oT 2 4 11]
def c39_4 : OL := [oF 12 0 4, oL 13 12, oF 14 1 4, oL 15 14, oB 16 .geq 13 15, oM 17 16, oAg 18 2 4 17 false, ⟨some 19, .callp 57 [(.t 18)], some (17, false)⟩, oUg 20 19 17 false, oO 21 17 20, oM 22 21, oMg 23 3 22 false, oNg 24 .gtr 23 0 22 false, oMg 25 24 22 false, oFg 26 0 4 25 true, oLg 27 26 25 true, oMg 28 0 25 true, oMg 29 3 25 true, oNg 30 .sub 29 1 25 true, oIg 31 2 28 30 25 true, oFg 32 1 31 25 true, oLg 33 32 25 true, oBg 34 .leq 27 33 25 true, oPg 35 25 34 22 false, oO 36 22 35]
def c39_5 : OL := [⟨some 2, .mov (.c (.bool false)), none⟩]
def c39_6 : OL := [oN 37 .add 7 1, oM 7 37]
def Jx3 : LC := (.seq (.reg false c39_2) (.seq (.cond (.t 8) .skip (.seq (.trim []) (.exit 0))) (.seq (.blk 1 (.seq (.reg false c39_3) (.seq (.reg true c39_4) (.cond (.t 36) (.seq (.reg false c39_5) (.seq (.trim [2]) .ret)) .skip)))) (.reg false c39_6))))
def c39_8 : OL := [⟨some 2, .mov (.c (.bool true)), none⟩]
def lc39 : LC := (.seq (.reg false c39_0) (.seq (.seq (.reg false c39_1) (.blk 0 (.loop [0, 5, 6, 7] Jx3))) (.seq (.reg false c39_8) .ret)))
def lf39 : LFunc := ⟨1, [.tmp 2], true, lc39⟩
def hi39 : Q1 := ⟨[], [none, none, some [0, 5, 6, 7], none, some [], none, none, none, none, some [2], none, none, none, none], [], []⟩
theorem lf39_ok : Q6 Try.prog hi39 true Try.f39 = lf39.o := by kernel_rfl
def c40_0 : OL := [⟨some 1, .box (.t 0), none⟩, ⟨some 2, .mov (.c (.bool false)), none⟩]
def c40_1 : OL := [oF 3 0 1, oL 4 3, oN 5 .geq 4 (-4096), oM 6 5, oFg 7 0 1 6 true, oLg 8 7 6 true, oNg 9 .lss 8 4096 6 true, oP 10 6 9, oM 11 10, oFg 12 1 1 11 true, oLg 13 12 11 true, oNg 14 .geq 13 (-4096) 11 true, oP 15 11 14, oM 16 15, oFg 17 1 1 16 true, oLg 18 17 16 true, oNg 19 .lss 18 4096 16 true, oP 20 16 19, oM 2 20]
def lc40 : LC := (.seq (.reg false c40_0) (.seq (.reg false c40_1) .ret))
def lf40 : LFunc := ⟨1, [.tmp 2], true, lc40⟩
def hi40 : Q1 := ⟨[], [none, none, none], [], []⟩
theorem lf40_ok : Q6 Try.prog hi40 true Try.f40 = lf40.o := by kernel_rfl
def c41_0 : OL := [⟨some 2, .box (.t 0), none⟩, ⟨some 3, .box (.t 1), none⟩, ⟨some 4, .mov (.c (.bool false)), none⟩]
def c41_1 : OL := [oF 7 0 2, oL 8 7, oF 9 0 3, oL 10 9, oB 11 .sub 8 10, oF 12 1 2, oL 13 12, oF 14 1 3, oL 15 14, oB 16 .sub 13 15, oM 5 11, oM 6 16]
def c41_2 : OL := [oM 17 5, oM 18 5, oB 19 .mul 17 18, oM 20 6, oM 21 6, oB 22 .mul 20 21, oB 23 .add 19 22, oN 24 .eql 23 1, oM 4 24]
def lc41 : LC := (.seq (.reg false c41_0) (.seq (.reg true c41_1) (.seq (.reg false c41_2) .ret)))
def lf41 : LFunc := ⟨2, [.tmp 4], true, lc41⟩
def hi41 : Q1 := ⟨[], [none, none, none, none], [], []⟩
theorem lf41_ok : Q6 Try.prog hi41 true Try.f41 = lf41.o := by kernel_rfl
def c42_0 : OL := [⟨some 3, .box (.t 0), none⟩, ⟨some 6, .mov (.c (.nils)), none⟩]
def c42_1 : OL := [oA 15 2 3, ⟨some 16, .callp 58 [(.t 15)], none⟩, oU 17 16]
def c42_2 : OL := [⟨some 6, .mov (.c (.nils)), none⟩]
def c42_3 : OL := [oM 18 1, ⟨some 19, .callr 59 [(.t 18)], none⟩, oM 7 19]
def c42_4 : OL := [oM 20 2, ⟨some 21, .mm false (.t 20) (.c (.int .i64 64)), none⟩, oM 8 21]
def c42_5 : OL := [oM 22 8, oN 23 .gtr 22 0]
def c42_6 : OL := [oA 27 2 3, oM 28 7, ⟨some 29, .callr 60 [(.t 27), (.t 28)], none⟩, ⟨some 30, .callp 61 [(.t 29)], none⟩, oM 26 30, ⟨some 31, .ext (.t 26) 0, none⟩, ⟨some 32, .ext (.t 26) 1, none⟩, ⟨some 33, .ext (.t 26) 2, none⟩, oM 9 31, oM 10 32, oM 11 33]
def c42_7 : OL := [oM 34 11, oU 35 34]
def c42_8 : OL := [oM 36 9, oM 37 10, oM 12 36, oM 13 37]
def c42_9 : OL := [oM 38 12, oM 39 13, oB 40 .lss 38 39]
def J0x : OL := [oM 45 7, oM 46 12, oM 47 7, oM 48 13, oM 49 7, oM 50 13, oI 51 3 49 50, oA 52 3 51, oM 53 7, oM 54 12, oI 55 3 53 54, oA 56 3 55, oI 57 3 45 46, oT 3 57 52, oI 58 3 47 48, oT 3 58 56]
def J5k : OL := [oM 41 12, oN 42 .add 41 1, oM 43 13, oN 44 .sub 43 1, oM 12 42, oM 13 44]
def Juu : LC := (.seq (.seq (.reg false c42_9) (.cond (.t 40) .skip (.seq (.trim [3, 7, 8, 9, 10]) (.exit 2)))) (.seq (.blk 3 (.reg true J0x)) (.reg false J5k)))
def J5u : OL := [oM 59 9, oM 14 59]
def Jzi : OL := [oM 60 14, oM 61 10, oB 62 .leq 60 61]
def J2h : OL := [oM 65 7, oM 66 14, oI 67 3 65 66, oF 68 1 67, oL 69 68, oU 70 69]
def J3m : OL := [oM 71 7, oM 72 14, oM 73 7, oM 74 14, oI 75 3 73 74, oA 76 3 75, ⟨some 77, .callp 62 [(.t 76)], none⟩, oI 78 3 71 72, oT 3 78 77]
def Jxo : OL := [oM 63 14, oN 64 .add 63 1, oM 14 64]
def Juy : LC := (.seq (.seq (.reg false Jzi) (.cond (.t 62) .skip (.seq (.trim [3, 7, 8]) (.exit 4)))) (.seq (.blk 5 (.seq (.reg false J2h) (.cond (.t 70) (.reg false J3m) .skip))) (.reg false Jxo)))
def J4w : OL := [oM 24 8, oN 25 .sub 24 1, oM 8 25]
def J35 : LC := (.seq (.seq (.reg false c42_5) (.cond (.t 23) .skip (.seq (.trim [7]) (.exit 0)))) (.seq (.blk 1 (.seq (.reg false c42_6) (.seq (.seq (.reg false c42_7) (.cond (.t 35) (.seq (.trim [7]) (.exit 0)) .skip)) (.seq (.seq (.reg false c42_8) (.blk 2 (.loop [3, 7, 8, 9, 10, 12, 13] Juu))) (.seq (.reg false J5u) (.blk 4 (.loop [3, 7, 8, 10, 14] Juy))))))) (.reg false J4w)))
def c42_21 : OL := [oM 79 7, oM 6 79]
def lc42 : LC := (.seq (.reg false c42_0) (.seq (.seq (.reg false c42_1) (.cond (.t 17) (.seq (.reg false c42_2) .ret) .skip)) (.seq (.reg false c42_3) (.seq (.seq (.reg false c42_4) (.blk 0 (.loop [3, 7, 8] J35))) (.seq (.reg false c42_21) .ret)))))
def lf42 : LFunc := ⟨3, [.tmp 6], true, lc42⟩
def hi42 : Q1 := ⟨[(19, .r), (29, .r)], [none, none, none, none, none, none, none, some [3, 7, 8], none, some [7], none, none, none, some [7], none, none, some [3, 7, 8, 9, 10, 12, 13], none, some [3, 7, 8, 9, 10], none, none, none, none, some [3, 7, 8, 10, 14], none, some [3, 7, 8], none, none, none, none, none, none, none], [], []⟩
theorem lf42_ok : Q6 Try.prog hi42 true Try.f42 = lf42.o := by kernel_rfl
def c43_0 : OL := [⟨some 2, .box (.t 0), none⟩, ⟨some 4, .mov (.c (.nils)), none⟩]
def c43_1 : OL := [oA 15 2 2, ⟨some 16, .callp 58 [(.t 15)], none⟩, oU 17 16]
def c43_2 : OL := [⟨some 4, .mov (.c (.nils)), none⟩]
def c43_3 : OL := [oM 18 1, ⟨some 19, .callr 59 [(.t 18)], none⟩, oM 5 19]
def c43_4 : OL := [⟨some 6, .mov (.c (.nils)), none⟩]
def c43_5 : OL := [oM 20 5, oE 21 20, oN 22 .gtr 21 0]
def c43_6 : OL := [oC 7 0, oC 8 0, oC 9 (-1)]
def c43_7 : OL := [oM 23 5, oE 24 23, oC 25 0]
def c43_8 : OL := [oB 26 .lss 25 24]
def c43_9 : OL := [oM 27 25, oI 28 3 23 25, oA 29 3 28, ⟨some 11, .alloc [.int .i64 0, .bool false, .nils], none⟩, oM 10 27, oT 3 11 29]
def Jzv : OL := [oA 31 2 2, oA 32 3 11, ⟨some 33, .callp 63 [(.t 31), (.t 32)], none⟩, oM 30 33, ⟨some 34, .ext (.t 30) 0, none⟩, ⟨some 35, .ext (.t 30) 1, none⟩, oM 12 34, oM 13 35]
def J2z : OL := [oM 36 9, oN 37 .lss 36 0, oM 38 37, oMg 39 13 38 false, oMg 40 9 38 false, oBg 41 .lss 39 40 38 false, oO 42 38 41]
def Jz2 : OL := [oM 43 10, oM 44 12, oM 45 13, oM 7 43, oM 8 44, oM 9 45]
def J5j : OL := [oN 46 .add 25 1, oM 25 46]
def Jt7 : LC := (.seq (.reg false c43_8) (.seq (.cond (.t 26) .skip (.seq (.trim [2, 5, 6, 7, 8]) (.exit 2))) (.seq (.blk 3 (.seq (.reg false c43_9) (.seq (.reg false Jzv) (.seq (.reg false J2z) (.cond (.t 42) (.reg false Jz2) .skip))))) (.reg false J5j))))
def J1z : OL := [oM 47 5, oM 48 7, oI 49 3 47 48, oA 50 3 49, oM 51 8, ⟨some 52, .callz 64 [(.t 50), (.t 51)], none⟩, ⟨some 14, .alloc [.int .i64 0, .bool false, .nils], none⟩, oT 3 14 52]
def Jx7 : OL := [oM 53 5, oM 54 7, ⟨some 55, .slc 3 (.t 53) none (some (.t 54)), none⟩, oM 56 5, oM 57 7, oN 58 .add 57 1, ⟨some 59, .slc 3 (.t 56) (some (.t 58)) none, none⟩, ⟨some 60, .app 3 40 50 [.int .i64 0, .bool false, .nils] (.t 55) (.t 59), none⟩, oM 5 60]
def J3o : OL := [oM 61 6, oA 62 3 14, ⟨some 63, .bslice 1 3 50 [.int .i64 0, .bool false, .nils] [(0, 3, (.t 62))], none⟩, ⟨some 64, .app 3 40 50 [.int .i64 0, .bool false, .nils] (.t 61) (.t 63), none⟩, oM 6 64]
def J2k : OL := [oA 65 3 14, ⟨some 66, .callp 65 [(.t 65)], none⟩, ⟨some 67, .idx 2 2 true (.t 66) (.c (.int .i64 1)), none⟩, oT 2 2 67]
def J2e : LC := (.seq (.seq (.reg false c43_5) (.cond (.t 22) .skip (.seq (.trim [6]) (.exit 0)))) (.blk 1 (.seq (.reg false c43_6) (.seq (.seq (.reg false c43_7) (.blk 2 (.loop [2, 5, 6, 7, 8, 9, 23, 24, 25] Jt7))) (.seq (.reg false J1z) (.seq (.reg true Jx7) (.seq (.reg false J3o) (.reg false J2k))))))))
def c43_20 : OL := [oM 68 6, oM 4 68]
def lc43 : LC := (.seq (.reg false c43_0) (.seq (.seq (.reg false c43_1) (.cond (.t 17) (.seq (.reg false c43_2) .ret) .skip)) (.seq (.reg false c43_3) (.seq (.reg false c43_4) (.seq (.blk 0 (.loop [2, 5, 6] J2e)) (.seq (.reg false c43_20) .ret))))))
def lf43 : LFunc := ⟨2, [.tmp 4], true, lc43⟩
def hi43 : Q1 := ⟨[(19, .r), (52, .z)], [none, none, none, none, none, none, none, some [2, 5, 6], none, some [6], none, none, none, some [2, 5, 6, 7, 8, 9, 23, 24, 25], none, some [2, 5, 6, 7, 8], none, none, none, none, none, none, none, none, none, none, none, none], [], []⟩
theorem lf43_ok : Q6 Try.prog hi43 true Try.f43 = lf43.o := by kernel_rfl
def c44_0 : OL := [⟨some 3, .box (.t 1), none⟩]
def c44_1 : OL := [oM 4 0, oF 5 2 3, oL 6 5, ⟨some 7, .iaddr 2 (.t 6) (.c (.int .i64 0)), none⟩, oA 8 2 7, ⟨some 9, .callr 66 [(.t 4), (.t 8)], none⟩]
def c44_2 : OL := [oM 10 0, ⟨some 11, .msk [22, 25] (.nilck (.t 10)), none⟩, ⟨some 12, .msk [22, 25] (.faddr 0 (.t 11)), none⟩, ⟨some 13, .msk [22, 25] (.faddr 0 (.t 3)), none⟩, ⟨some 14, .msk [22, 25] (.load false 1 (.t 13)), none⟩, oM 15 0, oM 16 0, ⟨some 17, .nilck (.t 16), none⟩, oF 18 2 17, oF 19 13 18, oL 20 19, ⟨some 21, .callq 67 [(.t 15), (.t 20)], none⟩, oF 23 2 3, oL 24 23, ⟨some 22, .bslice 0 2 27 [.int .i64 0, .int .i64 0] [], none⟩, ⟨some 25, .appn true [22, 25] 2 16 27 [.int .i64 0, .int .i64 0] (.t 22) (.t 24), none⟩, ⟨some 26, .build [.int .i64 0, .int .i64 0, .int .i64 0, .int .i64 0, .int .i64 0, .nils] [(0, 1, (.c (.int .i64 3))), (1, 1, (.t 14)), (4, 1, (.t 21)), (5, 1, (.t 25))], none⟩, ⟨some 27, .callr 24 [(.t 12), (.t 26)], none⟩]
def c44_3 : OL := [oM 28 0, oF 29 2 3, oL 30 29, oF 31 2 3, oL 32 31, oE 33 32, oN 34 .sub 33 1, oI 35 2 30 34, oA 36 2 35, ⟨some 37, .nilck (.t 28), none⟩, oF 38 22 37, oT 2 38 36]
def lc44 : LC := (.seq (.reg false c44_0) (.seq (.reg false c44_1) (.seq (.reg true c44_2) (.reg false c44_3))))
def lf44 : LFunc := ⟨2, [], false, lc44⟩
def hi44 : Q1 := ⟨[(9, .r), (21, .q), (25, .z), (27, .r)], [none, none, none], [(2, [0, 1, 2, 3, 4, 5, 6, 7, 8, 9, 10, 11, 13, 14, 12, 15, 16, 17])], [(2, [22, 25], [11, 12, 13, 14])]⟩
theorem lf44_ok : Q6 Try.prog hi44 false Try.f44 = lf44.o := by kernel_rfl
def c45_0 : OL := [⟨some 2, .mov (.c (.nils)), none⟩]
def c45_1 : OL := [oM 5 0, ⟨some 6, .callr 68 [(.t 5)], none⟩, oM 3 6]
def c45_2 : OL := [oM 7 3, oE 8 7, oC 9 0]
def c45_3 : OL := [oB 10 .lss 9 8]
def c45_4 : OL := [oM 11 9, oM 4 11]
def c45_5 : OL := [oM 12 3, oM 13 4, oM 14 3, oM 15 4, oI 16 6 14 15, oF 17 5 16, oL 18 17, ⟨some 19, .callz 69 [(.t 18)], none⟩, oI 20 6 12 13, oF 21 5 20, oT 1 21 19]
def c45_6 : OL := [oN 22 .add 9 1, oM 9 22]
def J0k : LC := (.seq (.reg false c45_3) (.seq (.cond (.t 10) .skip (.seq (.trim [3]) (.exit 0))) (.seq (.blk 1 (.seq (.reg false c45_4) (.reg false c45_5))) (.reg false c45_6))))
def c45_8 : OL := [oM 23 3, oM 2 23]
def lc45 : LC := (.seq (.reg false c45_0) (.seq (.reg false c45_1) (.seq (.seq (.reg false c45_2) (.blk 0 (.loop [3, 8, 9] J0k))) (.seq (.reg false c45_8) .ret))))
def lf45 : LFunc := ⟨1, [.tmp 2], true, lc45⟩
def hi45 : Q1 := ⟨[(6, .r), (19, .z)], [none, none, none, some [3, 8, 9], none, some [3], none, none, none, none, none, none], [], []⟩
theorem lf45_ok : Q6 Try.prog hi45 true Try.f45 = lf45.o := by kernel_rfl
def c46_0 : OL := [⟨some 4, .mov (.c (.bool false)), none⟩]
def c46_1 : OL := [oL 5 1, oM 6 0, oF 9 16 2, oL 10 9, ⟨some 7, .callz 48 [(.t 5), (.t 6)], none⟩, ⟨some 8, .callp 47 [(.t 7)], none⟩, oB 11 .geq 8 10, oM 4 11]
def lc46 : LC := (.seq (.reg false c46_0) (.seq (.reg true c46_1) .ret))
def lf46 : LFunc := ⟨3, [.tmp 4], true, lc46⟩
def hi46 : Q1 := ⟨[(7, .z)], [none, none, none], [(1, [0, 1, 4, 5, 2, 3, 6, 7])], []⟩
theorem lf46_ok : Q6 Try.prog hi46 true Try.f46 = lf46.o := by kernel_rfl
def c47_0 : OL := [oC 2 0]
def c47_1 : OL := [oC 3 0]
def c47_2 : OL := [oM 6 0, oE 7 6, oC 8 0]
def c47_3 : OL := [oB 9 .lss 8 7]
def c47_4 : OL := [oI 10 6 6 8, oA 11 6 10, ⟨some 5, .alloc [.int .i64 0, .int .i64 0, .int .i64 0, .int .i64 0, .int .i64 0, .nils], none⟩, oT 6 5 11]
def c47_5 : OL := [oM 12 3, oA 13 6 5, ⟨some 14, .callp 70 [(.t 13)], none⟩, oB 15 .add 12 14, oM 3 15]
def c47_6 : OL := [oN 16 .add 8 1, oM 8 16]
def Jxq : LC := (.seq (.reg false c47_3) (.seq (.cond (.t 9) .skip (.seq (.trim [3]) (.exit 0))) (.seq (.blk 1 (.seq (.reg false c47_4) (.reg false c47_5))) (.reg false c47_6))))
def c47_8 : OL := [oM 17 3, oM 2 17]
def lc47 : LC := (.seq (.reg false c47_0) (.seq (.reg false c47_1) (.seq (.seq (.reg false c47_2) (.blk 0 (.loop [3, 6, 7, 8] Jxq))) (.seq (.reg false c47_8) .ret))))
def lf47 : LFunc := ⟨1, [.tmp 2], true, lc47⟩
def hi47 : Q1 := ⟨[], [none, none, none, some [3, 6, 7, 8], none, some [3], none, none, none, none, none, none], [], []⟩
theorem lf47_ok : Q6 Try.prog hi47 true Try.f47 = lf47.o := by kernel_rfl
def c48_0 : OL := [⟨some 4, .mov (.c (.nils)), none⟩]
def c48_1 : OL := [oM 8 0, ⟨some 9, .callr 68 [(.t 8)], none⟩, oM 5 9]
def c48_2 : OL := [oM 10 5, oE 11 10, oC 12 0]
def c48_3 : OL := [oB 13 .lss 12 11]
def c48_4 : OL := [oM 14 12, oI 15 6 10 12, oA 16 6 15, ⟨some 7, .alloc [.int .i64 0, .int .i64 0, .int .i64 0, .int .i64 0, .int .i64 0, .nils], none⟩, oM 6 14, oT 6 7 16]
def c48_5 : OL := [oF 17 0 7, oL 18 17, oN 19 .eql 18 3]
def c48_6 : OL := [oM 20 5, oM 21 6, oF 22 4 7, oL 23 22, oM 24 1, ⟨some 25, .mm false (.t 23) (.t 24), none⟩, oI 26 6 20 21, oF 27 4 26, oT 1 27 25]
def c48_7 : OL := [oN 28 .add 12 1, oM 12 28]
def J49 : LC := (.seq (.reg false c48_3) (.seq (.cond (.t 13) .skip (.seq (.trim [5]) (.exit 0))) (.seq (.blk 1 (.seq (.reg false c48_4) (.seq (.reg false c48_5) (.cond (.t 19) (.reg false c48_6) .skip)))) (.reg false c48_7))))
def c48_9 : OL := [oM 29 5, oM 4 29]
def lc48 : LC := (.seq (.reg false c48_0) (.seq (.reg false c48_1) (.seq (.seq (.reg false c48_2) (.blk 0 (.loop [1, 5, 10, 11, 12] J49))) (.seq (.reg false c48_9) .ret))))
def lf48 : LFunc := ⟨2, [.tmp 4], true, lc48⟩
def hi48 : Q1 := ⟨[(9, .r)], [none, none, none, some [1, 5, 10, 11, 12], none, some [5], none, none, none, none, none, none, none], [], []⟩
theorem lf48_ok : Q6 Try.prog hi48 true Try.f48 = lf48.o := by kernel_rfl
def c49_0 : OL := [⟨some 2, .box (.t 0), none⟩, ⟨some 3, .box (.t 1), none⟩, ⟨some 4, .mov (.c (.bool false)), none⟩]
def c49_1 : OL := [oF 5 1 2, oL 6 5, oF 7 1 3, oL 8 7, oB 9 .lss 6 8, oM 10 9, oFg 11 1 2 10 false, oLg 12 11 10 false, oFg 13 1 3 10 false, oLg 14 13 10 false, oBg 15 .eql 12 14 10 false, oMg 16 15 10 false, oFg 17 0 2 16 true, oLg 18 17 16 true, oFg 19 0 3 16 true, oLg 20 19 16 true, oBg 21 .lss 18 20 16 true, oPg 22 16 21 10 false, oO 23 10 22, oM 4 23]
def lc49 : LC := (.seq (.reg false c49_0) (.seq (.reg false c49_1) .ret))
def lf49 : LFunc := ⟨2, [.tmp 4], true, lc49⟩
def hi49 : Q1 := ⟨[], [none, none, none], [], []⟩
theorem lf49_ok : Q6 Try.prog hi49 true Try.f49 = lf49.o := by kernel_rfl
def c50_0 : OL := [⟨some 2, .mov (.c (.bool false)), none⟩]
def c50_1 : OL := [oC 3 0]
def c50_2 : OL := [oM 4 3, oM 5 0, oE 6 5, oB 7 .lss 4 6]
def c50_3 : OL := [oM 10 0, oM 11 3, oI 12 2 10 11, oF 13 0 12, oL 14 13, oN 15 .lss 14 (-4096), oM 16 15, oMg 17 0 16 false, oMg 18 3 16 false, oIg 19 2 17 18 16 false, oFg 20 0 19 16 false, oLg 21 20 16 false, oMg 22 0 16 false, oMg 23 3 16 false, oIg 24 2 22 23 16 false, oFg 25 1 24 16 false, oLg 26 25 16 false, oBg 27 .geq 21 26 16 false, oO 28 16 27, oM 29 28, oMg 30 0 29 false, oMg 31 3 29 false, oIg 32 2 30 31 29 false, oFg 33 1 32 29 false, oLg 34 33 29 false, oNg 35 .gtr 34 4096 29 false, oO 36 29 35, oM 37 36, oMg 38 3 37 false, oNg 39 .gtr 38 0 37 false, oMg 40 39 37 false, oMg 41 0 40 true, oMg 42 3 40 true, oIg 43 2 41 42 40 true, oFg 44 0 43 40 true, oLg 45 44 40 true, oMg 46 0 40 true, oMg 47 3 40 true, oNg 48 .sub 47 1 40 true, oIg 49 2 46 48 40 true, oFg 50 1 49 40 true, oLg 51 50 40 true, oBg 52 .leq 45 51 40 true, oPg 53 40 52 37 false, oO 54 37 53]
def c50_4 : OL := [⟨some 2, .mov (.c (.bool false)), none⟩]
def c50_5 : OL := [oM 8 3, oN 9 .add 8 1, oM 3 9]
def J4j : LC := (.seq (.seq (.reg false c50_2) (.cond (.t 7) .skip (.seq (.trim [0]) (.exit 0)))) (.seq (.blk 1 (.seq (.reg true c50_3) (.cond (.t 54) (.seq (.reg false c50_4) (.seq (.trim [2]) .ret)) .skip))) (.reg false c50_5)))
def c50_7 : OL := [oM 55 0, oE 56 55, oN 57 .gtr 56 0, oM 2 57]
def lc50 : LC := (.seq (.reg false c50_0) (.seq (.seq (.reg false c50_1) (.blk 0 (.loop [0, 3] J4j))) (.seq (.reg false c50_7) .ret)))
def lf50 : LFunc := ⟨1, [.tmp 2], true, lc50⟩
def hi50 : Q1 := ⟨[], [none, none, some [0, 3], none, some [0], none, none, none, some [2], none, none, none, none], [], []⟩
theorem lf50_ok : Q6 Try.prog hi50 true Try.f50 = lf50.o := by kernel_rfl
def c51_0 : OL := [⟨some 4, .box (.t 1), none⟩, ⟨some 5, .box (.t 2), none⟩, ⟨some 6, .alloc [.nils], none⟩]
def c51_1 : OL := [⟨some 7, .alloc [.nils], none⟩]
def c51_2 : OL := [oA 14 1 4, ⟨some 15, .callp 30 [(.t 14)], none⟩, oU 16 15, oM 17 16, oAg 18 1 5 17 false, ⟨some 19, .callp 30 [(.t 18)], some (17, false)⟩, oUg 20 19 17 false, oO 21 17 20]
def c51_3 : OL := [oA 22 1 7, oT 1 6 22]
def c51_4 : OL := [oC 8 0, oC 9 0]
def c51_5 : OL := [oM 23 8, oF 24 0 4, oL 25 24, oE 26 25, oB 27 .lss 23 26, oM 28 27, oMg 29 9 28 false, oFg 30 0 5 28 false, oLg 31 30 28 false, oEg 32 31 28 false, oBg 33 .lss 29 32 28 false, oO 34 28 33]
def c51_6 : OL := [oC 10 0]
def c51_7 : OL := [⟨some 11, .mov (.c (.nils)), none⟩, ⟨some 12, .mov (.c (.nils)), none⟩]
def c51_8 : OL := [oM 35 9, oF 36 0 5, oL 37 36, oE 38 37, oB 39 .eql 35 38, oM 40 39, oMg 41 8 40 false, oFg 42 0 4 40 false, oLg 43 42 40 false, oEg 44 43 40 false, oBg 45 .lss 41 44 40 false, oMg 46 45 40 false, oFg 47 0 4 46 true, oLg 48 47 46 true, oMg 49 8 46 true, oIg 50 2 48 49 46 true, oFg 51 0 50 46 true, oLg 52 51 46 true, oFg 53 0 5 46 true, oLg 54 53 46 true, oMg 55 9 46 true, oIg 56 2 54 55 46 true, oFg 57 0 56 46 true, oLg 58 57 46 true, oBg 59 .leq 52 58 46 true, oPg 60 46 59 40 false, oO 61 40 60]
def c51_9 : OL := [oF 62 0 4, oL 63 62, oM 64 8, oI 65 2 63 64, oF 66 0 65, oL 67 66, oM 10 67]
def Jzl : OL := [oF 68 0 5, oL 69 68, oM 70 9, oI 71 2 69 70, oF 72 0 71, oL 73 72, oM 10 73]
def J45 : OL := [oM 74 8, oF 75 0 4, oL 76 75, oE 77 76, oB 78 .lss 74 77, oM 79 78, oFg 80 0 4 79 true, oLg 81 80 79 true, oMg 82 8 79 true, oIg 83 2 81 82 79 true, oFg 84 0 83 79 true, oLg 85 84 79 true, oMg 86 10 79 true, oBg 87 .eql 85 86 79 true, oP 88 79 87]
def Jy5 : OL := [oF 89 0 4, oL 90 89, oM 91 8, oI 92 2 90 91, oF 93 1 92, oL 94 93, oM 11 94]
def J08 : OL := [oM 95 8, oN 96 .add 95 1, oM 8 96]
def J4g : OL := [oM 97 9, oF 98 0 5, oL 99 98, oE 100 99, oB 101 .lss 97 100, oM 102 101, oFg 103 0 5 102 true, oLg 104 103 102 true, oMg 105 9 102 true, oIg 106 2 104 105 102 true, oFg 107 0 106 102 true, oLg 108 107 102 true, oMg 109 10 102 true, oBg 110 .eql 108 109 102 true, oP 111 102 110]
def Jy9 : OL := [oF 112 0 5, oL 113 112, oM 114 9, oI 115 2 113 114, oF 116 1 115, oL 117 116, oM 12 117]
def Jx2 : OL := [oM 118 9, oN 119 .add 118 1, oM 9 119]
def J14 : OL := [oM 120 0, oM 121 11, oM 122 12, ⟨some 123, .callz 71 [(.t 120), (.t 121), (.t 122)], none⟩, oM 13 123]
def J1n : OL := [oM 124 13, oE 125 124, oN 126 .gtr 125 0]
def J1m : OL := [oF 127 0 7, oL 128 127, oM 129 10, ⟨some 130, .frz (.t 13), none⟩, ⟨some 131, .build [.int .i64 0, .nils] [(0, 1, (.t 129)), (1, 1, (.t 130))], none⟩, ⟨some 132, .bslice 1 2 57 [.int .i64 0, .nils] [(0, 2, (.t 131))], none⟩, ⟨some 133, .app 2 32 57 [.int .i64 0, .nils] (.t 128) (.t 132), none⟩, oF 134 0 7, oT 1 134 133]
def Jz3 : LC := (.seq (.seq (.reg false c51_5) (.cond (.t 34) .skip (.seq (.trim [6, 7]) (.exit 0)))) (.blk 1 (.seq (.reg false c51_6) (.seq (.reg false c51_7) (.seq (.seq (.reg true c51_8) (.cond (.t 61) (.reg false c51_9) (.reg false Jzl))) (.seq (.seq (.reg false J45) (.cond (.t 88) (.seq (.reg false Jy5) (.reg false J08)) .skip)) (.seq (.seq (.reg false J4g) (.cond (.t 111) (.seq (.reg false Jy9) (.reg false Jx2)) .skip)) (.seq (.reg false J14) (.seq (.reg false J1n) (.cond (.t 126) (.reg false J1m) .skip))))))))))
def c51_21 : OL := [oA 135 1 7, oT 1 6 135]
def lc51 : LC := (.seq (.reg false c51_0) (.seq (.reg false c51_1) (.seq (.seq (.reg false c51_2) (.cond (.t 21) (.seq (.reg false c51_3) .ret) .skip)) (.seq (.reg false c51_4) (.seq (.blk 0 (.loop [0, 4, 5, 6, 7, 8, 9] Jz3)) (.seq (.reg false c51_21) .ret))))))
def lf51 : LFunc := ⟨3, [.cell 6 true 1], true, lc51⟩
def hi51 : Q1 := ⟨[(123, .z), (130, .z)], [none, none, none, none, none, none, none, some [0, 4, 5, 6, 7, 8, 9], none, some [6, 7], none, none, none, none, none, none, none, none, none, none, none, none, none, none, none, none], [], []⟩
theorem lf51_ok : Q6 Try.prog hi51 true Try.f51 = lf51.o := by kernel_rfl
def c52_0 : OL := [⟨some 1, .box (.t 0), none⟩, ⟨some 2, .mov (.c (.bool false)), none⟩]
def c52_1 : OL := [oF 3 0 1, oL 4 3, oN 5 .geq 4 (-4096), oM 6 5, oFg 7 0 1 6 true, oLg 8 7 6 true, oNg 9 .lss 8 4096 6 true, oP 10 6 9, oM 11 10, oFg 12 1 1 11 true, oLg 13 12 11 true, oNg 14 .geq 13 (-4096) 11 true, oP 15 11 14, oM 16 15, oFg 17 1 1 16 true, oLg 18 17 16 true, oNg 19 .lss 18 4096 16 true, oP 20 16 19, oM 2 20]
def lc52 : LC := (.seq (.reg false c52_0) (.seq (.reg false c52_1) .ret))
def lf52 : LFunc := ⟨1, [.tmp 2], true, lc52⟩
def hi52 : Q1 := ⟨[], [none, none, none], [], []⟩
theorem lf52_ok : Q6 Try.prog hi52 true Try.f52 = lf52.o := by kernel_rfl
def c53_0 : OL := [⟨some 2, .box (.t 0), none⟩, ⟨some 3, .box (.t 1), none⟩, ⟨some 4, .mov (.c (.bool false)), none⟩]
def c53_1 : OL := [oF 5 0 2, oL 6 5, oF 7 0 3, oL 8 7, oB 9 .sub 6 8, ⟨some 10, .callp 72 [(.t 9)], none⟩, oF 11 1 2, oL 12 11, oF 13 1 3, oL 14 13, oB 15 .sub 12 14, ⟨some 16, .callp 72 [(.t 15)], none⟩, oB 17 .add 10 16, oN 18 .eql 17 1, oM 4 18]
def lc53 : LC := (.seq (.reg false c53_0) (.seq (.reg true c53_1) .ret))
def lf53 : LFunc := ⟨2, [.tmp 4], true, lc53⟩
def hi53 : Q1 := ⟨[], [none, none, none], [], []⟩
theorem lf53_ok : Q6 Try.prog hi53 true Try.f53 = lf53.o := by kernel_rfl
def c54_0 : OL := [⟨some 2, .box (.t 0), none⟩, ⟨some 3, .box (.t 1), none⟩, ⟨some 4, .mov (.c (.bool false)), none⟩]
def c54_1 : OL := [oF 7 0 2, oL 8 7, oF 9 0 3, oL 10 9, oB 11 .sub 8 10, oF 12 1 2, oL 13 12, oF 14 1 3, oL 15 14, oB 16 .sub 13 15, oM 5 11, oM 6 16]
def c54_2 : OL := [oM 17 5, oM 18 5, oB 19 .mul 17 18, oM 20 6, oM 21 6, oB 22 .mul 20 21, oB 23 .add 19 22, oN 24 .eql 23 1, oM 4 24]
def lc54 : LC := (.seq (.reg false c54_0) (.seq (.reg true c54_1) (.seq (.reg false c54_2) .ret)))
def lf54 : LFunc := ⟨2, [.tmp 4], true, lc54⟩
def hi54 : Q1 := ⟨[], [none, none, none, none], [], []⟩
theorem lf54_ok : Q6 Try.prog hi54 true Try.f54 = lf54.o := by kernel_rfl
def c55_0 : OL := [⟨some 6, .mov (.c (.bool false)), none⟩]
def c55_1 : OL := [oM 7 0, oM 8 1, oM 9 2, ⟨some 10, .callp 56 [(.t 7), (.t 8), (.t 9)], none⟩, oM 11 10, oMg 12 0 11 true, oNg 13 .rem 12 2 11 true, oNg 14 .eql 13 0 11 true, oP 15 11 14, oM 6 15]
def lc55 : LC := (.seq (.reg false c55_0) (.seq (.reg false c55_1) .ret))
def lf55 : LFunc := ⟨3, [.tmp 6], true, lc55⟩
def hi55 : Q1 := ⟨[], [none, none, none], [], []⟩
theorem lf55_ok : Q6 Try.prog hi55 true Try.f55 = lf55.o := by kernel_rfl
def c56_0 : OL := [⟨some 6, .mov (.c (.bool false)), none⟩]
def c56_1 : OL := [oM 7 0, oM 8 1, oB 9 .geq 7 8, oM 10 9, oMg 11 0 10 true, oMg 12 2 10 true, oBg 13 .leq 11 12 10 true, oP 14 10 13, oM 6 14]
def lc56 : LC := (.seq (.reg false c56_0) (.seq (.reg false c56_1) .ret))
def lf56 : LFunc := ⟨3, [.tmp 6], true, lc56⟩
def hi56 : Q1 := ⟨[], [none, none, none], [], []⟩
theorem lf56_ok : Q6 Try.prog hi56 true Try.f56 = lf56.o := by kernel_rfl
def c57_0 : OL := [⟨some 1, .box (.t 0), none⟩, ⟨some 2, .mov (.c (.bool false)), none⟩]
def c57_1 : OL := [oF 3 0 1, oL 4 3, oN 5 .geq 4 (-1048576), oM 6 5, oFg 7 0 1 6 true, oLg 8 7 6 true, oNg 9 .leq 8 1048576 6 true, oP 10 6 9, oM 11 10, oFg 12 1 1 11 true, oLg 13 12 11 true, oNg 14 .geq 13 (-1048576) 11 true, oP 15 11 14, oM 16 15, oFg 17 1 1 16 true, oLg 18 17 16 true, oNg 19 .leq 18 1048576 16 true, oP 20 16 19, oM 2 20]
def lc57 : LC := (.seq (.reg false c57_0) (.seq (.reg false c57_1) .ret))
def lf57 : LFunc := ⟨1, [.tmp 2], true, lc57⟩
def hi57 : Q1 := ⟨[], [none, none, none], [], []⟩
theorem lf57_ok : Q6 Try.prog hi57 true Try.f57 = lf57.o := by kernel_rfl
def c58_0 : OL := [⟨some 1, .box (.t 0), none⟩, ⟨some 2, .mov (.c (.bool false)), none⟩]
def c58_1 : OL := [oF 3 0 1, oL 4 3, oN 5 .geq 4 (-4096), oM 6 5, oFg 7 0 1 6 true, oLg 8 7 6 true, oNg 9 .lss 8 4096 6 true, oP 10 6 9, oM 11 10, oFg 12 1 1 11 true, oLg 13 12 11 true, oNg 14 .geq 13 (-4096) 11 true, oP 15 11 14, oM 16 15, oFg 17 1 1 16 true, oLg 18 17 16 true, oNg 19 .lss 18 4096 16 true, oP 20 16 19, oM 2 20]
def lc58 : LC := (.seq (.reg false c58_0) (.seq (.reg false c58_1) .ret))
def lf58 : LFunc := ⟨1, [.tmp 2], true, lc58⟩
def hi58 : Q1 := ⟨[], [none, none, none], [], []⟩
theorem lf58_ok : Q6 Try.prog hi58 true Try.f58 = lf58.o := by kernel_rfl
def c59_0 : OL := [⟨some 2, .mov (.c (.nils)), none⟩]
def c59_1 : OL := [⟨some 3, .mov (.c (.nils)), none⟩]
def c59_2 : OL := [oM 6 0, oE 7 6, oC 8 0]
def c59_3 : OL := [oB 9 .lss 8 7]
def c59_4 : OL := [oI 10 3 6 8, oA 11 3 10, ⟨some 5, .alloc [.int .i64 0, .bool false, .nils], none⟩, oT 3 5 11]
def c59_5 : OL := [oA 12 3 5, ⟨some 13, .callp 23 [(.t 12)], none⟩]
def c59_6 : OL := [oM 14 3, oA 15 3 5, ⟨some 16, .callz 73 [(.t 15)], none⟩, ⟨some 17, .bslice 1 3 50 [.int .i64 0, .bool false, .nils] [(0, 3, (.t 16))], none⟩, ⟨some 18, .app 3 40 50 [.int .i64 0, .bool false, .nils] (.t 14) (.t 17), none⟩, oM 3 18]
def c59_7 : OL := [oN 19 .add 8 1, oM 8 19]
def J30 : LC := (.seq (.reg false c59_3) (.seq (.cond (.t 9) .skip (.seq (.trim [3]) (.exit 0))) (.seq (.blk 1 (.seq (.reg false c59_4) (.seq (.reg false c59_5) (.cond (.t 13) (.reg false c59_6) .skip)))) (.reg false c59_7))))
def c59_9 : OL := [oM 20 3, oM 2 20]
def lc59 : LC := (.seq (.reg false c59_0) (.seq (.reg false c59_1) (.seq (.seq (.reg false c59_2) (.blk 0 (.loop [3, 6, 7, 8] J30))) (.seq (.reg false c59_9) .ret))))
def lf59 : LFunc := ⟨1, [.own 2], false, lc59⟩
def hi59 : Q1 := ⟨[(16, .z)], [none, none, none, some [3, 6, 7, 8], none, some [3], none, none, none, none, none, none, none], [], []⟩
theorem lf59_ok : Q6 Try.prog hi59 false Try.f59 = lf59.o := by kernel_rfl
def c60_0 : OL := [⟨some 2, .box (.t 0), none⟩, ⟨some 4, .alloc [.int .i64 0, .int .i64 0, .nils, .nils, .nils, .nils], none⟩]
def c60_1 : OL := [oA 10 2 2, ⟨some 11, .build [.int .i64 0, .int .i64 0, .nils, .nils, .nils, .nils] [(0, 2, (.t 10))], none⟩, ⟨some 5, .alloc [.int .i64 0, .int .i64 0, .nils, .nils, .nils, .nils], none⟩, oT 6 5 11]
def c60_2 : OL := [oM 12 1, oE 13 12, oC 14 0]
def c60_3 : OL := [oB 15 .lss 14 13]
def c60_4 : OL := [oM 16 14, oI 17 3 12 14, oA 18 3 17, ⟨some 7, .alloc [.int .i64 0, .bool false, .nils], none⟩, oM 6 16, oT 3 7 18]
def c60_5 : OL := [oF 19 2 5, oL 20 19, oA 21 3 7, ⟨some 22, .callp 65 [(.t 21)], none⟩, ⟨some 23, .bslice 1 4 107 [.int .i64 0, .int .i64 0, .int .i64 0, .int .i64 0] [(0, 4, (.t 22))], none⟩, ⟨some 24, .app 4 32 107 [.int .i64 0, .int .i64 0, .int .i64 0, .int .i64 0] (.t 20) (.t 23), none⟩, oF 25 2 5, oT 1 25 24]
def c60_6 : OL := [oF 26 3 5, oL 27 26, oA 28 3 7, ⟨some 29, .callp 74 [(.t 28)], none⟩, ⟨some 30, .bslice 1 4 107 [.int .i64 0, .int .i64 0, .int .i64 0, .int .i64 0] [(0, 4, (.t 29))], none⟩, ⟨some 31, .app 4 32 107 [.int .i64 0, .int .i64 0, .int .i64 0, .int .i64 0] (.t 27) (.t 30), none⟩, oF 32 3 5, oT 1 32 31]
def c60_7 : OL := [oC 8 0, oC 9 0]
def c60_8 : OL := [oM 33 6, oN 34 .gtr 33 0]
def c60_9 : OL := [oF 35 4 5, oL 36 35, oM 37 6, oN 38 .sub 37 1, oI 39 1 36 38, oL 40 39, oF 41 2 5, oL 42 41, oM 43 6, oN 44 .sub 43 1, oI 45 4 42 44, ⟨some 46, .iaddrA 2 2 (.t 45) (.c (.int .i64 1)), none⟩, oA 47 2 46, oF 48 2 5, oL 49 48, oM 50 6, oI 51 4 49 50, ⟨some 52, .iaddrA 2 2 (.t 51) (.c (.int .i64 0)), none⟩, oA 53 2 52, ⟨some 54, .callp 75 [(.t 47), (.t 53)], none⟩, oB 55 .add 40 54, oM 8 55]
def J12 : OL := [oF 56 5 5, oL 57 56, oM 58 6, oN 59 .sub 58 1, oI 60 1 57 59, oL 61 60, oF 62 3 5, oL 63 62, oM 64 6, oI 65 4 63 64, ⟨some 66, .iaddrA 2 2 (.t 65) (.c (.int .i64 1)), none⟩, oA 67 2 66, oF 68 3 5, oL 69 68, oM 70 6, oN 71 .sub 70 1, oI 72 4 69 71, ⟨some 73, .iaddrA 2 2 (.t 72) (.c (.int .i64 0)), none⟩, oA 74 2 73, ⟨some 75, .callp 75 [(.t 67), (.t 74)], none⟩, oB 76 .add 61 75, oM 9 76]
def Jzm : OL := [oF 77 4 5, oL 78 77, oM 79 8, ⟨some 80, .bslice 1 1 3 [.int .i64 0] [(0, 1, (.t 79))], none⟩, ⟨some 81, .app 1 8 3 [.int .i64 0] (.t 78) (.t 80), none⟩, oF 82 4 5, oT 1 82 81]
def J3l : OL := [oF 83 5 5, oL 84 83, oM 85 9, ⟨some 86, .bslice 1 1 3 [.int .i64 0] [(0, 1, (.t 85))], none⟩, ⟨some 87, .app 1 8 3 [.int .i64 0] (.t 84) (.t 86), none⟩, oF 88 5 5, oT 1 88 87]
def J04 : OL := [oN 89 .add 14 1, oM 14 89]
def J6c : LC := (.seq (.reg false c60_3) (.seq (.cond (.t 15) .skip (.seq (.trim [4, 5]) (.exit 0))) (.seq (.blk 1 (.seq (.reg false c60_4) (.seq (.reg true c60_5) (.seq (.reg true c60_6) (.seq (.reg false c60_7) (.seq (.seq (.reg false c60_8) (.cond (.t 34) (.seq (.reg true c60_9) (.reg true J12)) .skip)) (.seq (.reg false Jzm) (.reg false J3l)))))))) (.reg false J04))))
def c60_15 : OL := [oA 90 6 5, oT 6 4 90]
def lc60 : LC := (.seq (.reg false c60_0) (.seq (.reg false c60_1) (.seq (.seq (.reg false c60_2) (.blk 0 (.loop [4, 5, 12, 13, 14] J6c))) (.seq (.reg false c60_15) .ret))))
def lf60 : LFunc := ⟨2, [.cell 4 true 6], false, lc60⟩
def hi60 : Q1 := ⟨[], [none, none, none, some [4, 5, 12, 13, 14], none, some [4, 5], none, none, none, none, none, none, none, none, none, none, none, none, none], [], []⟩
theorem lf60_ok : Q6 Try.prog hi60 false Try.f60 = lf60.o := by kernel_rfl
def c61_0 : OL := [⟨some 1, .box (.t 0), none⟩, oC 2 0, oC 3 0, ⟨some 4, .mov (.c (.bool false)), none⟩]
def c61_1 : OL := [oF 7 2 1, oL 8 7, oE 9 8, oC 10 0]
def c61_2 : OL := [oB 11 .lss 10 9]
def c61_3 : OL := [oM 12 10, oM 5 12]
def c61_4 : OL := [oM 13 5, oM 6 13]
def c61_5 : OL := [oM 14 6, oF 15 2 1, oL 16 15, oE 17 16, oB 18 .lss 14 17]
def c61_6 : OL := [oA 21 6 1, oM 22 5, oM 23 6, ⟨some 24, .callp 76 [(.t 21), (.t 22), (.t 23)], none⟩]
def c61_7 : OL := [oM 25 5, oM 26 6, oM 2 25, oM 3 26, ⟨some 4, .mov (.c (.bool true)), none⟩]
def c61_8 : OL := [oM 19 6, oN 20 .add 19 1, oM 6 20]
def Juz : LC := (.seq (.seq (.reg false c61_5) (.cond (.t 18) .skip (.seq (.trim [1, 9, 10]) (.exit 2)))) (.seq (.blk 3 (.seq (.reg false c61_6) (.cond (.t 24) (.seq (.reg false c61_7) (.seq (.trim [2, 3, 4]) .ret)) .skip))) (.reg false c61_8)))
def J48 : OL := [oN 27 .add 10 1, oM 10 27]
def Jz7 : LC := (.seq (.reg false c61_2) (.seq (.cond (.t 11) .skip (.seq (.trim []) (.exit 0))) (.seq (.blk 1 (.seq (.reg false c61_3) (.seq (.reg false c61_4) (.blk 2 (.loop [1, 5, 6, 9, 10] Juz))))) (.reg false J48))))
def c61_12 : OL := [oC 2 0, oC 3 0, ⟨some 4, .mov (.c (.bool false)), none⟩]
def lc61 : LC := (.seq (.reg false c61_0) (.seq (.seq (.reg false c61_1) (.blk 0 (.loop [1, 9, 10] Jz7))) (.seq (.reg false c61_12) .ret)))
def lf61 : LFunc := ⟨1, [.tmp 2, .tmp 3, .tmp 4], true, lc61⟩
def hi61 : Q1 := ⟨[], [none, none, some [1, 9, 10], none, some [], none, none, none, some [1, 5, 6, 9, 10], none, some [1, 9, 10], none, none, none, some [2, 3, 4], none, none, none, none, none], [], []⟩
theorem lf61_ok : Q6 Try.prog hi61 true Try.f61 = lf61.o := by kernel_rfl
def c62_0 : OL := [⟨some 1, .box (.t 0), none⟩, ⟨some 2, .alloc [.int .i64 0, .bool false, .nils], none⟩]
def c62_1 : OL := [oA 3 3 1, ⟨some 4, .callp 23 [(.t 3)], none⟩, oU 5 4]
def c62_2 : OL := [⟨some 6, .build [.int .i64 0, .bool false, .nils] [], none⟩, oT 3 2 6]
def c62_3 : OL := [oF 7 0 1, oL 8 7, oF 9 1 1, oL 10 9, oF 11 2 1, oL 12 11, ⟨some 13, .callz 77 [(.t 12)], none⟩, ⟨some 14, .build [.int .i64 0, .bool false, .nils] [(0, 1, (.t 8)), (1, 1, (.t 10)), (2, 1, (.t 13))], none⟩, oT 3 2 14]
def lc62 : LC := (.seq (.reg false c62_0) (.seq (.seq (.reg false c62_1) (.cond (.t 5) (.seq (.reg false c62_2) .ret) .skip)) (.seq (.reg true c62_3) .ret)))
def lf62 : LFunc := ⟨1, [.cell 2 true 3], true, lc62⟩
def hi62 : Q1 := ⟨[(13, .z)], [none, none, none, none, none, none, none], [], []⟩
theorem lf62_ok : Q6 Try.prog hi62 true Try.f62 = lf62.o := by kernel_rfl
def c63_0 : OL := [⟨some 2, .box (.t 0), none⟩, ⟨some 3, .box (.t 1), none⟩, oC 4 0, oC 5 0]
def c63_1 : OL := [⟨some 6, .frz (.c (.nils)), none⟩]
def c63_2 : OL := [oF 13 1 3, oL 14 13]
def c63_3 : OL := [oF 15 2 3, oL 16 15, ⟨some 6, .frz (.t 16), none⟩]
def c63_4 : OL := [oA 17 3 3, ⟨some 18, .callp 65 [(.t 17)], none⟩, ⟨some 7, .allocA 2 107 [.int .i64 0, .int .i64 0, .int .i64 0, .int .i64 0], none⟩, oT 4 7 18]
def c63_5 : OL := [⟨some 19, .slcA 2 2 (.t 7), none⟩, ⟨some 6, .frz (.t 19), none⟩]
def c63_6 : OL := [oA 20 2 2, oM 21 6, ⟨some 22, .iaddr 2 (.t 21) (.c (.int .i64 0)), none⟩, oA 23 2 22, ⟨some 24, .callp 75 [(.t 20), (.t 23)], none⟩, oC 8 0, oM 9 24]
def c63_7 : OL := [oM 25 6, oE 26 25, oC 27 0]
def c63_8 : OL := [oB 28 .lss 27 26]
def c63_9 : OL := [oM 29 27, oI 30 2 25 27, oA 31 2 30, ⟨some 11, .alloc [.int .i64 0, .int .i64 0], none⟩, oM 10 29, oT 2 11 31]
def J4f : OL := [oA 32 2 2, oA 33 2 11, ⟨some 34, .callp 75 [(.t 32), (.t 33)], none⟩, oM 12 34]
def J4m : OL := [oM 35 12, oM 36 9, oB 37 .lss 35 36]
def J18 : OL := [oM 38 10, oM 39 12, oM 8 38, oM 9 39]
def Jyg : OL := [oN 40 .add 27 1, oM 27 40]
def Jz9 : LC := (.seq (.reg false c63_8) (.seq (.cond (.t 28) .skip (.seq (.trim [8, 9]) (.exit 0))) (.seq (.blk 1 (.seq (.reg false c63_9) (.seq (.reg false J4f) (.seq (.reg false J4m) (.cond (.t 37) (.reg false J18) .skip))))) (.reg false Jyg))))
def c63_15 : OL := [oM 41 8, oM 42 9, oM 4 41, oM 5 42]
def lc63 : LC := (.seq (.reg false c63_0) (.seq (.reg false c63_1) (.seq (.seq (.reg false c63_2) (.cond (.t 14) (.reg false c63_3) (.seq (.reg false c63_4) (.reg false c63_5)))) (.seq (.reg true c63_6) (.seq (.seq (.reg false c63_7) (.blk 0 (.loop [2, 8, 9, 25, 26, 27] Jz9))) (.seq (.reg false c63_15) .ret))))))
def lf63 : LFunc := ⟨2, [.tmp 4, .tmp 5], true, lc63⟩
def hi63 : Q1 := ⟨[(6, .z), (6, .z), (7, .z), (6, .z)], [none, none, none, none, none, none, none, some [2, 8, 9, 25, 26, 27], none, some [8, 9], none, none, none, none, none, none, none, none], [], []⟩
theorem lf63_ok : Q6 Try.prog hi63 true Try.f63 = lf63.o := by kernel_rfl
def c64_0 : OL := [⟨some 2, .box (.t 0), none⟩, ⟨some 4, .alloc [.int .i64 0, .bool false, .nils], none⟩]
def c64_1 : OL := [oF 5 1 2, oL 6 5]
def c64_2 : OL := [oA 7 3 2, oM 8 1, ⟨some 9, .callp 78 [(.t 7), (.t 8)], none⟩, oT 3 4 9]
def c64_3 : OL := [oM 10 1, oN 11 .eql 10 1]
def c64_4 : OL := [oA 12 3 2, ⟨some 13, .callp 62 [(.t 12)], none⟩, oT 3 4 13]
def c64_5 : OL := [oA 14 3 2, oT 3 4 14]
def lc64 : LC := (.seq (.reg false c64_0) (.seq (.seq (.reg false c64_1) (.cond (.t 6) (.seq (.reg false c64_2) .ret) .skip)) (.seq (.seq (.reg false c64_3) (.cond (.t 11) (.seq (.reg false c64_4) .ret) .skip)) (.seq (.reg false c64_5) .ret))))
def lf64 : LFunc := ⟨2, [.cell 4 true 3], true, lc64⟩
def hi64 : Q1 := ⟨[], [none, none, none, none, none, none, none, none, none, none, none], [], []⟩
theorem lf64_ok : Q6 Try.prog hi64 true Try.f64 = lf64.o := by kernel_rfl
def c65_0 : OL := [⟨some 1, .box (.t 0), none⟩, ⟨some 2, .alloc [.int .i64 0, .int .i64 0, .int .i64 0, .int .i64 0], none⟩]
def c65_1 : OL := [oF 3 2 1, oL 4 3, ⟨some 5, .iaddr 2 (.t 4) (.c (.int .i64 0)), none⟩, oA 6 2 5, oF 7 2 1, oL 8 7, oF 9 2 1, oL 10 9, oE 11 10, oN 12 .sub 11 1, oI 13 2 8 12, oA 14 2 13, ⟨some 15, .build [.int .i64 0, .int .i64 0, .int .i64 0, .int .i64 0] [(0, 2, (.t 6)), (2, 2, (.t 14))], none⟩, oT 4 2 15]
def lc65 : LC := (.seq (.reg false c65_0) (.seq (.reg true c65_1) .ret))
def lf65 : LFunc := ⟨1, [.cell 2 true 4], true, lc65⟩
def hi65 : Q1 := ⟨[], [none, none, none], [], []⟩
theorem lf65_ok : Q6 Try.prog hi65 true Try.f65 = lf65.o := by kernel_rfl
def c66_0 : OL := [⟨some 3, .box (.t 1), none⟩]
def c66_1 : OL := [oM 8 0, ⟨some 9, .nilck (.t 8), none⟩, oF 10 22 9, oA 11 2 10, oA 12 2 3, ⟨some 13, .eqv false true [false, false] (.t 11) (.t 12), none⟩]
def c66_2 : OL := [oM 14 0, oM 15 0, ⟨some 16, .nilck (.t 15), none⟩, oF 17 2 16, oF 18 14 17, oL 19 18, ⟨some 20, .callq 67 [(.t 14), (.t 19)], none⟩, ⟨some 21, .build [.int .i64 0, .int .i64 0, .int .i64 0, .int .i64 0, .int .i64 0, .nils] [(0, 1, (.c (.int .i64 2))), (4, 1, (.t 20))], none⟩, ⟨some 4, .alloc [.int .i64 0, .int .i64 0, .int .i64 0, .int .i64 0, .int .i64 0, .nils], none⟩, oT 6 4 21]
def c66_3 : OL := [oM 23 0, ⟨some 24, .nilck (.t 23), none⟩, oF 25 1 24, oA 26 1 25, oM 27 0, ⟨some 28, .nilck (.t 27), none⟩, oF 29 22 28, oA 30 2 29, oA 31 2 3, ⟨some 32, .callp 79 [(.t 26), (.t 30), (.t 31)], none⟩, oM 22 32, ⟨some 33, .ext (.t 22) 0, none⟩, ⟨some 34, .ext (.t 22) 1, none⟩, oM 5 33, oM 6 34]
def c66_4 : OL := [oM 35 6, oU 36 35, oM 37 36, oMg 38 0 37 true, ⟨some 39, .nilck (.t 38), some (37, true)⟩, oFg 40 2 39 37 true, oFg 41 15 40 37 true, oLg 42 41 37 true, oNg 43 .neq 42 0 37 true, oP 44 37 43, oM 7 44]
def c66_5 : OL := [oM 45 6, oU 46 45]
def c66_6 : OL := [oM 47 0, ⟨some 48, .nilck (.t 47), none⟩, oF 49 22 48, oA 50 2 49, oA 51 2 3, ⟨some 52, .callp 80 [(.t 50), (.t 51)], none⟩, oM 5 52]
def c66_7 : OL := [oM 53 5, ⟨some 54, .slc 2 (.t 53) (some (.c (.int .i64 1))) none, none⟩, oF 55 5 4, oT 1 55 54]
def c66_8 : OL := [oM 56 7]
def c66_9 : OL := [oM 57 0, ⟨some 58, .nilck (.t 57), none⟩, oF 59 0 58, ⟨some 60, .build [.int .i64 0, .int .i64 0, .int .i64 0, .int .i64 0, .int .i64 0, .nils] [(0, 1, (.c (.int .i64 4)))], none⟩, ⟨some 61, .callr 24 [(.t 59), (.t 60)], none⟩]
def c66_10 : OL := [oM 62 0, ⟨some 63, .nilck (.t 62), none⟩, oF 64 0 63, oA 65 6 4, ⟨some 66, .callr 24 [(.t 64), (.t 65)], none⟩]
def c66_11 : OL := [oM 67 7]
def c66_12 : OL := [oM 68 0, ⟨some 69, .nilck (.t 68), none⟩, oF 70 0 69, ⟨some 71, .build [.int .i64 0, .int .i64 0, .int .i64 0, .int .i64 0, .int .i64 0, .nils] [(0, 1, (.c (.int .i64 5)))], none⟩, ⟨some 72, .callr 24 [(.t 70), (.t 71)], none⟩]
def lc66 : LC := (.seq (.reg false c66_0) (.seq (.seq (.reg true c66_1) (.cond (.t 13) .ret .skip)) (.seq (.reg false c66_2) (.seq (.reg true c66_3) (.seq (.reg false c66_4) (.seq (.seq (.reg false c66_5) (.cond (.t 46) (.reg true c66_6) .skip)) (.seq (.reg false c66_7) (.seq (.seq (.reg false c66_8) (.cond (.t 56) (.reg false c66_9) .skip)) (.seq (.reg true c66_10) (.seq (.reg false c66_11) (.cond (.t 67) (.reg false c66_12) .skip)))))))))))
def lf66 : LFunc := ⟨2, [], false, lc66⟩
def hi66 : Q1 := ⟨[(20, .q), (61, .r), (66, .r), (72, .r)], [none, none, none, none, none, none, none, none, none, none, none, none, none, none], [], []⟩
theorem lf66_ok : Q6 Try.prog hi66 false Try.f66 = lf66.o := by kernel_rfl
def c67_0 : OL := [oC 4 0]
def c67_1 : OL := [oM 5 1, oM 6 0, ⟨some 7, .nilck (.t 6), none⟩, oF 8 2 7, oF 9 0 8, oL 10 9, oB 11 .quo 5 10, ⟨some 12, .mm true (.t 11) (.c (.int .i64 1)), none⟩, oM 4 12]
def lc67 : LC := (.seq (.reg false c67_0) (.seq (.reg false c67_1) .ret))
def lf67 : LFunc := ⟨2, [.tmp 4], true, lc67⟩
def hi67 : Q1 := ⟨[], [none, none, none], [], []⟩
theorem lf67_ok : Q6 Try.prog hi67 true Try.f67 = lf67.o := by kernel_rfl
def c68_0 : OL := [⟨some 2, .mov (.c (.nils)), none⟩]
def c68_1 : OL := [oM 3 0, ⟨some 4, .isnil false (.t 3), none⟩]
def c68_2 : OL := [⟨some 2, .mov (.c (.nils)), none⟩]
def c68_3 : OL := [⟨some 5, .bslice 0 6 40 [.int .i64 0, .int .i64 0, .int .i64 0, .int .i64 0, .int .i64 0, .nils] [], none⟩, oM 6 0, ⟨some 7, .app 6 64 40 [.int .i64 0, .int .i64 0, .int .i64 0, .int .i64 0, .int .i64 0, .nils] (.t 5) (.t 6), none⟩, oM 2 7]
def lc68 : LC := (.seq (.reg false c68_0) (.seq (.seq (.reg false c68_1) (.cond (.t 4) (.seq (.reg false c68_2) .ret) .skip)) (.seq (.reg false c68_3) .ret)))
def lf68 : LFunc := ⟨1, [.own 2], false, lc68⟩
def hi68 : Q1 := ⟨[], [none, none, none, none, none, none, none], [], []⟩
theorem lf68_ok : Q6 Try.prog hi68 false Try.f68 = lf68.o := by kernel_rfl
def c69_0 : OL := [⟨some 2, .mov (.c (.nils)), none⟩]
def c69_1 : OL := [oM 3 0, ⟨some 4, .isnil false (.t 3), none⟩]
def c69_2 : OL := [⟨some 2, .mov (.c (.nils)), none⟩]
def c69_3 : OL := [⟨some 5, .bslice 0 2 27 [.int .i64 0, .int .i64 0] [], none⟩, oM 6 0, ⟨some 7, .app 2 16 27 [.int .i64 0, .int .i64 0] (.t 5) (.t 6), none⟩, oM 2 7]
def lc69 : LC := (.seq (.reg false c69_0) (.seq (.seq (.reg false c69_1) (.cond (.t 4) (.seq (.reg false c69_2) .ret) .skip)) (.seq (.reg false c69_3) .ret)))
def lf69 : LFunc := ⟨1, [.tmp 2], true, lc69⟩
def hi69 : Q1 := ⟨[], [none, none, none, none, none, none, none], [], []⟩
theorem lf69_ok : Q6 Try.prog hi69 true Try.f69 = lf69.o := by kernel_rfl
def c70_0 : OL := [⟨some 1, .box (.t 0), none⟩, oC 2 0]
def c70_1 : OL := [oF 4 0 1, oL 5 4, oN 6 .neq 5 2, oM 7 6, oFg 8 0 1 7 true, oLg 9 8 7 true, oNg 10 .neq 9 3 7 true, oP 11 7 10, oM 12 11, oFg 13 4 1 12 false, oLg 14 13 12 false, oNg 15 .leq 14 0 12 false, oO 16 12 15]
def c70_2 : OL := [oC 2 0]
def c70_3 : OL := [oF 17 5 1, oL 18 17, oE 19 18, oN 20 .mul 19 1000, oM 3 20]
def c70_4 : OL := [oM 21 3, oF 22 4 1, oL 23 22, oB 24 .rem 21 23, oN 25 .gtr 24 0]
def c70_5 : OL := [oM 26 3, oF 27 4 1, oL 28 27, oB 29 .quo 26 28, oN 30 .add 29 1, oM 2 30]
def c70_6 : OL := [oM 31 3, oF 32 4 1, oL 33 32, oB 34 .quo 31 33, oM 2 34]
def lc70 : LC := (.seq (.reg false c70_0) (.seq (.seq (.reg false c70_1) (.cond (.t 16) (.seq (.reg false c70_2) .ret) .skip)) (.seq (.reg false c70_3) (.seq (.seq (.reg false c70_4) (.cond (.t 25) (.seq (.reg false c70_5) .ret) .skip)) (.seq (.reg false c70_6) .ret)))))
def lf70 : LFunc := ⟨1, [.tmp 2], true, lc70⟩
def hi70 : Q1 := ⟨[], [none, none, none, none, none, none, none, none, none, none, none, none], [], []⟩
theorem lf70_ok : Q6 Try.prog hi70 true Try.f70 = lf70.o := by kernel_rfl
def c71_0 : OL := [⟨some 6, .mov (.c (.nils)), none⟩]
def c71_1 : OL := [oM 11 1, oM 12 2, ⟨some 13, .callz 81 [(.t 11), (.t 12)], none⟩, oM 7 13]
def c71_2 : OL := [⟨some 8, .mov (.c (.nils)), none⟩]
def c71_3 : OL := [oC 9 0]
def c71_4 : OL := [oM 14 9, oN 15 .add 14 1, oM 16 7, oE 17 16, oB 18 .lss 15 17]
def c71_5 : OL := [oM 21 7, oM 22 9, oI 23 1 21 22, oL 24 23, oM 25 7, oM 26 9, oN 27 .add 26 1, oI 28 1 25 27, oL 29 28, oB 30 .eql 24 29, oM 31 30, oMg 32 0 31 false, oMg 33 1 31 false, oMg 34 7 31 false, oMg 35 9 31 false, oIg 36 1 34 35 31 false, oLg 37 36 31 false, ⟨some 38, .callp 83 [(.t 33), (.t 37)], some (31, false)⟩, oMg 39 2 31 false, oMg 40 7 31 false, oMg 41 9 31 false, oIg 42 1 40 41 31 false, oLg 43 42 31 false, ⟨some 44, .callp 83 [(.t 39), (.t 43)], some (31, false)⟩, ⟨some 45, .callp 82 [(.t 32), (.t 38), (.t 44)], some (31, false)⟩, oUg 46 45 31 false, oO 47 31 46]
def c71_6 : OL := [oM 48 8, oE 49 48, oM 10 49]
def c71_7 : OL := [oM 50 10, oN 51 .gtr 50 0, oM 52 51, oMg 53 8 52 true, oMg 54 10 52 true, oNg 55 .sub 54 1 52 true, oIg 56 2 53 55 52 true, oFg 57 1 56 52 true, oLg 58 57 52 true, oMg 59 7 52 true, oMg 60 9 52 true, oIg 61 1 59 60 52 true, oLg 62 61 52 true, oBg 63 .eql 58 62 52 true, oP 64 52 63]
def c71_8 : OL := [oM 65 8, oM 66 10, oN 67 .sub 66 1, oM 68 7, oM 69 9, oN 70 .add 69 1, oI 71 1 68 70, oL 72 71, oI 73 2 65 67, oF 74 1 73, oT 1 74 72]
def c71_9 : OL := [oM 75 8, oM 76 7, oM 77 9, oI 78 1 76 77, oL 79 78, oM 80 7, oM 81 9, oN 82 .add 81 1, oI 83 1 80 82, oL 84 83, ⟨some 85, .build [.int .i64 0, .int .i64 0] [(0, 1, (.t 79)), (1, 1, (.t 84))], none⟩, ⟨some 86, .bslice 1 2 54 [.int .i64 0, .int .i64 0] [(0, 2, (.t 85))], none⟩, ⟨some 87, .app 2 16 54 [.int .i64 0, .int .i64 0] (.t 75) (.t 86), none⟩, oM 8 87]
def Jy4 : OL := [oM 19 9, oN 20 .add 19 1, oM 9 20]
def J22 : LC := (.seq (.seq (.reg false c71_4) (.cond (.t 18) .skip (.seq (.trim [8]) (.exit 0)))) (.seq (.blk 1 (.seq (.seq (.reg true c71_5) (.cond (.t 47) (.exit 1) .skip)) (.seq (.reg false c71_6) (.seq (.reg true c71_7) (.cond (.t 64) (.reg false c71_8) (.reg true c71_9)))))) (.reg false Jy4)))
def c71_12 : OL := [oM 88 8, oM 6 88]
def lc71 : LC := (.seq (.reg false c71_0) (.seq (.reg false c71_1) (.seq (.reg false c71_2) (.seq (.seq (.reg false c71_3) (.blk 0 (.loop [0, 1, 2, 7, 8, 9] J22))) (.seq (.reg false c71_12) .ret)))))
def lf71 : LFunc := ⟨3, [.tmp 6], true, lc71⟩
def hi71 : Q1 := ⟨[(13, .z)], [none, none, none, none, some [0, 1, 2, 7, 8, 9], none, some [8], none, none, none, none, none, none, none, none, none, none], [], []⟩
theorem lf71_ok : Q6 Try.prog hi71 true Try.f71 = lf71.o := by kernel_rfl
def c72_0 : OL := [oC 2 0]
def c72_1 : OL := [oM 3 0, oM 4 0, ⟨some 5, .un .neg (.t 4), none⟩, ⟨some 6, .mm true (.t 3) (.t 5), none⟩, oM 2 6]
def lc72 : LC := (.seq (.reg false c72_0) (.seq (.reg false c72_1) .ret))
def lf72 : LFunc := ⟨1, [.tmp 2], true, lc72⟩
def hi72 : Q1 := ⟨[], [none, none, none], [], []⟩
theorem lf72_ok : Q6 Try.prog hi72 true Try.f72 = lf72.o := by kernel_rfl
def c73_0 : OL := [⟨some 1, .box (.t 0), none⟩, ⟨some 2, .alloc [.int .i64 0, .bool false, .nils], none⟩]
def c73_1 : OL := [⟨some 3, .msk [7, 10] (.faddr 0 (.t 1)), none⟩, ⟨some 4, .msk [7, 10] (.load false 1 (.t 3)), none⟩, ⟨some 5, .msk [7, 10] (.faddr 1 (.t 1)), none⟩, ⟨some 6, .msk [7, 10] (.load false 1 (.t 5)), none⟩, oF 8 2 1, oL 9 8, ⟨some 7, .bslice 0 2 27 [.int .i64 0, .int .i64 0] [], none⟩, ⟨some 10, .appn true [7, 10] 2 16 27 [.int .i64 0, .int .i64 0] (.t 7) (.t 9), none⟩, ⟨some 11, .build [.int .i64 0, .bool false, .nils] [(0, 1, (.t 4)), (1, 1, (.t 6)), (2, 1, (.t 10))], none⟩, oT 3 2 11]
def lc73 : LC := (.seq (.reg false c73_0) (.seq (.reg true c73_1) .ret))
def lf73 : LFunc := ⟨1, [.cell 2 true 3], true, lc73⟩
def hi73 : Q1 := ⟨[(10, .z)], [none, none, none], [(1, [0, 1, 2, 3, 5, 6, 4, 7, 8, 9])], [(1, [7, 10], [3, 4, 5, 6])]⟩
theorem lf73_ok : Q6 Try.prog hi73 true Try.f73 = lf73.o := by kernel_rfl
def c74_0 : OL := [⟨some 1, .box (.t 0), none⟩, ⟨some 2, .alloc [.int .i64 0, .int .i64 0, .int .i64 0, .int .i64 0], none⟩]
def c74_1 : OL := [oA 4 3 1, ⟨some 5, .callp 65 [(.t 4)], none⟩, ⟨some 3, .alloc [.int .i64 0, .int .i64 0, .int .i64 0, .int .i64 0], none⟩, oT 4 3 5]
def c74_2 : OL := [oF 6 1 1, oL 7 6, oU 8 7]
def c74_3 : OL := [⟨some 9, .iaddrA 2 2 (.t 3) (.c (.int .i64 1)), none⟩, oA 10 2 9, ⟨some 11, .iaddrA 2 2 (.t 3) (.c (.int .i64 0)), none⟩, oA 12 2 11, ⟨some 13, .iaddrA 2 2 (.t 3) (.c (.int .i64 0)), none⟩, oT 2 13 10, ⟨some 14, .iaddrA 2 2 (.t 3) (.c (.int .i64 1)), none⟩, oT 2 14 12]
def c74_4 : OL := [oA 15 4 3, oT 4 2 15]
def lc74 : LC := (.seq (.reg false c74_0) (.seq (.reg false c74_1) (.seq (.seq (.reg false c74_2) (.cond (.t 8) (.reg false c74_3) .skip)) (.seq (.reg false c74_4) .ret))))
def lf74 : LFunc := ⟨1, [.cell 2 true 4], true, lc74⟩
def hi74 : Q1 := ⟨[], [none, none, none, none, none, none], [], []⟩
theorem lf74_ok : Q6 Try.prog hi74 true Try.f74 = lf74.o := by kernel_rfl
def c75_0 : OL := [⟨some 2, .box (.t 0), none⟩, ⟨some 3, .box (.t 1), none⟩, oC 4 0]
def c75_1 : OL := [oF 5 0 2, oL 6 5, oF 7 0 3, oL 8 7, oB 9 .sub 6 8, oF 10 0 3, oL 11 10, oF 12 0 2, oL 13 12, oB 14 .sub 11 13, ⟨some 15, .mm true (.t 9) (.t 14), none⟩, oF 16 1 2, oL 17 16, oF 18 1 3, oL 19 18, oB 20 .sub 17 19, oF 21 1 3, oL 22 21, oF 23 1 2, oL 24 23, oB 25 .sub 22 24, ⟨some 26, .mm true (.t 20) (.t 25), none⟩, oB 27 .add 15 26, oM 4 27]
def lc75 : LC := (.seq (.reg false c75_0) (.seq (.reg false c75_1) .ret))
def lf75 : LFunc := ⟨2, [.tmp 4], true, lc75⟩
def hi75 : Q1 := ⟨[], [none, none, none], [], []⟩
theorem lf75_ok : Q6 Try.prog hi75 true Try.f75 = lf75.o := by kernel_rfl
def c76_0 : OL := [⟨some 3, .box (.t 0), none⟩, ⟨some 6, .mov (.c (.bool false)), none⟩]
def c76_1 : OL := [oF 10 0 3, oA 11 2 10, ⟨some 7, .alloc [.int .i64 0, .int .i64 0], none⟩, oT 2 7 11]
def c76_2 : OL := [oM 12 1, oN 13 .gtr 12 0]
def c76_3 : OL := [oF 14 2 3, oL 15 14, oM 16 1, oN 17 .sub 16 1, oI 18 4 15 17, ⟨some 19, .iaddrA 2 2 (.t 18) (.c (.int .i64 1)), none⟩, oA 20 2 19, oT 2 7 20]
def c76_4 : OL := [oA 21 2 7, oF 22 2 3, oL 23 22, oM 24 1, oI 25 4 23 24, ⟨some 26, .iaddrA 2 2 (.t 25) (.c (.int .i64 0)), none⟩, oA 27 2 26, ⟨some 28, .callp 75 [(.t 21), (.t 27)], none⟩, oF 29 4 3, oL 30 29, oM 31 2, oI 32 1 30 31, oL 33 32, oB 34 .add 28 33, oF 35 4 3, oL 36 35, oM 37 1, oI 38 1 36 37, oL 39 38, oB 40 .sub 34 39, oM 8 40]
def c76_5 : OL := [oA 41 2 7, oF 42 3 3, oL 43 42, oM 44 2, oI 45 4 43 44, ⟨some 46, .iaddrA 2 2 (.t 45) (.c (.int .i64 0)), none⟩, oA 47 2 46, ⟨some 48, .callp 75 [(.t 41), (.t 47)], none⟩, oF 49 5 3, oL 50 49, oM 51 2, oI 52 1 50 51, oL 53 52, oB 54 .add 48 53, oF 55 5 3, oL 56 55, oM 57 1, oI 58 1 56 57, oL 59 58, oB 60 .sub 54 59, oM 9 60]
def c76_6 : OL := [oM 61 2, oN 62 .add 61 1, oF 63 2 3, oL 64 63, oE 65 64, oB 66 .lss 62 65]
def c76_7 : OL := [oM 67 8, oF 68 2 3, oL 69 68, oM 70 2, oI 71 4 69 70, ⟨some 72, .iaddrA 2 2 (.t 71) (.c (.int .i64 1)), none⟩, oA 73 2 72, oF 74 2 3, oL 75 74, oM 76 2, oN 77 .add 76 1, oI 78 4 75 77, ⟨some 79, .iaddrA 2 2 (.t 78) (.c (.int .i64 0)), none⟩, oA 80 2 79, ⟨some 81, .callp 75 [(.t 73), (.t 80)], none⟩, oB 82 .add 67 81, oM 8 82]
def c76_8 : OL := [oM 83 9, oF 84 3 3, oL 85 84, oM 86 1, oI 87 4 85 86, ⟨some 88, .iaddrA 2 2 (.t 87) (.c (.int .i64 1)), none⟩, oA 89 2 88, oF 90 2 3, oL 91 90, oM 92 2, oN 93 .add 92 1, oI 94 4 91 93, ⟨some 95, .iaddrA 2 2 (.t 94) (.c (.int .i64 0)), none⟩, oA 96 2 95, ⟨some 97, .callp 75 [(.t 89), (.t 96)], none⟩, oB 98 .add 83 97, oM 9 98]
def c76_9 : OL := [oM 99 9, oM 100 8, oB 101 .lss 99 100, oM 6 101]
def lc76 : LC := (.seq (.reg false c76_0) (.seq (.reg false c76_1) (.seq (.seq (.reg false c76_2) (.cond (.t 13) (.reg false c76_3) .skip)) (.seq (.reg true c76_4) (.seq (.reg true c76_5) (.seq (.seq (.reg false c76_6) (.cond (.t 66) (.seq (.reg true c76_7) (.reg true c76_8)) .skip)) (.seq (.reg false c76_9) .ret)))))))
def lf76 : LFunc := ⟨3, [.tmp 6], true, lc76⟩
def hi76 : Q1 := ⟨[], [none, none, none, none, none, none, none, none, none, none, none], [], []⟩
theorem lf76_ok : Q6 Try.prog hi76 true Try.f76 = lf76.o := by kernel_rfl
def c77_0 : OL := [⟨some 2, .mov (.c (.nils)), none⟩]
def c77_1 : OL := [oM 5 0, oE 6 5, ⟨some 7, .mkS 2 16 27 [.int .i64 0, .int .i64 0] (.c (.int .i64 0)) (.t 6), none⟩, oM 3 7]
def c77_2 : OL := [oM 8 0, oE 9 8, oN 10 .sub 9 1, oM 4 10]
def c77_3 : OL := [oM 11 4, oN 12 .geq 11 0]
def c77_4 : OL := [oM 15 3, oM 16 0, oM 17 4, oI 18 2 16 17, oA 19 2 18, ⟨some 20, .bslice 1 2 27 [.int .i64 0, .int .i64 0] [(0, 2, (.t 19))], none⟩, ⟨some 21, .app 2 16 27 [.int .i64 0, .int .i64 0] (.t 15) (.t 20), none⟩, oM 3 21]
def c77_5 : OL := [oM 13 4, oN 14 .sub 13 1, oM 4 14]
def J1c : LC := (.seq (.seq (.reg false c77_3) (.cond (.t 12) .skip (.seq (.trim [3]) (.exit 0)))) (.seq (.blk 1 (.reg false c77_4)) (.reg false c77_5)))
def c77_7 : OL := [oM 22 3, oM 2 22]
def lc77 : LC := (.seq (.reg false c77_0) (.seq (.reg false c77_1) (.seq (.seq (.reg false c77_2) (.blk 0 (.loop [0, 3, 4] J1c))) (.seq (.reg false c77_7) .ret))))
def lf77 : LFunc := ⟨1, [.tmp 2], true, lc77⟩
def hi77 : Q1 := ⟨[], [none, none, none, some [0, 3, 4], none, some [3], none, none, none, none, none], [], []⟩
theorem lf77_ok : Q6 Try.prog hi77 true Try.f77 = lf77.o := by kernel_rfl
def c78_0 : OL := [⟨some 2, .box (.t 0), none⟩, ⟨some 4, .alloc [.int .i64 0, .bool false, .nils], none⟩]
def c78_1 : OL := [oA 7 3 2, ⟨some 8, .callp 23 [(.t 7)], none⟩, oU 9 8]
def c78_2 : OL := [⟨some 10, .build [.int .i64 0, .bool false, .nils] [], none⟩, oT 3 4 10]
def c78_3 : OL := [oC 5 0]
def c78_4 : OL := [oF 11 2 2, oL 12 11, oE 13 12, oM 6 13]
def c78_5 : OL := [oF 14 1 2, oL 15 14]
def c78_6 : OL := [oM 16 1, oM 17 6, oB 18 .rem 16 17, oM 19 6, oB 20 .add 18 19, oM 21 6, oB 22 .rem 20 21, oM 5 22]
def c78_7 : OL := [oF 23 0 2, oL 24 23, oF 25 1 2, oL 26 25, oF 27 2 2, oL 28 27, oM 29 5, ⟨some 30, .callz 84 [(.t 28), (.t 29)], none⟩, ⟨some 31, .build [.int .i64 0, .bool false, .nils] [(0, 1, (.t 24)), (1, 1, (.t 26)), (2, 1, (.t 30))], none⟩, oT 3 4 31]
def lc78 : LC := (.seq (.reg false c78_0) (.seq (.seq (.reg false c78_1) (.cond (.t 9) (.seq (.reg false c78_2) .ret) .skip)) (.seq (.reg false c78_3) (.seq (.seq (.reg false c78_4) (.seq (.reg false c78_5) (.cond (.t 15) (.reg false c78_6) .skip))) (.seq (.reg true c78_7) .ret)))))
def lf78 : LFunc := ⟨2, [.cell 4 true 3], true, lc78⟩
def hi78 : Q1 := ⟨[(30, .z)], [none, none, none, none, none, none, none, none, none, none, none], [], []⟩
theorem lf78_ok : Q6 Try.prog hi78 true Try.f78 = lf78.o := by kernel_rfl
def c79_0 : OL := [⟨some 3, .box (.t 0), none⟩, ⟨some 4, .box (.t 1), none⟩, ⟨some 5, .box (.t 2), none⟩, ⟨some 6, .mov (.c (.nils)), none⟩, ⟨some 7, .mov (.c (.bool false)), none⟩]
def c79_1 : OL := [oA 13 1 3, oA 14 2 4, ⟨some 15, .callp 85 [(.t 13), (.t 14)], none⟩, oU 16 15, oM 17 16, oAg 18 1 3 17 false, oAg 19 2 5 17 false, ⟨some 20, .callp 85 [(.t 18), (.t 19)], some (17, false)⟩, oUg 21 20 17 false, oO 22 17 21]
def c79_2 : OL := [⟨some 6, .mov (.c (.nils)), none⟩, ⟨some 7, .mov (.c (.bool false)), none⟩]
def c79_3 : OL := [oA 23 1 3, oA 24 2 4, oA 25 2 5, ⟨some 26, .callz 86 [(.t 23), (.t 24), (.t 25)], none⟩, oM 8 26]
def c79_4 : OL := [oM 28 8, oA 29 2 5, ⟨some 30, .look true true [false, false] (.agg [.int .i64 0, .int .i64 0]) (.t 28) (.t 29), none⟩, oM 27 30, ⟨some 31, .ext (.t 27) 0, none⟩, ⟨some 32, .ext (.t 27) 1, none⟩, ⟨some 9, .alloc [.int .i64 0, .int .i64 0], none⟩, oT 2 9 31, oM 10 32]
def c79_5 : OL := [oM 33 10, oU 34 33]
def c79_6 : OL := [⟨some 6, .mov (.c (.nils)), none⟩, ⟨some 7, .mov (.c (.bool false)), none⟩]
def c79_7 : OL := [oA 35 2 5, ⟨some 36, .bslice 1 2 27 [.int .i64 0, .int .i64 0] [(0, 2, (.t 35))], none⟩, oM 11 36]
def c79_8 : OL := [oA 37 2 5, ⟨some 12, .alloc [.int .i64 0, .int .i64 0], none⟩, oT 2 12 37]
def c79_9 : OL := [oA 38 2 12, oA 39 2 4, ⟨some 40, .eqv true true [false, false] (.t 38) (.t 39), none⟩]
def Jzq : OL := [oM 41 8, oA 42 2 12, ⟨some 43, .look false true [false, false] (.agg [.int .i64 0, .int .i64 0]) (.t 41) (.t 42), none⟩, oT 2 12 43]
def J0r : OL := [oM 44 11, oA 45 2 12, ⟨some 46, .bslice 1 2 27 [.int .i64 0, .int .i64 0] [(0, 2, (.t 45))], none⟩, ⟨some 47, .app 2 16 27 [.int .i64 0, .int .i64 0] (.t 44) (.t 46), none⟩, oM 11 47]
def Jyb : OL := [oA 48 2 12]
def Jzg : OL := [⟨some 12, .alloc [.int .i64 0, .int .i64 0], none⟩, oT 2 12 48]
def J0f : LC := (.seq (.seq (.reg false c79_9) (.cond (.t 40) .skip (.seq (.trim [11]) (.exit 0)))) (.seq (.blk 1 (.seq (.reg false Jzq) (.reg false J0r))) (.seq (.reg false Jyb) (.reg false Jzg))))
def c79_15 : OL := [oM 49 11, ⟨some 50, .callr 87 [(.t 49)], none⟩]
def c79_16 : OL := [oM 51 11, oM 6 51, ⟨some 7, .mov (.c (.bool true)), none⟩]
def lc79 : LC := (.seq (.reg false c79_0) (.seq (.seq (.reg false c79_1) (.cond (.t 22) (.seq (.reg false c79_2) .ret) .skip)) (.seq (.reg false c79_3) (.seq (.seq (.reg false c79_4) (.seq (.reg false c79_5) (.cond (.t 34) (.seq (.reg false c79_6) .ret) .skip))) (.seq (.reg false c79_7) (.seq (.seq (.reg false c79_8) (.blk 0 (.loop [4, 8, 11, 12] J0f))) (.seq (.reg false c79_15) (.seq (.reg false c79_16) .ret))))))))
def lf79 : LFunc := ⟨3, [.tmp 6, .tmp 7], true, lc79⟩
def hi79 : Q1 := ⟨[(26, .z), (50, .r)], [none, none, none, none, none, none, none, none, none, none, none, none, none, some [4, 8, 11, 12], none, some [11], none, none, none, none, none, none, none, none], [], []⟩
theorem lf79_ok : Q6 Try.prog hi79 true Try.f79 = lf79.o := by kernel_rfl
def c80_0 : OL := [⟨some 2, .box (.t 0), none⟩, ⟨some 3, .box (.t 1), none⟩, ⟨some 4, .mov (.c (.nils)), none⟩]
def c80_1 : OL := [oA 6 2 2, ⟨some 7, .callp 88 [(.t 6)], none⟩, oU 8 7, oM 9 8, oAg 10 2 3 9 false, ⟨some 11, .callp 88 [(.t 10)], some (9, false)⟩, oUg 12 11 9 false, oO 13 9 12]
def c80_2 : OL := [⟨some 4, .mov (.c (.nils)), none⟩]
def c80_3 : OL := [oA 14 2 2, ⟨some 15, .bslice 1 2 27 [.int .i64 0, .int .i64 0] [(0, 2, (.t 14))], none⟩, oM 5 15]
def c80_4 : OL := [oA 16 2 2, oA 17 2 3, ⟨some 18, .eqv true true [false, false] (.t 16) (.t 17), none⟩]
def c80_5 : OL := [oF 24 0 2, oL 25 24, oF 26 0 3, oL 27 26, oB 28 .lss 25 27, oM 23 28]
def c80_6 : OL := [oF 29 0 2, oL 30 29, oN 31 .add 30 1, oF 32 0 2, oT 1 32 31]
def c80_7 : OL := [oF 34 0 2, oL 35 34, oF 36 0 3, oL 37 36, oB 38 .gtr 35 37, oM 33 38]
def c80_8 : OL := [oF 39 0 2, oL 40 39, oN 41 .sub 40 1, oF 42 0 2, oT 1 42 41]
def c80_9 : OL := [oF 44 1 2, oL 45 44, oF 46 1 3, oL 47 46, oB 48 .lss 45 47, oM 43 48]
def Jxr : OL := [oF 49 1 2, oL 50 49, oN 51 .add 50 1, oF 52 1 2, oT 1 52 51]
def J1b : OL := [oF 19 1 2, oL 20 19, oN 21 .sub 20 1, oF 22 1 2, oT 1 22 21]
def J41 : OL := [oM 53 5, oA 54 2 2, ⟨some 55, .bslice 1 2 27 [.int .i64 0, .int .i64 0] [(0, 2, (.t 54))], none⟩, ⟨some 56, .app 2 16 27 [.int .i64 0, .int .i64 0] (.t 53) (.t 55), none⟩, oM 5 56]
def J3z : LC := (.seq (.seq (.reg false c80_4) (.cond (.t 18) .skip (.seq (.trim [5]) (.exit 0)))) (.blk 1 (.seq (.blk 2 (.seq (.reg false c80_5) (.cond (.t 23) (.reg false c80_6) (.seq (.reg false c80_7) (.cond (.t 33) (.reg false c80_8) (.seq (.reg false c80_9) (.cond (.t 43) (.reg false Jxr) (.reg false J1b)))))))) (.reg false J41))))
def c80_14 : OL := [oM 57 5, oM 4 57]
def lc80 : LC := (.seq (.reg false c80_0) (.seq (.seq (.reg false c80_1) (.cond (.t 13) (.seq (.reg false c80_2) .ret) .skip)) (.seq (.reg false c80_3) (.seq (.blk 0 (.loop [2, 3, 5] J3z)) (.seq (.reg false c80_14) .ret)))))
def lf80 : LFunc := ⟨2, [.tmp 4], true, lc80⟩
def hi80 : Q1 := ⟨[], [none, none, none, none, none, none, some [2, 3, 5], none, some [5], none, none, none, none, none, none, none, none], [], []⟩
theorem lf80_ok : Q6 Try.prog hi80 true Try.f80 = lf80.o := by kernel_rfl
def c81_0 : OL := [⟨some 4, .mov (.c (.nils)), none⟩]
def c81_1 : OL := [⟨some 5, .mov (.c (.nils)), none⟩]
def c81_2 : OL := [oC 6 0]
def c81_3 : OL := [oM 11 6, oM 12 0, oE 13 12, oB 14 .lss 11 13]
def c81_4 : OL := [oM 17 5, oM 18 0, oM 19 6, oI 20 2 18 19, oF 21 0 20, oL 22 21, oM 23 0, oM 24 6, oI 25 2 23 24, oF 26 1 25, oL 27 26, ⟨some 28, .bslice 2 1 3 [.int .i64 0] [(0, 1, (.t 22)), (1, 1, (.t 27))], none⟩, ⟨some 29, .app 1 8 3 [.int .i64 0] (.t 17) (.t 28), none⟩, oM 5 29]
def c81_5 : OL := [oM 15 6, oN 16 .add 15 1, oM 6 16]
def J4c : LC := (.seq (.seq (.reg false c81_3) (.cond (.t 14) .skip (.seq (.trim [1, 5]) (.exit 0)))) (.seq (.blk 1 (.reg true c81_4)) (.reg false c81_5)))
def c81_7 : OL := [oC 7 0]
def c81_8 : OL := [oM 30 7, oM 31 1, oE 32 31, oB 33 .lss 30 32]
def c81_9 : OL := [oM 36 5, oM 37 1, oM 38 7, oI 39 2 37 38, oF 40 0 39, oL 41 40, oM 42 1, oM 43 7, oI 44 2 42 43, oF 45 1 44, oL 46 45, ⟨some 47, .bslice 2 1 3 [.int .i64 0] [(0, 1, (.t 41)), (1, 1, (.t 46))], none⟩, ⟨some 48, .app 1 8 3 [.int .i64 0] (.t 36) (.t 47), none⟩, oM 5 48]
def J34 : OL := [oM 34 7, oN 35 .add 34 1, oM 7 35]
def Jz0 : LC := (.seq (.seq (.reg false c81_8) (.cond (.t 33) .skip (.seq (.trim [5]) (.exit 2)))) (.seq (.blk 3 (.reg true c81_9)) (.reg false J34)))
def c81_12 : OL := [oC 8 1]
def J2x : OL := [oM 49 8, oM 50 5, oE 51 50, oB 52 .lss 49 51]
def Jzw : OL := [oM 55 8, oM 9 55]
def J6f : OL := [oM 56 9, oN 57 .gtr 56 0, oM 58 57, oMg 59 5 58 true, oMg 60 9 58 true, oIg 61 1 59 60 58 true, oLg 62 61 58 true, oMg 63 5 58 true, oMg 64 9 58 true, oNg 65 .sub 64 1 58 true, oIg 66 1 63 65 58 true, oLg 67 66 58 true, oBg 68 .lss 62 67 58 true, oP 69 58 68]
def J4k : OL := [oM 72 5, oM 73 9, oI 74 1 72 73, oL 75 74, oM 10 75]
def Jzd : OL := [oM 76 5, oM 77 9, oM 78 5, oM 79 9, oN 80 .sub 79 1, oI 81 1 78 80, oL 82 81, oI 83 1 76 77, oT 1 83 82]
def Jze : OL := [oM 84 5, oM 85 9, oN 86 .sub 85 1, oM 87 10, oI 88 1 84 86, oT 1 88 87]
def Jxu : OL := [oM 70 9, oN 71 .sub 70 1, oM 9 71]
def Jt8 : LC := (.seq (.seq (.reg true J6f) (.cond (.t 69) .skip (.seq (.trim [5, 8]) (.exit 6)))) (.seq (.blk 7 (.seq (.reg false J4k) (.seq (.reg false Jzd) (.reg false Jze)))) (.reg false Jxu)))
def J3f : OL := [oM 53 8, oN 54 .add 53 1, oM 8 54]
def J3u : LC := (.seq (.seq (.reg false J2x) (.cond (.t 52) .skip (.seq (.trim [5]) (.exit 4)))) (.seq (.blk 5 (.seq (.reg false Jzw) (.blk 6 (.loop [5, 8, 9] Jt8)))) (.reg false J3f)))
def c81_23 : OL := [oM 89 5, oM 4 89]
def lc81 : LC := (.seq (.reg false c81_0) (.seq (.reg false c81_1) (.seq (.seq (.reg false c81_2) (.blk 0 (.loop [0, 1, 5, 6] J4c))) (.seq (.seq (.reg false c81_7) (.blk 2 (.loop [1, 5, 7] Jz0))) (.seq (.seq (.reg false c81_12) (.blk 4 (.loop [5, 8] J3u))) (.seq (.reg false c81_23) .ret))))))
def lf81 : LFunc := ⟨2, [.tmp 4], true, lc81⟩
def hi81 : Q1 := ⟨[], [none, none, none, some [0, 1, 5, 6], none, some [1, 5], none, none, none, none, some [1, 5, 7], none, some [5], none, none, none, none, some [5, 8], none, some [5], none, none, some [5, 8, 9], none, some [5, 8], none, none, none, none, none, none, none, none], [], []⟩
theorem lf81_ok : Q6 Try.prog hi81 true Try.f81 = lf81.o := by kernel_rfl
def c82_0 : OL := [⟨some 6, .mov (.c (.bool false)), none⟩]
def c82_1 : OL := [oM 7 0]
def c82_2 : OL := [oN 9 .eql 7 0, oM 8 9]
def c82_3 : OL := [oM 10 1, oM 11 10, oMg 12 2 11 false, oO 13 11 12, oM 6 13]
def c82_4 : OL := [oN 15 .eql 7 1, oM 14 15]
def c82_5 : OL := [oM 16 1, oM 17 16, oMg 18 2 17 true, oP 19 17 18, oM 6 19]
def c82_6 : OL := [oM 20 1, oM 21 20, oMg 22 2 21 true, oUg 23 22 21 true, oP 24 21 23, oM 6 24]
def lc82 : LC := (.seq (.reg false c82_0) (.seq (.seq (.reg false c82_1) (.blk 0 (.seq (.reg false c82_2) (.cond (.t 8) (.seq (.reg false c82_3) .ret) (.seq (.reg false c82_4) (.cond (.t 14) (.seq (.reg false c82_5) .ret) .skip)))))) (.seq (.reg false c82_6) .ret)))
def lf82 : LFunc := ⟨3, [.tmp 6], true, lc82⟩
def hi82 : Q1 := ⟨[], [none, none, none, none, none, none, none, none, none, none, none], [], []⟩
theorem lf82_ok : Q6 Try.prog hi82 true Try.f82 = lf82.o := by kernel_rfl
def c83_0 : OL := [⟨some 4, .mov (.c (.bool false)), none⟩]
def c83_1 : OL := [oC 5 0]
def c83_2 : OL := [oM 6 5, oM 7 0, oE 8 7, oB 9 .lss 6 8]
def c83_3 : OL := [oM 12 0, oM 13 5, oI 14 2 12 13, oF 15 0 14, oL 16 15, oM 17 1, oB 18 .leq 16 17, oM 19 18, oMg 20 1 19 true, oMg 21 0 19 true, oMg 22 5 19 true, oIg 23 2 21 22 19 true, oFg 24 1 23 19 true, oLg 25 24 19 true, oBg 26 .lss 20 25 19 true, oP 27 19 26]
def c83_4 : OL := [⟨some 4, .mov (.c (.bool true)), none⟩]
def c83_5 : OL := [oM 10 5, oN 11 .add 10 1, oM 5 11]
def J5p : LC := (.seq (.seq (.reg false c83_2) (.cond (.t 9) .skip (.seq (.trim []) (.exit 0)))) (.seq (.blk 1 (.seq (.reg false c83_3) (.cond (.t 27) (.seq (.reg false c83_4) (.seq (.trim [4]) .ret)) .skip))) (.reg false c83_5)))
def c83_7 : OL := [⟨some 4, .mov (.c (.bool false)), none⟩]
def lc83 : LC := (.seq (.reg false c83_0) (.seq (.seq (.reg false c83_1) (.blk 0 (.loop [0, 1, 5] J5p))) (.seq (.reg false c83_7) .ret)))
def lf83 : LFunc := ⟨2, [.tmp 4], true, lc83⟩
def hi83 : Q1 := ⟨[], [none, none, some [0, 1, 5], none, some [], none, none, none, some [4], none, none, none, none], [], []⟩
theorem lf83_ok : Q6 Try.prog hi83 true Try.f83 = lf83.o := by kernel_rfl
def c84_0 : OL := [⟨some 4, .mov (.c (.nils)), none⟩]
def c84_1 : OL := [oM 5 0, oE 6 5, oM 8 0, oM 9 1, ⟨some 10, .slc 2 (.t 8) (some (.t 9)) none, none⟩, oM 12 0, oM 13 1, ⟨some 14, .msk [7, 11, 15] (.slc 2 (.t 12) none (some (.t 13))), none⟩, ⟨some 7, .mkS 2 16 27 [.int .i64 0, .int .i64 0] (.c (.int .i64 0)) (.t 6), none⟩, ⟨some 11, .appn false [7, 11, 15] 2 16 27 [.int .i64 0, .int .i64 0] (.t 7) (.t 10), none⟩, ⟨some 15, .appn false [7, 11, 15] 2 16 27 [.int .i64 0, .int .i64 0] (.t 11) (.t 14), none⟩, oM 4 15]
def lc84 : LC := (.seq (.reg false c84_0) (.seq (.reg true c84_1) .ret))
def lf84 : LFunc := ⟨2, [.tmp 4], true, lc84⟩
def hi84 : Q1 := ⟨[], [none, none, none], [(1, [0, 1, 3, 4, 5, 7, 8, 9, 2, 6, 10, 11])], [(1, [7, 11, 15], [14])]⟩
theorem lf84_ok : Q6 Try.prog hi84 true Try.f84 = lf84.o := by kernel_rfl
def c85_0 : OL := [⟨some 2, .box (.t 0), none⟩, ⟨some 3, .box (.t 1), none⟩, ⟨some 4, .mov (.c (.bool false)), none⟩]
def c85_1 : OL := [oA 5 1 2, ⟨some 6, .callp 21 [(.t 5)], none⟩, oM 7 6, oAg 8 1 2 7 true, oFg 9 1 3 7 true, oLg 10 9 7 true, ⟨some 11, .callp 90 [(.t 8), (.t 10)], some (7, true)⟩, oFg 12 0 3 7 true, oLg 13 12 7 true, ⟨some 14, .callp 89 [(.t 11), (.t 13)], some (7, true)⟩, oP 15 7 14, oM 4 15]
def lc85 : LC := (.seq (.reg false c85_0) (.seq (.reg true c85_1) .ret))
def lf85 : LFunc := ⟨2, [.tmp 4], true, lc85⟩
def hi85 : Q1 := ⟨[], [none, none, none], [], []⟩
theorem lf85_ok : Q6 Try.prog hi85 true Try.f85 = lf85.o := by kernel_rfl
def c86_0 : OL := [⟨some 3, .box (.t 0), none⟩, ⟨some 4, .box (.t 1), none⟩, ⟨some 5, .box (.t 2), none⟩, ⟨some 6, .mov (.c (.nilm)), none⟩]
def c86_1 : OL := [⟨some 14, .mkM, none⟩, oA 15 2 4, oA 16 2 4, ⟨none, .setM true [false, false] (.t 14) (.t 15) (.t 16), none⟩, oM 17 14, oM 7 17]
def c86_2 : OL := [oA 18 2 4, ⟨some 19, .bslice 1 2 27 [.int .i64 0, .int .i64 0] [(0, 2, (.t 18))], none⟩, oM 8 19]
def c86_3 : OL := [oM 20 8, oE 21 20, oN 22 .gtr 21 0]
def c86_4 : OL := [oM 23 8, ⟨some 24, .iaddr 2 (.t 23) (.c (.int .i64 0)), none⟩, oA 25 2 24, ⟨some 9, .alloc [.int .i64 0, .int .i64 0], none⟩, oT 2 9 25]
def c86_5 : OL := [oM 26 8, ⟨some 27, .slc 2 (.t 26) (some (.c (.int .i64 1))) none, none⟩, oM 8 27]
def c86_6 : OL := [oA 28 2 9, oA 29 2 5, ⟨some 30, .eqv false true [false, false] (.t 28) (.t 29), none⟩]
def c86_7 : OL := [oF 31 0 9, oL 32 31, oN 33 .add 32 1, oF 34 1 9, oL 35 34, ⟨some 36, .build [.int .i64 0, .int .i64 0] [(0, 1, (.t 33)), (1, 1, (.t 35))], none⟩, oF 37 0 9, oL 38 37, oN 39 .sub 38 1, oF 40 1 9, oL 41 40, ⟨some 42, .build [.int .i64 0, .int .i64 0] [(0, 1, (.t 39)), (1, 1, (.t 41))], none⟩, oF 43 0 9, oL 44 43, oF 45 1 9, oL 46 45, oN 47 .add 46 1, ⟨some 48, .build [.int .i64 0, .int .i64 0] [(0, 1, (.t 44)), (1, 1, (.t 47))], none⟩, oF 49 0 9, oL 50 49, oF 51 1 9, oL 52 51, oN 53 .sub 52 1, ⟨some 54, .build [.int .i64 0, .int .i64 0] [(0, 1, (.t 50)), (1, 1, (.t 53))], none⟩, ⟨some 55, .build [.int .i64 0, .int .i64 0, .int .i64 0, .int .i64 0, .int .i64 0, .int .i64 0, .int .i64 0, .int .i64 0] [(0, 2, (.t 36)), (2, 2, (.t 42)), (4, 2, (.t 48)), (6, 2, (.t 54))], none⟩, oC 56 0]
def c86_8 : OL := [oN 57 .lss 56 4]
def c86_9 : OL := [⟨some 58, .idx 4 2 true (.t 55) (.t 56), none⟩, ⟨some 11, .alloc [.int .i64 0, .int .i64 0], none⟩, oT 2 11 58]
def J3b : OL := [oM 60 7, oA 61 2 11, ⟨some 62, .look true true [false, false] (.agg [.int .i64 0, .int .i64 0]) (.t 60) (.t 61), none⟩, oM 59 62, ⟨some 63, .ext (.t 59) 0, none⟩, ⟨some 64, .ext (.t 59) 1, none⟩, ⟨some 12, .alloc [.int .i64 0, .int .i64 0], none⟩, oT 2 12 63, oM 13 64]
def Jx5 : OL := [oM 65 13, oU 66 65, oM 67 66, oAg 68 1 3 67 true, oAg 69 2 11 67 true, ⟨some 70, .callp 85 [(.t 68), (.t 69)], some (67, true)⟩, oP 71 67 70]
def J3x : OL := [oM 72 7, oA 73 2 11, oA 74 2 9, ⟨none, .setM true [false, false] (.t 72) (.t 73) (.t 74), none⟩]
def Jzs : OL := [oM 75 8, oA 76 2 11, ⟨some 77, .bslice 1 2 27 [.int .i64 0, .int .i64 0] [(0, 2, (.t 76))], none⟩, ⟨some 78, .app 2 16 27 [.int .i64 0, .int .i64 0] (.t 75) (.t 77), none⟩, oM 8 78]
def Jz4 : OL := [oN 79 .add 56 1, oM 56 79]
def Ju0 : LC := (.seq (.reg false c86_8) (.seq (.cond (.t 57) .skip (.seq (.trim [3, 5, 7, 8]) (.exit 2))) (.seq (.blk 3 (.seq (.reg false c86_9) (.seq (.reg false J3b) (.seq (.reg false Jx5) (.cond (.t 71) (.seq (.reg false J3x) (.reg false Jzs)) .skip))))) (.reg false Jz4))))
def J19 : LC := (.seq (.seq (.reg false c86_3) (.cond (.t 22) .skip (.seq (.trim [7]) (.exit 0)))) (.blk 1 (.seq (.reg false c86_4) (.seq (.reg false c86_5) (.seq (.seq (.reg false c86_6) (.cond (.t 30) (.seq (.trim [7]) (.exit 0)) .skip)) (.seq (.reg false c86_7) (.blk 2 (.loop [3, 5, 7, 8, 9, 55, 56] Ju0))))))))
def c86_17 : OL := [oM 80 7, oM 6 80]
def lc86 : LC := (.seq (.reg false c86_0) (.seq (.reg false c86_1) (.seq (.seq (.reg false c86_2) (.blk 0 (.loop [3, 5, 7, 8] J19))) (.seq (.reg false c86_17) .ret))))
def lf86 : LFunc := ⟨3, [.tmp 6], true, lc86⟩
def hi86 : Q1 := ⟨[], [none, none, none, some [3, 5, 7, 8], none, some [7], none, none, none, none, some [7], none, none, some [3, 5, 7, 8, 9, 55, 56], none, some [3, 5, 7, 8], none, none, none, none, none, none, none, none, none], [], []⟩
theorem lf86_ok : Q6 Try.prog hi86 true Try.f86 = lf86.o := by kernel_rfl
def c87_0 : OL := [oM 4 0, oE 5 4, oN 6 .sub 5 1, oC 2 0, oM 3 6]
def c87_1 : OL := [oM 7 2, oM 8 3, oB 9 .lss 7 8]
def c87_2 : OL := [oM 14 0, oM 15 2, oM 16 0, oM 17 3, oM 18 0, oM 19 3, oI 20 2 18 19, oA 21 2 20, oM 22 0, oM 23 2, oI 24 2 22 23, oA 25 2 24, oI 26 2 14 15, oT 2 26 21, oI 27 2 16 17, oT 2 27 25]
def c87_3 : OL := [oM 10 2, oN 11 .add 10 1, oM 12 3, oN 13 .sub 12 1, oM 2 11, oM 3 13]
def J4p : LC := (.seq (.seq (.reg false c87_1) (.cond (.t 9) .skip (.seq (.trim []) (.exit 0)))) (.seq (.blk 1 (.reg true c87_2)) (.reg false c87_3)))
def lc87 : LC := (.seq (.reg false c87_0) (.blk 0 (.loop [0, 2, 3] J4p)))
def lf87 : LFunc := ⟨1, [], false, lc87⟩
def hi87 : Q1 := ⟨[], [none, some [0, 2, 3], none, some [], none, none], [], []⟩
theorem lf87_ok : Q6 Try.prog hi87 false Try.f87 = lf87.o := by kernel_rfl
def c88_0 : OL := [⟨some 1, .box (.t 0), none⟩, ⟨some 2, .mov (.c (.bool false)), none⟩]
def c88_1 : OL := [oF 3 0 1, oL 4 3, oN 5 .geq 4 (-4096), oM 6 5, oFg 7 0 1 6 true, oLg 8 7 6 true, oNg 9 .lss 8 4096 6 true, oP 10 6 9, oM 11 10, oFg 12 1 1 11 true, oLg 13 12 11 true, oNg 14 .geq 13 (-4096) 11 true, oP 15 11 14, oM 16 15, oFg 17 1 1 16 true, oLg 18 17 16 true, oNg 19 .lss 18 4096 16 true, oP 20 16 19, oM 2 20]
def lc88 : LC := (.seq (.reg false c88_0) (.seq (.reg false c88_1) .ret))
def lf88 : LFunc := ⟨1, [.tmp 2], true, lc88⟩
def hi88 : Q1 := ⟨[], [none, none, none], [], []⟩
theorem lf88_ok : Q6 Try.prog hi88 true Try.f88 = lf88.o := by kernel_rfl
def c89_0 : OL := [⟨some 3, .box (.t 1), none⟩, ⟨some 4, .mov (.c (.bool false)), none⟩]
def c89_1 : OL := [oM 5 0, ⟨some 6, .callp 39 [(.t 5)], none⟩, oU 7 6]
def c89_2 : OL := [⟨some 4, .mov (.c (.bool false)), none⟩]
def c89_3 : OL := [oM 8 0, ⟨some 9, .mkfn 92 [(.t 3)], none⟩, ⟨some 10, .callq 91 [(.t 8), (.t 9)], none⟩, oM 4 10]
def lc89 : LC := (.seq (.reg false c89_0) (.seq (.seq (.reg false c89_1) (.cond (.t 7) (.seq (.reg false c89_2) .ret) .skip)) (.seq (.reg false c89_3) .ret)))
def lf89 : LFunc := ⟨2, [.tmp 4], true, lc89⟩
def hi89 : Q1 := ⟨[(10, .q)], [none, none, none, none, none, none, none], [], []⟩
theorem lf89_ok : Q6 Try.prog hi89 true Try.f89 = lf89.o := by kernel_rfl
def c90_0 : OL := [⟨some 2, .box (.t 0), none⟩, ⟨some 4, .mov (.c (.nils)), none⟩]
def c90_1 : OL := [oF 8 0 2, oL 9 8, oM 10 1, ⟨some 11, .callq 93 [(.t 9), (.t 10), (.c (.fn 94 []))], none⟩, oM 7 11, ⟨some 12, .ext (.t 7) 0, none⟩, ⟨some 13, .ext (.t 7) 1, none⟩, oM 5 12, oM 6 13]
def c90_2 : OL := [oM 14 6, oU 15 14]
def c90_3 : OL := [⟨some 4, .mov (.c (.nils)), none⟩]
def c90_4 : OL := [oF 16 0 2, oL 17 16, oM 18 5, oI 19 2 17 18, oF 20 1 19, oL 21 20, oM 4 21]
def lc90 : LC := (.seq (.reg false c90_0) (.seq (.reg false c90_1) (.seq (.seq (.reg false c90_2) (.cond (.t 15) (.seq (.reg false c90_3) .ret) .skip)) (.seq (.reg false c90_4) .ret))))
def lf90 : LFunc := ⟨2, [.tmp 4], true, lc90⟩
def hi90 : Q1 := ⟨[(11, .q)], [none, none, none, none, none, none, none, none], [], []⟩
theorem lf90_ok : Q6 Try.prog hi90 true Try.f90 = lf90.o := by kernel_rfl
def c91_0 : OL := [⟨some 4, .mov (.c (.bool false)), none⟩]
def c91_1 : OL := [oM 5 0, oM 6 1, ⟨some 7, .callq 96 [(.t 5), (.t 6)], none⟩, oN 8 .geq 7 0, oM 4 8]
def lc91 : LC := (.seq (.reg false c91_0) (.seq (.reg false c91_1) .ret))
def lf91 : LFunc := ⟨2, [.tmp 4], true, lc91⟩
def hi91 : Q1 := ⟨[(7, .q)], [none, none, none], [], []⟩
theorem lf91_ok : Q6 Try.prog hi91 true Try.f91 = lf91.o := by kernel_rfl
def c92_0 : OL := [⟨some 2, .box (.t 0), none⟩, ⟨some 3, .mov (.c (.bool false)), none⟩]
def c92_1 : OL := [oF 4 0 2, oL 5 4, oL 6 1, oB 7 .leq 5 6, oM 8 7, oLg 9 1 8 true, oFg 10 1 2 8 true, oLg 11 10 8 true, oBg 12 .lss 9 11 8 true, oP 13 8 12, oM 3 13]
def lc92 : LC := (.seq (.reg false c92_0) (.seq (.reg false c92_1) .ret))
def lf92 : LFunc := ⟨2, [.tmp 3], true, lc92⟩
def hi92 : Q1 := ⟨[], [none, none, none], [], []⟩
theorem lf92_ok : Q6 Try.prog hi92 true Try.f92 = lf92.o := by kernel_rfl
def c93_0 : OL := [oC 6 0, ⟨some 7, .mov (.c (.bool false)), none⟩]
def c93_1 : OL := [oM 12 0, oE 13 12, oM 8 13]
def c93_2 : OL := [oM 14 8, oC 9 0, oM 10 14]
def c93_3 : OL := [oM 15 9, oM 16 10, oB 17 .lss 15 16]
def c93_4 : OL := [oM 18 9, oM 19 10, oB 20 .add 18 19, ⟨some 21, .conv .u64 (.t 20), none⟩, ⟨some 22, .shf .shr (.t 21) (.c (.int .u64 1)), none⟩, ⟨some 23, .conv .i64 (.t 22), none⟩, oM 11 23]
def c93_5 : OL := [oM 24 2, oM 25 0, oM 26 11, oI 27 2 25 26, oA 28 2 27, oM 29 1, ⟨some 30, .callv (.t 24) [(.t 28), (.t 29)], none⟩, oN 31 .lss 30 0]
def c93_6 : OL := [oM 32 11, oN 33 .add 32 1, oM 9 33]
def c93_7 : OL := [oM 34 11, oM 10 34]
def J0c : LC := (.seq (.seq (.reg false c93_3) (.cond (.t 17) .skip (.seq (.trim [0, 1, 2, 8, 9]) (.exit 0)))) (.blk 1 (.seq (.reg false c93_4) (.seq (.reg false c93_5) (.cond (.t 31) (.reg false c93_6) (.reg false c93_7))))))
def c93_9 : OL := [oM 35 9, oM 36 9, oM 37 8, oB 38 .lss 36 37, oM 39 38, oMg 40 2 39 true, oMg 41 0 39 true, oMg 42 9 39 true, oIg 43 2 41 42 39 true, oAg 44 2 43 39 true, oMg 45 1 39 true, ⟨some 46, .callv (.t 40) [(.t 44), (.t 45)], some (39, true)⟩, oNg 47 .eql 46 0 39 true, oP 48 39 47, oM 6 35, oM 7 48]
def lc93 : LC := (.seq (.reg false c93_0) (.seq (.reg false c93_1) (.seq (.reg false c93_2) (.seq (.blk 0 (.loop [0, 1, 2, 8, 9, 10] J0c)) (.seq (.reg false c93_9) .ret)))))
def lf93 : LFunc := ⟨3, [.tmp 6, .tmp 7], true, lc93⟩
def hi93 : Q1 := ⟨[], [none, none, none, some [0, 1, 2, 8, 9, 10], none, some [0, 1, 2, 8, 9], none, none, none, none, none, none], [], []⟩
theorem lf93_ok : Q6 Try.prog hi93 true Try.f93 = lf93.o := by kernel_rfl
def c94_0 : OL := [⟨some 2, .box (.t 0), none⟩, oC 4 0]
def c94_1 : OL := [oF 5 0 2, oL 6 5, oM 7 1, ⟨some 8, .callp 95 [(.t 6), (.t 7)], none⟩, oM 4 8]
def lc94 : LC := (.seq (.reg false c94_0) (.seq (.reg false c94_1) .ret))
def lf94 : LFunc := ⟨2, [.tmp 4], true, lc94⟩
def hi94 : Q1 := ⟨[], [none, none, none], [], []⟩
theorem lf94_ok : Q6 Try.prog hi94 true Try.f94 = lf94.o := by kernel_rfl
def c95_0 : OL := [oC 4 0]
def c95_1 : OL := [oM 7 0, ⟨some 8, .callp 97 [(.t 7)], none⟩, oM 5 8]
def c95_2 : OL := [oM 9 1, ⟨some 10, .callp 97 [(.t 9)], none⟩, oM 6 10]
def c95_3 : OL := [oM 11 5]
def c95_4 : OL := [oM 12 6]
def c95_5 : OL := [oC 4 0]
def c95_6 : OL := [oC 4 (-1)]
def c95_7 : OL := [oM 13 6]
def c95_8 : OL := [oC 4 1]
def c95_9 : OL := [oM 14 0, oM 15 1, oB 16 .lss 14 15]
def c95_10 : OL := [oC 4 (-1)]
def c95_11 : OL := [oM 17 0, oM 18 1, oB 19 .gtr 17 18]
def c95_12 : OL := [oC 4 1]
def c95_13 : OL := [oC 4 0]
def lc95 : LC := (.seq (.reg false c95_0) (.seq (.reg false c95_1) (.seq (.reg false c95_2) (.seq (.seq (.reg false c95_3) (.cond (.t 11) (.seq (.seq (.reg false c95_4) (.cond (.t 12) (.seq (.reg false c95_5) .ret) .skip)) (.seq (.reg false c95_6) .ret)) .skip)) (.seq (.seq (.reg false c95_7) (.cond (.t 13) (.seq (.reg false c95_8) .ret) .skip)) (.seq (.seq (.reg false c95_9) (.cond (.t 16) (.seq (.reg false c95_10) .ret) .skip)) (.seq (.seq (.reg false c95_11) (.cond (.t 19) (.seq (.reg false c95_12) .ret) .skip)) (.seq (.reg false c95_13) .ret))))))))
def lf95 : LFunc := ⟨2, [.tmp 4], true, lc95⟩
def hi95 : Q1 := ⟨[], [none, none, none, none, none, none, none, none, none, none, none, none, none, none, none, none, none, none, none, none, none, none, none, none, none], [], []⟩
theorem lf95_ok : Q6 Try.prog hi95 true Try.f95 = lf95.o := by kernel_rfl
def c96_0 : OL := [oC 4 0]
def c96_1 : OL := [oM 6 0, oE 7 6, oC 8 0]
def c96_2 : OL := [oB 9 .lss 8 7]
def c96_3 : OL := [oM 10 8, oM 5 10]
def c96_4 : OL := [oM 11 1, oM 12 0, oM 13 5, oI 14 2 12 13, oA 15 2 14, ⟨some 16, .callv (.t 11) [(.t 15)], none⟩]
def c96_5 : OL := [oM 17 5, oM 4 17]
def c96_6 : OL := [oN 18 .add 8 1, oM 8 18]
def J4e : LC := (.seq (.reg false c96_2) (.seq (.cond (.t 9) .skip (.seq (.trim []) (.exit 0))) (.seq (.blk 1 (.seq (.reg false c96_3) (.seq (.reg false c96_4) (.cond (.t 16) (.seq (.reg false c96_5) (.seq (.trim [4]) .ret)) .skip)))) (.reg false c96_6))))
def c96_8 : OL := [oC 4 (-1)]
def lc96 : LC := (.seq (.reg false c96_0) (.seq (.seq (.reg false c96_1) (.blk 0 (.loop [0, 1, 7, 8] J4e))) (.seq (.reg false c96_8) .ret)))
def lf96 : LFunc := ⟨2, [.tmp 4], true, lc96⟩
def hi96 : Q1 := ⟨[], [none, none, some [0, 1, 7, 8], none, some [], none, none, none, none, some [4], none, none, none, none], [], []⟩
theorem lf96_ok : Q6 Try.prog hi96 true Try.f96 = lf96.o := by kernel_rfl
def c97_0 : OL := [⟨some 2, .mov (.c (.bool false)), none⟩]
def c97_1 : OL := [oM 3 0, oM 4 0, oB 5 .neq 3 4, oM 2 5]
def lc97 : LC := (.seq (.reg false c97_0) (.seq (.reg false c97_1) .ret))
def lf97 : LFunc := ⟨1, [.tmp 2], true, lc97⟩
def hi97 : Q1 := ⟨[], [none, none, none], [], []⟩
theorem lf97_ok : Q6 Try.prog hi97 true Try.f97 = lf97.o := by kernel_rfl
def env : Env where
 code := fun f => match f with
  | 3 => some lf3
  | 5 => some lf5
  | 6 => some lf6
  | 7 => some lf7
  | 8 => some lf8
  | 9 => some lf9
  | 10 => some lf10
  | 11 => some lf11
  | 12 => some lf12
  | 14 => some lf14
  | 15 => some lf15
  | 16 => some lf16
  | 17 => some lf17
  | 18 => some lf18
  | 19 => some lf19
  | 20 => some lf20
  | 21 => some lf21
  | 22 => some lf22
  | 23 => some lf23
  | 24 => some lf24
  | 25 => some lf25
  | 26 => some lf26
  | 27 => some lf27
  | 28 => some lf28
  | 29 => some lf29
  | 30 => some lf30
  | 31 => some lf31
  | 32 => some lf32
  | 33 => some lf33
  | 35 => some lf35
  | 36 => some lf36
  | 37 => some lf37
  | 38 => some lf38
  | 39 => some lf39
  | 40 => some lf40
  | 41 => some lf41
  | 42 => some lf42
  | 43 => some lf43
  | 44 => some lf44
  | 45 => some lf45
  | 46 => some lf46
  | 47 => some lf47
  | 48 => some lf48
  | 49 => some lf49
  | 50 => some lf50
  | 51 => some lf51
  | 52 => some lf52
  | 53 => some lf53
  | 54 => some lf54
  | 55 => some lf55
  | 56 => some lf56
  | 57 => some lf57
  | 58 => some lf58
  | 59 => some lf59
  | 60 => some lf60
  | 61 => some lf61
  | 62 => some lf62
  | 63 => some lf63
  | 64 => some lf64
  | 65 => some lf65
  | 66 => some lf66
  | 67 => some lf67
  | 68 => some lf68
  | 69 => some lf69
  | 70 => some lf70
  | 71 => some lf71
  | 72 => some lf72
  | 73 => some lf73
  | 74 => some lf74
  | 75 => some lf75
  | 76 => some lf76
  | 77 => some lf77
  | 78 => some lf78
  | 79 => some lf79
  | 80 => some lf80
  | 81 => some lf81
  | 82 => some lf82
  | 83 => some lf83
  | 84 => some lf84
  | 85 => some lf85
  | 86 => some lf86
  | 87 => some lf87
  | 88 => some lf88
  | 89 => some lf89
  | 90 => some lf90
  | 91 => some lf91
  | 92 => some lf92
  | 93 => some lf93
  | 94 => some lf94
  | 95 => some lf95
  | 96 => some lf96
  | 97 => some lf97
  | _ => none
 ext := fun _ _ _ => none
theorem env_ok : J2a Try.prog env where
 mixed := by kernel_rfl
 code := fun f lf h => by
  simp only [env] at h
  split at h
  ·injection h with h; subst h; exact ⟨Try.f3, hi3, Try.func3, lf3_ok⟩
  ·injection h with h; subst h; exact ⟨Try.f5, hi5, Try.func5, lf5_ok⟩
  ·injection h with h; subst h; exact ⟨Try.f6, hi6, Try.func6, lf6_ok⟩
  ·injection h with h; subst h; exact ⟨Try.f7, hi7, Try.func7, lf7_ok⟩
  ·injection h with h; subst h; exact ⟨Try.f8, hi8, Try.func8, lf8_ok⟩
  ·injection h with h; subst h; exact ⟨Try.f9, hi9, Try.func9, lf9_ok⟩
  ·injection h with h; subst h; exact ⟨Try.f10, hi10, Try.func10, lf10_ok⟩
  ·injection h with h; subst h; exact ⟨Try.f11, hi11, Try.func11, lf11_ok⟩
  ·injection h with h; subst h; exact ⟨Try.f12, hi12, Try.func12, lf12_ok⟩
  ·injection h with h; subst h; exact ⟨Try.f14, hi14, Try.func14, lf14_ok⟩
  ·injection h with h; subst h; exact ⟨Try.f15, hi15, Try.func15, lf15_ok⟩
  ·injection h with h; subst h; exact ⟨Try.f16, hi16, Try.func16, lf16_ok⟩
  ·injection h with h; subst h; exact ⟨Try.f17, hi17, Try.func17, lf17_ok⟩
  ·injection h with h; subst h; exact ⟨Try.f18, hi18, Try.func18, lf18_ok⟩
  ·injection h with h; subst h; exact ⟨Try.f19, hi19, Try.func19, lf19_ok⟩
  ·injection h with h; subst h; exact ⟨Try.f20, hi20, Try.func20, lf20_ok⟩
  ·injection h with h; subst h; exact ⟨Try.f21, hi21, Try.func21, lf21_ok⟩
  ·injection h with h; subst h; exact ⟨Try.f22, hi22, Try.func22, lf22_ok⟩
  ·injection h with h; subst h; exact ⟨Try.f23, hi23, Try.func23, lf23_ok⟩
  ·injection h with h; subst h; exact ⟨Try.f24, hi24, Try.func24, lf24_ok⟩
  ·injection h with h; subst h; exact ⟨Try.f25, hi25, Try.func25, lf25_ok⟩
  ·injection h with h; subst h; exact ⟨Try.f26, hi26, Try.func26, lf26_ok⟩
  ·injection h with h; subst h; exact ⟨Try.f27, hi27, Try.func27, lf27_ok⟩
  ·injection h with h; subst h; exact ⟨Try.f28, hi28, Try.func28, lf28_ok⟩
  ·injection h with h; subst h; exact ⟨Try.f29, hi29, Try.func29, lf29_ok⟩
  ·injection h with h; subst h; exact ⟨Try.f30, hi30, Try.func30, lf30_ok⟩
  ·injection h with h; subst h; exact ⟨Try.f31, hi31, Try.func31, lf31_ok⟩
  ·injection h with h; subst h; exact ⟨Try.f32, hi32, Try.func32, lf32_ok⟩
  ·injection h with h; subst h; exact ⟨Try.f33, hi33, Try.func33, lf33_ok⟩
  ·injection h with h; subst h; exact ⟨Try.f35, hi35, Try.func35, lf35_ok⟩
  ·injection h with h; subst h; exact ⟨Try.f36, hi36, Try.func36, lf36_ok⟩
  ·injection h with h; subst h; exact ⟨Try.f37, hi37, Try.func37, lf37_ok⟩
  ·injection h with h; subst h; exact ⟨Try.f38, hi38, Try.func38, lf38_ok⟩
  ·injection h with h; subst h; exact ⟨Try.f39, hi39, Try.func39, lf39_ok⟩
  ·injection h with h; subst h; exact ⟨Try.f40, hi40, Try.func40, lf40_ok⟩
  ·injection h with h; subst h; exact ⟨Try.f41, hi41, Try.func41, lf41_ok⟩
  ·injection h with h; subst h; exact ⟨Try.f42, hi42, Try.func42, lf42_ok⟩
  ·injection h with h; subst h; exact ⟨Try.f43, hi43, Try.func43, lf43_ok⟩
  ·injection h with h; subst h; exact ⟨Try.f44, hi44, Try.func44, lf44_ok⟩
  ·injection h with h; subst h; exact ⟨Try.f45, hi45, Try.func45, lf45_ok⟩
  ·injection h with h; subst h; exact ⟨Try.f46, hi46, Try.func46, lf46_ok⟩
  ·injection h with h; subst h; exact ⟨Try.f47, hi47, Try.func47, lf47_ok⟩
  ·injection h with h; subst h; exact ⟨Try.f48, hi48, Try.func48, lf48_ok⟩
  ·injection h with h; subst h; exact ⟨Try.f49, hi49, Try.func49, lf49_ok⟩
  ·injection h with h; subst h; exact ⟨Try.f50, hi50, Try.func50, lf50_ok⟩
  ·injection h with h; subst h; exact ⟨Try.f51, hi51, Try.func51, lf51_ok⟩
  ·injection h with h; subst h; exact ⟨Try.f52, hi52, Try.func52, lf52_ok⟩
  ·injection h with h; subst h; exact ⟨Try.f53, hi53, Try.func53, lf53_ok⟩
  ·injection h with h; subst h; exact ⟨Try.f54, hi54, Try.func54, lf54_ok⟩
  ·injection h with h; subst h; exact ⟨Try.f55, hi55, Try.func55, lf55_ok⟩
  ·injection h with h; subst h; exact ⟨Try.f56, hi56, Try.func56, lf56_ok⟩
  ·injection h with h; subst h; exact ⟨Try.f57, hi57, Try.func57, lf57_ok⟩
  ·injection h with h; subst h; exact ⟨Try.f58, hi58, Try.func58, lf58_ok⟩
  ·injection h with h; subst h; exact ⟨Try.f59, hi59, Try.func59, lf59_ok⟩
  ·injection h with h; subst h; exact ⟨Try.f60, hi60, Try.func60, lf60_ok⟩
  ·injection h with h; subst h; exact ⟨Try.f61, hi61, Try.func61, lf61_ok⟩
  ·injection h with h; subst h; exact ⟨Try.f62, hi62, Try.func62, lf62_ok⟩
  ·injection h with h; subst h; exact ⟨Try.f63, hi63, Try.func63, lf63_ok⟩
  ·injection h with h; subst h; exact ⟨Try.f64, hi64, Try.func64, lf64_ok⟩
  ·injection h with h; subst h; exact ⟨Try.f65, hi65, Try.func65, lf65_ok⟩
  ·injection h with h; subst h; exact ⟨Try.f66, hi66, Try.func66, lf66_ok⟩
  ·injection h with h; subst h; exact ⟨Try.f67, hi67, Try.func67, lf67_ok⟩
  ·injection h with h; subst h; exact ⟨Try.f68, hi68, Try.func68, lf68_ok⟩
  ·injection h with h; subst h; exact ⟨Try.f69, hi69, Try.func69, lf69_ok⟩
  ·injection h with h; subst h; exact ⟨Try.f70, hi70, Try.func70, lf70_ok⟩
  ·injection h with h; subst h; exact ⟨Try.f71, hi71, Try.func71, lf71_ok⟩
  ·injection h with h; subst h; exact ⟨Try.f72, hi72, Try.func72, lf72_ok⟩
  ·injection h with h; subst h; exact ⟨Try.f73, hi73, Try.func73, lf73_ok⟩
  ·injection h with h; subst h; exact ⟨Try.f74, hi74, Try.func74, lf74_ok⟩
  ·injection h with h; subst h; exact ⟨Try.f75, hi75, Try.func75, lf75_ok⟩
  ·injection h with h; subst h; exact ⟨Try.f76, hi76, Try.func76, lf76_ok⟩
  ·injection h with h; subst h; exact ⟨Try.f77, hi77, Try.func77, lf77_ok⟩
  ·injection h with h; subst h; exact ⟨Try.f78, hi78, Try.func78, lf78_ok⟩
  ·injection h with h; subst h; exact ⟨Try.f79, hi79, Try.func79, lf79_ok⟩
  ·injection h with h; subst h; exact ⟨Try.f80, hi80, Try.func80, lf80_ok⟩
  ·injection h with h; subst h; exact ⟨Try.f81, hi81, Try.func81, lf81_ok⟩
  ·injection h with h; subst h; exact ⟨Try.f82, hi82, Try.func82, lf82_ok⟩
  ·injection h with h; subst h; exact ⟨Try.f83, hi83, Try.func83, lf83_ok⟩
  ·injection h with h; subst h; exact ⟨Try.f84, hi84, Try.func84, lf84_ok⟩
  ·injection h with h; subst h; exact ⟨Try.f85, hi85, Try.func85, lf85_ok⟩
  ·injection h with h; subst h; exact ⟨Try.f86, hi86, Try.func86, lf86_ok⟩
  ·injection h with h; subst h; exact ⟨Try.f87, hi87, Try.func87, lf87_ok⟩
  ·injection h with h; subst h; exact ⟨Try.f88, hi88, Try.func88, lf88_ok⟩
  ·injection h with h; subst h; exact ⟨Try.f89, hi89, Try.func89, lf89_ok⟩
  ·injection h with h; subst h; exact ⟨Try.f90, hi90, Try.func90, lf90_ok⟩
  ·injection h with h; subst h; exact ⟨Try.f91, hi91, Try.func91, lf91_ok⟩
  ·injection h with h; subst h; exact ⟨Try.f92, hi92, Try.func92, lf92_ok⟩
  ·injection h with h; subst h; exact ⟨Try.f93, hi93, Try.func93, lf93_ok⟩
  ·injection h with h; subst h; exact ⟨Try.f94, hi94, Try.func94, lf94_ok⟩
  ·injection h with h; subst h; exact ⟨Try.f95, hi95, Try.func95, lf95_ok⟩
  ·injection h with h; subst h; exact ⟨Try.f96, hi96, Try.func96, lf96_ok⟩
  ·injection h with h; subst h; exact ⟨Try.f97, hi97, Try.func97, lf97_ok⟩
  ·cases h
 ext := ⟨fun _ _ _ _ h => (by cases h), fun _ _ _ _ h => (by cases h), fun _ _ _ _ _ _ h => (by cases h)⟩
end Go.Proofs.Ytemehoioeoohmaa
